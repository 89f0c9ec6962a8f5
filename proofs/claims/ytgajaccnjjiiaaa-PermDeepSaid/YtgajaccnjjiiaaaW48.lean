/- Find: the search's closure: the walk. -/
import Derived.Test.YtgajaccnjjiiaaaW18
import Derived.StillTailTactics
import Derived.OrdersIn
import Derived.TacticsIn
import Derived.Deep.LoopGhost
import Derived.WalkMore
namespace Go.Proofs.Ytgajaccnjjiiaaa
open Go.RowKit Go.BigFrame

def fitsTo (p q s : List Int) (i : Nat) : Nat → Bool
  | 0 => true
  | k + 1 => fitsTo p q s i k && (decide (p[(s[k]?.getD 0).toNat]?.getD 0 < p[i]?.getD 0) == decide (q[k]?.getD 0 < q[s.length]?.getD 0))
theorem fitsTo_mono (p q s : List Int) (i : Nat) {k m : Nat} (h : k ≤ m) (hm : fitsTo p q s i m = true) : fitsTo p q s i k = true := by
  induction m with
  | zero => obtain rfl : k = 0 := by omega
            exact hm
  | succ m ih =>
    by_cases e : k = m + 1
    · subst e; exact hm
    · rw [fitsTo, Bool.and_eq_true] at hm
      exact ih (by omega) hm.1
/-- the first way to go on from the positions s, by positions from fr on -/
def srch (p q : List Int) : Nat → List Int → Nat → Option (List Int)
  | 0, s, _ => some s
  | d + 1, s, fr => (List.range' fr (p.length - fr)).findSome? fun i => if fitsTo p q s i s.length then srch p q d (s ++ [(i : Int)]) (i + 1) else none
def srchL (p q : List Int) (d : Nat) (s : List Int) (i : Nat) : Option (List Int) :=
  (List.range' i (p.length - i)).findSome? fun i => if fitsTo p q s i s.length then srch p q d (s ++ [(i : Int)]) (i + 1) else none
theorem srchL_end {p q : List Int} {d : Nat} {s : List Int} {i : Nat} (h : p.length ≤ i) : srchL p q d s i = none := by
  unfold srchL; rw [show p.length - i = 0 by omega]; rfl
theorem srchL_some {p q : List Int} {d : Nat} {s : List Int} {i : Nat} {l : List Int} (h : i < p.length) (hf : fitsTo p q s i s.length = true)
    (hr : srch p q d (s ++ [(i : Int)]) (i + 1) = some l) : srchL p q d s i = some l := by
  unfold srchL
  rw [show p.length - i = (p.length - (i + 1)) + 1 by omega, List.range'_succ, List.findSome?_cons, if_pos hf, hr]
theorem srchL_none {p q : List Int} {d : Nat} {s : List Int} {i : Nat} (h : i < p.length) (hf : fitsTo p q s i s.length = true)
    (hr : srch p q d (s ++ [(i : Int)]) (i + 1) = none) : srchL p q d s i = srchL p q d s (i + 1) := by
  unfold srchL
  rw [show p.length - i = (p.length - (i + 1)) + 1 by omega, List.range'_succ, List.findSome?_cons, if_pos hf, hr]
theorem srchL_miss {p q : List Int} {d : Nat} {s : List Int} {i : Nat} (h : i < p.length) (hf : fitsTo p q s i s.length = false) :
    srchL p q d s i = srchL p q d s (i + 1) := by
  unfold srchL
  rw [show p.length - i = (p.length - (i + 1)) + 1 by omega, List.range'_succ, List.findSome?_cons, if_neg (by rw [hf]; decide)]

/-- the world of a search -/
structure FW (w : World) (G S : Nat) (pv qv : Value) (W : World) (av : Value) (s : List Int) : Prop where
  below : Below G w W
  bp : Blk W G 22 [pv]
  bq : Blk W (G + 1) 22 [qv]
  ba : Blk W (G + 2) 22 [av]
  bs : Blk W S 62 [.func (.func 69) #[] #[.pointer (some ⟨G + 2, 0, none⟩), .pointer (some ⟨G + 1, 0, none⟩), .pointer (some ⟨G, 0, none⟩), .pointer (some ⟨S, 0, none⟩)]]
  own : Own W (S + 1) 3 av s

theorem FW.drewN {w : World} {G S : Nat} {pv qv : Value} {W : World} {av : Value} {s : List Int} (h : FW w G S pv qv W av s) (n : Nat) : FW w G S pv qv (W.drewN n) av s :=
  ⟨h.below.drewN' n, h.bp, h.bq, h.ba, h.bs, h.own⟩
theorem FW.put {w : World} {G S : Nat} {pv qv : Value} {W : World} {av : Value} {s : List Int} (h : FW w G S pv qv W av s) (hS : G + 2 < S) {v' : Value} {s' : List Int} (ho : Own W (S + 1) 3 v' s') :
    FW w G S pv qv (W.setCell ⟨G + 2, 0, none⟩ v') v' s' :=
  ⟨h.below.setCell (p := ⟨G + 2, 0, none⟩) (by simp) v', h.bp.other (by simp) _, h.bq.other (by simp) _, h.ba.set 0 v', h.bs.other (by simp; omega) _,
    ho.other (a := ⟨G + 2, 0, none⟩) (Own.apartB ho h.ba (by decide)) _⟩
theorem FW.grown {w : World} {G S : Nat} {pv qv : Value} {W W' : World} {av v' : Value} {s s' : List Int} (h : FW w G S pv qv W av s) (hS : G + 2 < S) (hg : W.grownBy W' av.ownBlock) (hb : Below (S + 1) W W') (ho : Own W' (S + 1) 3 v' s') :
    FW w G S pv qv (W'.setCell ⟨G + 2, 0, none⟩ v') v' s' := by
  have ha := h.ba.grown hg (Own.apartB h.own h.ba (by decide))
  exact ⟨(h.below.trans (hb.mono (by omega))).setCell (p := ⟨G + 2, 0, none⟩) (by simp) v', (h.bp.grown hg (Own.apartB h.own h.bp (by decide))).other (by simp) _,
    (h.bq.grown hg (Own.apartB h.own h.bq (by decide))).other (by simp) _, ha.set 0 v', (h.bs.grown hg (Own.apartB h.own h.bs (by decide))).other (by simp; omega) _,
    ho.other (a := ⟨G + 2, 0, none⟩) (Own.apartB ho ha (by decide)) _⟩

set_option maxRecDepth 100000 in
set_option maxHeartbeats 8000000 in
theorem search_any (w : World) (G S : Nat) (pv qv : Value) (p q : List Int) (hG : w.heap.size = G) (hS : G + 2 < S) (hv : Ints w pv p) (hu : Ints w qv q) (hp : p.length ≤ 60) (hq : q.length ≤ 60) :
    ∀ (d : Nat) (s : List Int) (fr : Nat) (av : Value) (W : World), s.length + d = q.length → fr ≤ p.length → (∀ x ∈ s, 0 ≤ x ∧ x < p.length) → FW w G S pv qv W av s →
      Calls Try.prog 69 #[.int .i64 fr, .pointer (some ⟨G + 2, 0, none⟩), .pointer (some ⟨G + 1, 0, none⟩), .pointer (some ⟨G, 0, none⟩), .pointer (some ⟨S, 0, none⟩)] W
        fun e w' => ∃ av', e = .returned (.bool (srch p q d s fr).isSome) ∧ FW w G S pv qv w' av' ((srch p q d s fr).getD s) := by
  obtain ⟨ap, n, cp, rfl, HN, hn'⟩ := hv.open
  obtain ⟨aq, m, cq, rfl, HM, hm'⟩ := hu.open
  have hn2 : n ≤ 60 := by have := HN.out; omega
  have hm2 : m ≤ 60 := by have := HM.out; omega
  clear hp hq
  intro d
  induction d with
  | zero =>
    intro s fr av W hd hfr hs hF
    have hsl : s.length = m := by have := HM.out; omega
    obtain ⟨aa, ca, rfl⟩ := hF.own.shape hsl
    have cP := hF.bp.cell (j := 0) rfl
    have cQ := hF.bq.cell (j := 0) rfl
    have cA := hF.ba.cell (j := 0) rfl
    have HF := Lib.hid hF
    clear hF hd hsl hfr hs
    go_enter Try.func69, Try.ntmps69
    go_wp2_with fail
    go_step3
    go_wp2_with fail
    rw [Exit.noGoto_ret]
    go_ret
    exact ⟨_, rfl, HF.out⟩
  | succ d ih =>
    intro s fr av W hd hfr hs hF
    rw [HN.out] at hfr
    obtain ⟨L, hL⟩ : ∃ L, s.length = L := ⟨_, rfl⟩
    have hd' : L + (d + 1) = m := by have := HM.out; omega
    have hbe : ((L : Int) == (m : Int)) = false := by simp; omega
    have hLm : L < m := by omega
    obtain ⟨aa, ca, rfl⟩ := hF.own.shape hL
    have cP := hF.bp.cell (j := 0) rfl
    have cQ := hF.bq.cell (j := 0) rfl
    have cA := hF.ba.cell (j := 0) rfl
    have HF := Lib.hid hF
    have HL := Lib.hid hL
    have HD := Lib.hid hd
    have HS := Lib.hid hs
    have HI := Lib.hid ih
    have HGW := Lib.hid hG
    clear hF hd hL hs ih hG
    go_enter Try.func69, Try.ntmps69
    go_wp2_with fail
    go_step3
    go_wp2_with fail
    go_step3
    go_wp2_with fail
    clear cP cQ cA
    go_loopg [7] (n - fr) (fun g i wr => ∃ (k : Nat) (av : Value), k + g = n ∧ i = .int .i64 k ∧ Hid (FW w G S (.slice ap n cp) (.slice aq m cq) wr av s) ∧ Hid (srchL p q d s fr = srchL p q d s k))
    case atStart => exact ⟨fr, _, by omega, rfl, HF, (show Hid (srchL p q d s fr = srchL p q d s fr) from rfl)⟩
    case round =>
      clear HF
      obtain ⟨k, av, hk, rfl, HF, HR⟩ := hrel
      obtain ⟨aa, ca, rfl⟩ := HF.out.own.shape HL.out
      have cP := HF.out.bp.cell (j := 0) rfl
      have cQ := HF.out.bq.cell (j := 0) rfl
      have cA := HF.out.ba.cell (j := 0) rfl
      cases gk with
      | zero =>
        obtain rfl : k = n := by omega
        have hr : srch p q (d + 1) s fr = none := by
          show srchL p q d s fr = none
          rw [HR.out]; exact srchL_end (by rw [HN.out]; omega)
        have HRR := Lib.hid hr
        clear hr
        go_wp2_with fail
        rw [Exit.noGoto_ret]
        go_ret
        rw [HRR.out]
        exact ⟨_, rfl, HF.out⟩
      | succ g =>
        have hlt : k < n := by omega
        have hlti : (k : Int) < n := by omega
        have hLmi : (L : Int) < m := by omega
        obtain ⟨bp, op, pi, rfl, hpi, cpi0⟩ := hv.at_ hlt
        obtain ⟨bq, oq, ql, rfl, hql, cql0⟩ := hu.at_ hLm
        have hbp : bp < G := by have := World.block_lt_of_cell? w _ cpi0; rw [HGW.out] at this; exact this
        have hbq : bq < G := by have := World.block_lt_of_cell? w _ cql0; rw [HGW.out] at this; exact this
        have cpi := (HF.out.below.cell (p := ⟨bp, op + k, none⟩) hbp).trans cpi0
        have cql := (HF.out.below.cell (p := ⟨bq, oq + L, none⟩) hbq).trans cql0
        go_wp2_with fail
        go_loopg [24] L (fun g2 j wx => ∃ t nd : Nat, t + g2 = L ∧ j = .int .i64 t ∧ wx = wr.drewN nd ∧ Hid (fitsTo p q s k t = true))
        case atStart => exact ⟨0, 0, by omega, rfl, rfl, (show Hid (fitsTo p q s k 0 = true) from rfl)⟩
        case round =>
          obtain ⟨t, nd, ht, rfl, rfl, HT⟩ := hrel
          have HF2 := Lib.hid (HF.out.drewN nd)
          have cP : (wr.drewN nd).cell? ⟨G, 0, none⟩ = _ := cP
          have cQ : (wr.drewN nd).cell? ⟨G + 1, 0, none⟩ = _ := cQ
          have cA : (wr.drewN nd).cell? ⟨G + 2, 0, none⟩ = _ := cA
          have cpi : (wr.drewN nd).cell? ⟨bp, op + k, none⟩ = _ := cpi
          have cql : (wr.drewN nd).cell? ⟨bq, oq + L, none⟩ = _ := cql
          cases gk with
          | zero =>
            obtain rfl : t = L := by omega
            have hfit : fitsTo p q s k s.length = true := by rw [HL.out]; exact HT.out
            have hk0 : 0 ≤ (k : Int) ∧ (k : Int) < p.length := by rw [HN.out]; omega
            have hlen : s.length < 1000000000000 := by rw [HL.out]; omega
            have hss : ∀ x ∈ s ++ [(k : Int)], 0 ≤ x ∧ x < p.length := by
              intro x hx
              rcases List.mem_append.1 hx with h | h
              · exact HS.out x h
              · obtain rfl := List.mem_singleton.1 h
                exact hk0
            have hdd : (s ++ [(k : Int)]).length + d = q.length := by have := HD.out; simp; omega
            have hfr2 : k + 1 ≤ p.length := by rw [HN.out]; omega
            have HLEN := Lib.hid hlen
            have HSS := Lib.hid hss
            have HDD := Lib.hid hdd
            have HFR := Lib.hid hfr2
            have HFIT := Lib.hid hfit
            clear hfit hk0 hlen hss hdd hfr2
            have hSG : ¬ S = G + 2 := by omega
            have hz : S < wr.heap.size := HF2.out.bs.lt
            have hca := HI.out (s ++ [(k : Int)]) (k + 1)
            have hL1 : (s ++ [(k : Int)]).length = t + 1 := by simp [HL.out]
            have HL1 := Lib.hid hL1
            rcases hr : srch p q d (s ++ [(k : Int)]) (k + 1) with _ | l
            all_goals
              rw [hr] at hca
              have HRR := Lib.hid hr
              have HCA := Lib.hid hca
              clear hr hca hL1
            · go_wp2_with (first
                | (at_builtin; refine wpList_app2 Try.info3 Try.underlying22 HF2.out.own HLEN.out rfl _ _ rfl rfl rfl rfl (by exact hz) ?_; intro v3 w3 ho3 hg3 hb3 hsh3; have hF3 := HF2.out.grown hS hg3 hb3 ho3; obtain ⟨g3, c3, rfl⟩ := hsh3; have fA3 := (HF2.out.ba.grown hg3 (Own.apartB HF2.out.own HF2.out.ba (by decide))).free 0; have cS3 := (HF2.out.bs.grown hg3 (Own.apartB HF2.out.own HF2.out.bs (by decide))).cell (j := 0) rfl; have cA3 := (HF2.out.ba.grown hg3 (Own.apartB HF2.out.own HF2.out.ba (by decide))).cell (j := 0) rfl)
                | (go_at_call 69; refine (HCA.out _ _ HDD.out HFR.out HSS.out hF3).mono ?_; rintro e w4 ⟨av4, rfl, hF4⟩; obtain ⟨g4, c4, rfl, _, _, _, _⟩ := hF4.own.open (n := t + 1) HL1.out (by omega); have cA4 := hF4.ba.cell (j := 0) rfl; have fA4 := hF4.ba.free 0; have hc4 := hF4.own.cap))
              go_roundg g
              case measure => omega
              case rel =>
                refine ⟨k + 1, _, by omega, by first | rfl | simp, (show Hid (FW _ _ _ _ _ _ _ _) from hF4.put hS (Own.pop hF4.own HL.out)), ?_⟩
                show _ = _
                rw [HR.out]
                exact srchL_none (by rw [HN.out]; exact hlt) HFIT.out HRR.out
            · have hfin : srch p q (d + 1) s fr = some l := by
                show srchL p q d s fr = some l
                rw [HR.out]
                exact srchL_some (by rw [HN.out]; exact hlt) HFIT.out HRR.out
              have HFIN := Lib.hid hfin
              clear hfin
              go_wp2_with (first
                | (at_builtin; refine wpList_app2 Try.info3 Try.underlying22 HF2.out.own HLEN.out rfl _ _ rfl rfl rfl rfl (by exact hz) ?_; intro v3 w3 ho3 hg3 hb3 hsh3; have hF3 := HF2.out.grown hS hg3 hb3 ho3; obtain ⟨g3, c3, rfl⟩ := hsh3; have fA3 := (HF2.out.ba.grown hg3 (Own.apartB HF2.out.own HF2.out.ba (by decide))).free 0; have cS3 := (HF2.out.bs.grown hg3 (Own.apartB HF2.out.own HF2.out.bs (by decide))).cell (j := 0) rfl; have cA3 := (HF2.out.ba.grown hg3 (Own.apartB HF2.out.own HF2.out.ba (by decide))).cell (j := 0) rfl)
                | (go_at_call 69; refine (HCA.out _ _ HDD.out HFR.out HSS.out hF3).mono ?_; rintro e w4 ⟨av4, rfl, hF4⟩))
              rw [Exit.noGoto_ret]
              go_ret
              rw [HFIN.out]
              exact ⟨_, rfl, hF4⟩
          | succ g2 =>
            have hlt2 : t < L := by omega
            obtain ⟨ba, oa, x, rfl, hx, cx⟩ := HF2.out.own.ints.at_ hlt2
            obtain ⟨x0, x1⟩ := HS.out x (List.mem_of_getElem? hx.out)
            rw [HN.out] at x1
            obtain ⟨a, rfl⟩ := Int.eq_ofNat_of_zero_le x0
            have ha : a < n := by omega
            have hlt2i : (t : Int) < L := by omega
            have htm : (t : Int) < m := by omega
            obtain ⟨pa, hpa, cpa0⟩ := hv.cell_ (k := a) ha
            obtain ⟨qt, hqt, cqt0⟩ := hu.cell_ (k := t) (by omega)
            have cpa := (HF2.out.below.cell (p := ⟨bp, op + a, none⟩) hbp).trans cpa0
            have cqt := (HF2.out.below.cell (p := ⟨bq, oq + t, none⟩) hbq).trans cqt0
            have cpw : wr.cell? ⟨bp, op + a, none⟩ = _ := cpa
            have cqw : wr.cell? ⟨bq, oq + t, none⟩ = _ := cqt
            have hft : fitsTo p q s k (t + 1) = !(!decide (pa < pi) == decide (qt < ql)) := by
              rw [fitsTo, HT.out, HL.out, hx.out, hpi.out, hqt.out, hql.out]
              simp only [Bool.true_and, Option.getD_some, Int.toNat_natCast, hpa.out]
              cases decide (pa < pi) <;> cases decide (qt < ql) <;> rfl
            have HFT := Lib.hid hft
            clear hft x0
            rcases hc : (!decide (pa < pi) == decide (qt < ql)) with _ | _
            all_goals
              rw [hc] at HFT
            · go_wp2_with fail
              go_quiet (fail)
              go_wp2_with fail
              go_roundg g2
              case measure => omega
              case rel => exact ⟨t + 1, nd + nq, by omega, by first | rfl | simp, rfl, HFT⟩
            · go_wp2_with fail
              go_quiet (fail)
              go_wp2_with fail
              go_roundg g
              case measure => omega
              case rel =>
                refine ⟨k + 1, _, by omega, by first | rfl | simp, (show Hid (FW _ _ _ _ _ _ _ _) from HF.out.drewN (nd + nq)), ?_⟩
                show _ = _
                rw [HR.out]
                refine srchL_miss (by rw [HN.out]; exact hlt) ?_
                rw [Bool.eq_false_iff]
                intro h
                have h1 := fitsTo_mono p q s k (k := t + 1) (by rw [HL.out]; omega) h
                rw [HFT.out] at h1
                cases h1
end Go.Proofs.Ytgajaccnjjiiaaa
