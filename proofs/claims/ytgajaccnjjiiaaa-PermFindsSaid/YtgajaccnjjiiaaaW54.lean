/- The reference's find: the walk. -/
import Derived.Test.YtgajaccnjjiiaaaW53
import Derived.Test.YtgajaccnjjiiaaaW23
namespace Go.Proofs.Ytgajaccnjjiiaaa
open Go.RowKit

def rfit (p q s : List Int) (i : Nat) : Nat → Bool
  | 0 => true
  | k + 1 => rfit p q s i k && (decide (vat p (vat s i).toNat < vat p (vat s k).toNat) == decide (vat q i < vat q k))
def rali (p q s : List Int) : Nat → Bool
  | 0 => true
  | i + 1 => rali p q s i && rfit p q s i i
theorem rfit_mono {p q s : List Int} {i k m : Nat} (h : k ≤ m) (hm : rfit p q s i m = true) : rfit p q s i k = true := by
  induction m with
  | zero => obtain rfl : k = 0 := by omega
            exact hm
  | succ m ih =>
    by_cases e : k = m + 1
    · subst e; exact hm
    · rw [rfit, Bool.and_eq_true] at hm
      exact ih (by omega) hm.1
theorem rali_mono {p q s : List Int} {k m : Nat} (h : k ≤ m) (hm : rali p q s m = true) : rali p q s k = true := by
  induction m with
  | zero => obtain rfl : k = 0 := by omega
            exact hm
  | succ m ih =>
    by_cases e : k = m + 1
    · subst e; exact hm
    · rw [rali, Bool.and_eq_true] at hm
      exact ih (by omega) hm.1
theorem rali_no {p q s : List Int} {i k L : Nat} (hk : k < i) (hi : i < L) (h : rfit p q s i (k + 1) = false) : rali p q s L = false := by
  rw [Bool.eq_false_iff]
  intro hm
  have h1 := rali_mono (k := i + 1) (by omega) hm
  rw [rali, Bool.and_eq_true] at h1
  have := rfit_mono (k := k + 1) (by omega) h1.2
  rw [h] at this; cases this

set_option maxRecDepth 100000 in
set_option maxHeartbeats 4000000 in
theorem alike_any (v av u : Value) (p s q : List Int) (w : World) (hv : Ints w v p) (ha : Ints w av s) (hu : Ints w u q) (hl : s.length = q.length) (hs : ∀ x ∈ s, 0 ≤ x ∧ x < p.length) :
    Calls Try.prog 103 #[v, av, u] w fun e w' => e = .returned (.bool (rali p q s q.length)) ∧ ∃ n, w' = w.drewN n := by
  obtain ⟨ap, n, cp, rfl, HN, hn'⟩ := hv.open
  obtain ⟨aa, m, ca, rfl, HM, hm'⟩ := ha.open
  obtain ⟨aq, L, cq, rfl, HL, hL'⟩ := hu.open
  obtain rfl : m = L := by have := HM.out; have := HL.out; omega
  have HS := Lib.hid hs
  clear hl hs
  go_enter Try.func103, Try.ntmps103
  go_wp2_with fail
  go_loopw [7] (fun iv wr => ∃ i nd : Nat, i ≤ m ∧ iv = .int .i64 i ∧ wr = w.drewN nd ∧ Hid (rali p q s i = true)) (fun iv _ => m - (intOf iv).toNat)
  case atStart => exact ⟨0, 0, by omega, rfl, rfl, (show Hid (rali p q s 0 = true) from rfl)⟩
  case round =>
    obtain ⟨i, nd, hi, rfl, rfl, HR⟩ := hrel
    by_cases hlt : i < m
    · obtain ⟨ba, oa, xi, rfl, hxi, cxi0⟩ := ha.at_ hlt
      obtain ⟨x0, x1⟩ := HS.out xi (List.mem_of_getElem? hxi.out)
      rw [HN.out] at x1
      obtain ⟨a, rfl⟩ := Int.eq_ofNat_of_zero_le x0
      have han : a < n := by omega
      obtain ⟨bp, op, pa, rfl, hpa, cpa0⟩ := hv.at_ han
      obtain ⟨bq, oq, qi, rfl, hqi, cqi0⟩ := hu.at_ hlt
      clear x0
      go_wp2_with fail
      go_loopw [8] (fun kv wx => ∃ k nk : Nat, k ≤ i ∧ kv = .int .i64 k ∧ wx = w.drewN nk ∧ Hid (rfit p q s i k = true)) (fun kv _ => i - (intOf kv).toNat)
      case atStart => exact ⟨0, nd, by omega, rfl, rfl, (show Hid (rfit p q s i 0 = true) from rfl)⟩
      case round =>
        obtain ⟨k, nk, hk, rfl, rfl, HK⟩ := hrel
        by_cases hlk : k < i
        · have hkm : k < m := by omega
          obtain ⟨xk, hxk, cxk0⟩ := ha.cell_ (k := k) hkm
          obtain ⟨y0, y1⟩ := HS.out xk (List.mem_of_getElem? hxk.out)
          rw [HN.out] at y1
          obtain ⟨c, rfl⟩ := Int.eq_ofNat_of_zero_le y0
          have hcn : c < n := by omega
          obtain ⟨pc, hpc, cpc0⟩ := hv.cell_ (k := c) hcn
          obtain ⟨qk, hqk, cqk0⟩ := hu.cell_ (k := k) hkm
          have e1 : (w.drewN nk).cell? ⟨ba, oa + i, none⟩ = _ := cxi0
          have e2 : (w.drewN nk).cell? ⟨ba, oa + k, none⟩ = _ := cxk0
          have e3 : (w.drewN nk).cell? ⟨bp, op + a, none⟩ = _ := cpa0
          have e4 : (w.drewN nk).cell? ⟨bp, op + c, none⟩ = _ := cpc0
          have e5 : (w.drewN nk).cell? ⟨bq, oq + i, none⟩ = _ := cqi0
          have e6 : (w.drewN nk).cell? ⟨bq, oq + k, none⟩ = _ := cqk0
          have hlti : (i : Int) < m := by omega
          have hlkm : (k : Int) < m := by omega
          have hft : rfit p q s i (k + 1) = !(!decide (pa < pc) == decide (qi < qk)) := by
            simp only [rfit, HK.out, vat_of hxi.out, vat_of hxk.out, vat_of hqi.out, vat_of hqk.out, Bool.true_and, Int.toNat_natCast, vat_of hpa.out, vat_of hpc.out]
            cases decide (pa < pc) <;> cases decide (qi < qk) <;> rfl
          have HFT := Lib.hid hft
          clear hft y0
          rcases hc : (!decide (pa < pc) == decide (qi < qk)) with _ | _
          all_goals
            rw [hc] at HFT
          · go_wp2_with fail
            go_quiet (fail)
            go_wp2_with fail
            go_roundw
            case rel => exact ⟨k + 1, _, by omega, by go_num, rfl, HFT⟩
            case measure => simp [intOf]; omega
          · have hno : rali p q s q.length = false := rali_no hlk (by rw [HL.out]; exact hlt) HFT.out
            have HNO := Lib.hid hno
            clear hno
            go_wp2_with fail
            go_quiet (fail)
            go_wp2_with fail
            go_ret
            exact ⟨by rw [HNO.out]; rfl, nk + nq, World.drewN_drewN _ _ _⟩
        · obtain rfl : k = i := by omega
          have hnx : rali p q s (k + 1) = true := by rw [rali, HR.out, HK.out]; rfl
          have HNX := Lib.hid hnx
          clear hnx
          go_wp2_with fail
          go_roundw
          case rel => exact ⟨k + 1, nk, by omega, by go_num, rfl, HNX⟩
          case measure => simp [intOf]; omega
    · obtain rfl : i = m := by omega
      have hfin : rali p q s q.length = true := by rw [HL.out]; exact HR.out
      have HF := Lib.hid hfin
      clear hfin
      go_wp2_with fail
      go_ret
      exact ⟨by rw [HF.out]; rfl, nd, rfl⟩

/-- where the reference's search goes on -/
def rfrom (s : List Int) : Nat := if s.length = 0 then 0 else (vat s (s.length - 1)).toNat + 1
def rsr (p q : List Int) : Nat → List Int → Option (List Int)
  | 0, s => if rali p q s s.length then some s else none
  | d + 1, s => if rali p q s s.length then (List.range' (rfrom s) (p.length - rfrom s)).findSome? fun i : Nat => rsr p q d (s ++ [(i : Int)]) else none
def rsrL (p q : List Int) (d : Nat) (s : List Int) (i : Nat) : Option (List Int) := (List.range' i (p.length - i)).findSome? fun i : Nat => rsr p q d (s ++ [(i : Int)])
theorem rsrL_end {p q : List Int} {d : Nat} {s : List Int} {i : Nat} (h : p.length ≤ i) : rsrL p q d s i = none := by
  unfold rsrL; rw [show p.length - i = 0 by omega]; rfl
theorem rsrL_step {p q : List Int} {d : Nat} {s : List Int} {i : Nat} (h : i < p.length) : rsrL p q d s i = (rsr p q d (s ++ [(i : Int)])).or (rsrL p q d s (i + 1)) := by
  unfold rsrL
  rw [show p.length - i = (p.length - (i + 1)) + 1 by omega, List.range'_succ, List.findSome?_cons]
  cases rsr p q d (s ++ [(i : Int)]) <;> rfl

theorem Ints.pre {w : World} {a : Option Addr} {n cap : Nat} {xs : List Int} (h : Ints w (.slice a n cap) xs) {j : Nat} (hj : j ≤ n) : Ints w (.slice a j cap) (xs.take j) := by
  obtain ⟨hn, hn'⟩ := h.len
  obtain ⟨hc1, hc2⟩ := h.cap_
  obtain ⟨a', cap', hv, _, hc⟩ := h
  obtain ⟨rfl, _, rfl⟩ : a = a' ∧ n = xs.length ∧ cap = cap' := by simpa using hv
  have hlen : (xs.take j).length = j := by rw [List.length_take]; omega
  refine ⟨a, cap, by rw [hlen], by rw [hlen]; omega, fun h0 => ?_⟩
  obtain ⟨b, o, h1, h2, h3⟩ := hc (by omega)
  refine ⟨b, o, h1, h2, fun k x hk => h3 k x ?_⟩
  rw [List.getElem?_take] at hk
  split at hk
  · exact hk
  · cases hk

set_option maxRecDepth 100000 in
set_option maxHeartbeats 8000000 in
theorem rfind_any (v u : Value) (p q : List Int) (hp : p.length ≤ 60) (hq : q.length ≤ 60) (hq0 : 0 < q.length) : ∀ (d : Nat) (s : List Int) (bv : Value) (W : World), s.length + d = q.length →
    (∀ x ∈ s, 0 ≤ x ∧ x < p.length) → Ints W v p → Ints W u q → Ints W bv s → (∀ n c, bv = .slice none n c → c = 0) →
    Calls Try.prog 71 #[v, u, bv] W fun e w' => ∃ a n c, e = .returned (.tuple #[.slice a n c, .bool (rsr p q d s).isSome]) ∧ Ints w' (.slice a n c) ((rsr p q d s).getD []) ∧ Below W.heap.size W w' := by
  intro d
  induction d with
  | zero =>
    intro s bv W hd hs hv hu hb hnil
    have hal : rali p (q.take s.length) s (q.take s.length).length = rali p q s s.length := by
      rw [List.take_of_length_le (by omega)]
      rw [show q.length = s.length by omega]
    obtain ⟨ap, n, cp, rfl, HN, hn'⟩ := hv.open
    obtain ⟨aq, m, cq, rfl, HM, hm'⟩ := hu.open
    obtain ⟨ab, L, cb, rfl, HL, hL'⟩ := hb.open
    have hLm : L = m := by have := HM.out; have := HL.out; omega
    have hm2 : m ≤ 60 := by have := HM.out; omega
    have hm0 : 0 < m := by have := HM.out; omega
    subst hLm
    obtain ⟨bq, oq, _, rfl, _, _⟩ := hu.at_ hm0
    have hcq := hu.cap_.1
    have hpre : Ints W (.slice (some ⟨bq, oq, none⟩) L cq) (q.take s.length) := by have := hu.pre (j := L) (Nat.le_refl _); rwa [HL.out]
    have hca := alike_any _ _ _ p s (q.take s.length) W hv hb hpre (by rw [List.length_take, HL.out, HM.out]; omega) hs
    rw [hal] at hca
    have hr : rsr p q 0 s = if rali p q s s.length then some s else none := rfl
    rcases hc : rali p q s s.length with _ | _
    all_goals
      rw [hc] at hca hr
      have HCA := Lib.hid hca
      have HR := Lib.hid hr
      have HB := Lib.hid hb
      clear hca hr hc hal hpre hd hs hb hnil hq0 hp hq hv hu
    · go_enter Try.func71, Try.ntmps71
      go_wp2_with (go_at_call 103; refine HCA.out.mono ?_; rintro e w' ⟨rfl, nd, rfl⟩)
      go_ret2
      exact ⟨_, _, _, by rw [HR.out]; rfl, by rw [HR.out]; exact Ints.nil _, (Below.refl _ _).drewN' nd⟩
    · go_enter Try.func71, Try.ntmps71
      go_wp2_with (go_at_call 103; refine HCA.out.mono ?_; rintro e w' ⟨rfl, nd, rfl⟩)
      go_ret2
      exact ⟨_, _, _, by rw [HR.out]; rfl, by rw [HR.out]; exact HB.out, (Below.refl _ _).drewN' nd⟩
  | succ d ih =>
    intro s bv W hd hs hv hu hb hnil
    have hal : rali p (q.take s.length) s (q.take s.length).length = rali p q s s.length := by
      have hl : (q.take s.length).length = s.length := by rw [List.length_take]; omega
      rw [hl]
      have hvt : ∀ i, i < s.length → vat (q.take s.length) i = vat q i := fun i hi => by rw [vat, vat, List.getElem?_take, if_pos hi]
      have h1 : ∀ i k, i < s.length → k ≤ i → rfit p (q.take s.length) s i k = rfit p q s i k := by
        intro i k hi
        induction k with
        | zero => intro _; rfl
        | succ k ih => intro hk; rw [rfit, rfit, ih (by omega), hvt i hi, hvt k (by omega)]
      have h2 : ∀ i, i ≤ s.length → rali p (q.take s.length) s i = rali p q s i := by
        intro i
        induction i with
        | zero => intro _; rfl
        | succ i ih => intro hi; rw [rali, rali, ih (by omega), h1 i i (by omega) (Nat.le_refl _)]
      exact h2 _ (Nat.le_refl _)
    obtain ⟨ap, n, cp, rfl, HN, hn'⟩ := hv.open
    obtain ⟨aq, m, cq, rfl, HM, hm'⟩ := hu.open
    obtain ⟨ab, L, cb, rfl, HL, hL'⟩ := hb.open
    have hLm : L + (d + 1) = m := by have := HM.out; have := HL.out; omega
    have hn2 : n ≤ 60 := by have := HN.out; omega
    have hm2 : m ≤ 60 := by have := HM.out; omega
    obtain ⟨bq, oq, _, rfl, _, _⟩ := hu.at_ (k := 0) (by omega)
    have hcq := hu.cap_.1
    have hpre : Ints W (.slice (some ⟨bq, oq, none⟩) L cq) (q.take s.length) := by have := hu.pre (j := L) (by omega); rwa [HL.out]
    have hca := alike_any _ _ _ p s (q.take s.length) W hv hb hpre (by rw [List.length_take, HL.out, HM.out]; omega) hs
    rw [hal] at hca
    have hr : rsr p q (d + 1) s = if rali p q s s.length then rsrL p q d s (rfrom s) else none := rfl
    have hLle : L ≤ cq := by omega
    have hnL : ((L : Int) == (m : Int)) = false := by simp; omega
    rcases hc : rali p q s s.length with _ | _
    · rw [hc] at hca hr
      have HCA := Lib.hid hca
      have HR := Lib.hid hr
      clear hca hr hc hal hpre hd hs hb hnil hq0 hp hq hv hu ih
      go_enter Try.func71, Try.ntmps71
      go_wp2_with (go_at_call 103; refine HCA.out.mono ?_; rintro e w' ⟨rfl, nd, rfl⟩)
      go_ret2
      exact ⟨_, _, _, by rw [HR.out]; rfl, by rw [HR.out]; exact Ints.nil _, (Below.refl _ _).drewN' nd⟩
    · rw [hc] at hca hr
      simp only [if_true] at hr
      have hlast : 0 < L → ∃ bb ob x, ab = some ⟨bb, ob, none⟩ ∧ W.cell? ⟨bb, ob + (L - 1), none⟩ = some (.int .i64 (x : Nat)) ∧ x < n ∧ rfrom s = x + 1 := by
        intro h0
        obtain ⟨bb, ob, x, h1, hx, h2⟩ := hb.at_ (k := L - 1) (by omega)
        obtain ⟨x0, x1⟩ := hs x (List.mem_of_getElem? hx.out)
        obtain ⟨y, rfl⟩ := Int.eq_ofNat_of_zero_le x0
        refine ⟨bb, ob, y, h1, h2, by have := HN.out; omega, ?_⟩
        rw [rfrom, if_neg (by have := HL.out; omega), HL.out, vat_of hx.out]; simp
      have hfrom0 : L = 0 → rfrom s = 0 := fun h0 => by rw [rfrom, if_pos (by rw [HL.out]; exact h0)]
      have HCA := Lib.hid hca
      have HR := Lib.hid hr
      have HD := Lib.hid hd
      have HS := Lib.hid hs
      have HV := Lib.hid hv
      have HU := Lib.hid hu
      have HB := Lib.hid hb
      have HNIL := Lib.hid hnil
      have IH := Lib.hid ih
      have HRF : Hid (rfrom s ≤ n) := by
        show rfrom s ≤ n
        by_cases h0 : L = 0
        · rw [hfrom0 h0]; omega
        · obtain ⟨_, _, x, _, _, h1, h2⟩ := hlast (by omega)
          omega
      clear hca hr hc hal hpre hd hs hb hnil hq0 hp hq hv hu ih hnL
      have hcap : ab = none → L = 0 ∧ cb = 0 := fun h => by
        have h1 := HNIL.out L cb (by rw [h])
        have h2 := HB.out.cap_.1
        omega
      rcases Nat.eq_zero_or_pos L with h0 | h0
      case' inl =>
        subst h0
        have hF := hfrom0 rfl
        obtain ⟨fr, hfr⟩ : ∃ fr, rfrom s = fr := ⟨_, rfl⟩
        obtain rfl : fr = 0 := by omega
        have hne : ((0 : Int) == (m : Int)) = false := by simp; omega
        clear hF
      case' inr =>
        obtain ⟨bb, ob, x, rfl, cx, hxn, hF⟩ := hlast h0
        obtain ⟨fr, hfr⟩ : ∃ fr, rfrom s = fr := ⟨_, rfl⟩
        obtain rfl : fr = x + 1 := by omega
        obtain ⟨L1, rfl⟩ : ∃ L1, L = L1 + 1 := ⟨L - 1, by omega⟩
        simp only [Nat.add_sub_cancel] at cx
        have hne : ((L1 : Int) + 1 == (m : Int)) = false := by simp; omega
        clear hF
      all_goals
        rw [hfr] at HR HRF
        have HFR0 := HRF.out
        have HCAP := Lib.hid hcap
        clear hlast hfrom0 hfr HRF hcap
        go_enter Try.func71, Try.ntmps71
        go_wp2_with (go_at_call 103; refine HCA.out.mono ?_; rintro e w' ⟨rfl, nd, rfl⟩)
        go_loopw [9] (fun iv wr => ∃ k : Nat, k ≤ n ∧ iv = .int .i64 k ∧ Below W.heap.size W wr ∧ Hid (rsr p q (d + 1) s = rsrL p q d s k)) (fun iv _ => n - (intOf iv).toNat)
        case atStart => exact ⟨_, HFR0, by go_num, (Below.refl _ _).drewN' nd, HR⟩
        case round =>
          obtain ⟨k, hk, rfl, hB, HK⟩ := hrel
          have hsz := hB.size
          by_cases hlt : k < n
          · have hss : ∀ x ∈ s ++ [(k : Int)], 0 ≤ x ∧ x < p.length := by
              intro x hx
              rcases List.mem_append.1 hx with h | h
              · exact HS.out x h
              · obtain rfl := List.mem_singleton.1 h
                have := HN.out
                omega
            have hdd : (s ++ [(k : Int)]).length + d = q.length := by have := HD.out; simp; omega
            have hlen : s.length < 100000000000 := by rw [HL.out]; omega
            have hst : rsrL p q d s k = (rsr p q d (s ++ [(k : Int)])).or (rsrL p q d s (k + 1)) := rsrL_step (by rw [HN.out]; exact hlt)
            have hca := fun bv' W' h1 h2 h3 h4 => IH.out (s ++ [(k : Int)]) bv' W' hdd hss h1 h2 h3 h4
            have hBs := HB.out.below hB (Nat.le_refl _)
            have hVs := HV.out.below hB (Nat.le_refl _)
            have hUs := HU.out.below hB (Nat.le_refl _)
            have HBS := Lib.hid hBs
            have HVS := Lib.hid hVs
            have HUS := Lib.hid hUs
            have HLEN := Lib.hid hlen
            clear hss hdd hBs hVs hUs hlen
            rcases hr : rsr p q d (s ++ [(k : Int)]) with _ | l
            all_goals
              rw [hr] at hca hst
              have HST := Lib.hid hst
              have HCX := Lib.hid hca
              clear hr hca hst
              go_wp2_with (first
                | (at_builtin; refine wpList_appS (ys := s) Try.info3 Try.underlying22 (Own.nil _ wr.heap.size 3) (Nat.le_refl _) (by simp) rfl (.tmp 44) (.tmp 45) rfl rfl rfl HBS.out HNIL.out HLEN.out ?_; intro v3 w3 hown3 hgrow3 hb3; simp only [List.nil_append] at hown3; have HOWN3 := Lib.hid hown3; clear hown3)
                | (at_builtin; refine wpList_app1 Try.info3 Try.underlying22 HOWN3.out hb3.size (by have := HLEN.out; omega) rfl (.tmp 50) (.tmp 52) rfl rfl rfl ?_; intro v4 w4 hown4 hgrow4 hb4 hsh4; have hB4 := hb3.trans hb4; obtain ⟨g4, c4, rfl⟩ := hsh4; have HOWN4 := Lib.hid hown4; clear hown4)
                | (go_at_call 71; refine (HCX.out _ _ (HVS.out.below hB4 (Nat.le_refl _)) (HUS.out.below hB4 (Nat.le_refl _)) HOWN4.out.ints (by simp)).mono ?_; rintro e w5 ⟨a5, n5, c5, rfl, hi5, hb5⟩))
            · go_roundw
              case rel =>
                exact ⟨k + 1, by omega, by go_num, hB.trans ((hB4.mono hsz).trans (hb5.mono (Nat.le_trans hsz hB4.size))), by show _ = _; rw [HK.out, HST.out]; rfl⟩
              case measure => simp [intOf]; omega
            · go_ret2
              exact ⟨_, _, _, by rw [HK.out, HST.out]; rfl, by rw [HK.out, HST.out]; exact hi5, hB.trans ((hB4.mono hsz).trans (hb5.mono (Nat.le_trans hsz hB4.size)))⟩
          · obtain rfl : k = n := by omega
            have hend : rsr p q (d + 1) s = none := by rw [HK.out]; exact rsrL_end (by rw [HN.out]; exact Nat.le_refl _)
            have HE := Lib.hid hend
            clear hend
            go_wp2_with fail
            go_ret2
            exact ⟨_, _, _, by rw [HE.out]; rfl, by rw [HE.out]; exact Ints.nil _, hB⟩
end Go.Proofs.Ytgajaccnjjiiaaa
