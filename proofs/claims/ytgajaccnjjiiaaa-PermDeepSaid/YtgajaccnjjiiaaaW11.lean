/- The stack that sorts: Sort. -/
import Derived.Test.YtgajaccnjjiiaaaW10
import Derived.WalkSmall
namespace Go.Proofs.Ytgajaccnjjiiaaa
open Go.RowKit

def popM : List Int → Int → List UInt8 → List Int × Int × List UInt8
  | [], d, o => ([], d, o)
  | x :: s, d, o => if x = d then popM s (d + 1) (o ++ [111]) else (x :: s, d, o)
def topLess (st : List Int) (x : Int) : Bool := match st with | [] => false | t :: _ => decide (t < x)
def sortStep (x : Int) (r : List Int × Int × List UInt8) : Option (List Int × Int × List UInt8) :=
  if topLess r.1 x then none else some (popM (x :: r.1) r.2.1 (r.2.2 ++ [105]))
def sortTo (p : List Int) : Nat → Option (List Int × Int × List UInt8)
  | 0 => some ([], 0, [])
  | k + 1 => match sortTo p k with
    | none => none
    | some r => sortStep (p[k]?.getD 0) r
def sortM (p : List Int) : Option (List UInt8) := (sortTo p p.length).map (·.2.2)
def sortOut : Option (List UInt8) → List UInt8 × Bool
  | none => ([], false)
  | some l => (l, true)
theorem sortTo_none {p : List Int} {k m : Nat} (h : sortTo p k = none) (hm : k ≤ m) : sortTo p m = none := by
  induction m with
  | zero => obtain rfl : k = 0 := by omega
            exact h
  | succ m ih =>
    by_cases e : k = m + 1
    · subst e; exact h
    · rw [sortTo, ih (by omega)]

theorem Own.shape {w : World} {base : Nat} {e : TypeId} {v : Value} {zs : List Int} (h : Own w base e v zs) {n : Nat} (hn : zs.length = n) : ∃ ad cap, v = .slice ad n cap := by
  subst hn
  rcases h.2 with ⟨rfl, hz⟩ | ⟨g, cap, cur, rfl, _⟩
  · rw [hz]; exact ⟨_, _, rfl⟩
  · exact ⟨_, _, rfl⟩
theorem Own.cap {w : World} {base : Nat} {e : TypeId} {g n cap : Nat} {zs : List Int} (h : Own w base e (.slice (some ⟨g, 0, none⟩) n cap) zs) : n ≤ cap := by
  rcases h.2 with ⟨h', _⟩ | ⟨g', cap', cur, hv, _, _, hn, _⟩
  · simp at h'
  · simp at hv
    rw [hv.2.1, hv.2.2]; exact hn
theorem Own.pop {w : World} {base : Nat} {e : TypeId} {g n cap : Nat} {zs : List Int} {z : Int} (h : Own w base e (.slice (some ⟨g, 0, none⟩) (n + 1) cap) (zs ++ [z])) (hn : zs.length = n) : Own w base e (.slice (some ⟨g, 0, none⟩) n cap) zs := by
  subst hn
  refine ownsRow_pop (last := [.int .i64 z]) (by simp [I64s]) ?_
  have := h
  simp only [Own, I64s, List.map_append, List.length_append, List.length_cons, List.length_nil, List.map_cons, List.map_nil] at this
  simpa using this
theorem ob_nil : (Value.slice none 0 0).ownBlock = none := rfl
theorem ob_some (g n c : Nat) : (Value.slice (some ⟨g, 0, none⟩) n c).ownBlock = some g := rfl
/-- a stack and a builder lie apart -/
theorem Bld.apart {B base : Nat} {w : World} {b : Nat} {p v u : Value} {bs : List Value} {zs : List Int} (h : Bld B w b p v bs) (k : Own w base 3 u zs) : some b ≠ u.ownBlock ∧ (v.ownBlock = none ∨ v.ownBlock ≠ u.ownBlock) := by
  rcases k.2 with ⟨rfl, _⟩ | ⟨g, cap, cur, rfl, _, hg, _⟩
  · rw [ob_nil]
    refine ⟨by simp, ?_⟩
    cases v.ownBlock with
    | none => exact .inl rfl
    | some _ => exact .inr (by simp)
  · rw [ob_some]
    constructor
    · intro e
      cases e
      have := h.blk.symm.trans hg
      simp at this
    · rcases h.own.2 with ⟨rfl, _⟩ | ⟨g', cap', cur', rfl, _, hg', _⟩
      · exact .inl rfl
      · rw [ob_some]
        refine .inr fun e => ?_
        cases e
        have := hg'.symm.trans hg
        simp at this
theorem Own.keepK {base : Nat} {w w' : World} {u : Value} {zs : List Int} {b : Nat} {v : Value} (k : Own w base 3 u zs) (hk : ∀ k, k < w.heap.size → k ≠ b → some k ≠ v.ownBlock → w'.heap[k]? = w.heap[k]?)
    (h1 : some b ≠ u.ownBlock) (h2 : v.ownBlock = none ∨ v.ownBlock ≠ u.ownBlock) : Own w' base 3 u zs := by
  refine ⟨k.1, ?_⟩
  rcases k.2 with hn | ⟨g, cap, cur, rfl, a1, hg, rest⟩
  · exact .inl hn
  · refine .inr ⟨g, cap, cur, rfl, a1, ?_, rest⟩
    rw [ob_some] at h1 h2
    have hv : some g ≠ v.ownBlock := by
      intro e
      rcases h2 with h2 | h2
      · rw [h2] at e; cases e
      · exact h2 e.symm
    rw [hk g (Array.getElem?_eq_some_iff.1 hg).1 (fun e => h1 (by rw [e])) hv]
    exact hg

set_option maxHeartbeats 400000 in
theorem sort_bad (v : Value) (p : List Int) (w : World) (hv : Ints w v p) (hch : checkM p = 20) :
    Calls Try.prog 23 #[v] w fun e w' => e = .returned (.tuple #[.string ⟨#[]⟩, .bool false, .int .i64 20]) ∧ Below w.heap.size w w' := by
  go_enter Try.func23, Try.ntmps23
  go_wp2_with (go_at_call 63; refine (check_any _ p _ hv).mono ?_; rw [hch]; rintro e w1 ⟨rfl, hb⟩)
  go_ret3
  exact ⟨rfl, hb⟩

set_option maxRecDepth 100000 in
set_option maxHeartbeats 4000000 in
theorem sort_any (v : Value) (p : List Int) (w : World) (hv : Ints w v p) (hch : checkM p = 0) (hl : p.length ≤ 1000) :
    Calls Try.prog 23 #[v] w fun e w' => e = .returned (.tuple #[.string ⟨(sortOut (sortM p)).1.toArray⟩, .bool (sortOut (sortM p)).2, .int .i64 0]) ∧ Below w.heap.size w w' := by
  have HCH := Lib.hid hch; clear hch
  obtain ⟨ad, n, cap, rfl, HN, hn'⟩ := hv.open
  have hl' : n ≤ 1000 := by have := HN.out; omega
  go_enter Try.func23, Try.ntmps23
  go_wp2_with (go_at_call 63; refine (check_any _ p _ hv).mono ?_; rw [HCH.out]; rintro e w1 ⟨rfl, hb⟩)
  have hB1 := hb.size
  have HBW := Lib.hid hb; clear hb
  go_loopw [7, 8, 19] (fun s d i wr => ∃ (k : Nat) (st : List Int) (due : Nat) (o : List UInt8) (pv bv : Value), k ≤ n ∧ i = .int .i64 k ∧ d = .int .i64 due ∧ due + st.length ≤ k ∧ o.length ≤ k + due ∧
      Own wr w.heap.size 3 s st.reverse ∧ Bld w.heap.size wr w1.heap.size pv bv (Lib.byteCells o) ∧ Below w.heap.size w wr ∧ Hid (sortTo p k = some (st, (due : Int), o))) (fun _ _ i _ => n - (intOf i).toNat)
  case atStart => 
    exact ⟨0, [], 0, [], .pointer none, .slice none 0 0, by omega, rfl, rfl, by simp, by simp, Own.nil _ _ _, ⟨hB1, heap_alloc_new w1 _, World.ownsRow_nil _ _ _ _, by simp [Value.ownBlock], .inl rfl⟩, HBW.out.alloc hB1 _, by show _ = _; rfl⟩
  case round =>
    obtain ⟨k, st, due, o, pv, bv, hk, rfl, rfl, hn1, hn2, hown, hbld, hB, HS⟩ := hrel
    have hsz := hB.size
    by_cases hlt : k < n
    · obtain ⟨b, of, x, rfl, hx, c1⟩ := (hv.below hB (Nat.le_refl _)).at_ hlt
      by_cases htop : topLess st x = true
      · cases st with
        | nil => simp [topLess] at htop
        | cons t s =>
          obtain ⟨g, cp, rfl, hg1, hg2, hfz, hc⟩ := Own.open hown (n := s.length + 1) (by simp) (by omega)
          have hct := hc s.length t (by simp)
          have htx : t < x := by simpa [topLess] using htop
          have hfin : sortM p = none := by
            have h1 : sortTo p (k + 1) = none := by rw [sortTo, HS.out, hx.out]; simp [sortStep, htop]
            unfold sortM; rw [sortTo_none h1 (by rw [HN.out]; omega)]; rfl
          have HFIN := Lib.hid hfin
          clear hc hfz hfin htop HS
          simp only [List.length_cons] at hn1
          generalize s.length = m at *
          go_wp2_with fail
          go_ret3
          exact ⟨by rw [HFIN.out]; rfl, hB⟩
      · have htop' : topLess st x = false := by simpa using htop
        have hstep : sortTo p (k + 1) = some (popM (x :: st) due (o ++ [105])) := by rw [sortTo, HS.out, hx.out]; simp [sortStep, htop']
        have HSTEP := Lib.hid hstep
        clear hstep htop HS
        obtain ⟨zs, hzs⟩ : ∃ zs, zs = st.reverse := ⟨_, rfl⟩
        obtain ⟨m, hm⟩ : ∃ m, m = st.length := ⟨_, rfl⟩
        rw [← hzs] at hown
        rw [← hm] at hn1
        have hlen : zs.length < 1000000000000 := by rw [hzs, List.length_reverse, ← hm]; omega
        obtain ⟨sa, sc, rfl⟩ := Own.shape hown (n := m) (by rw [hzs, List.length_reverse, hm])
        obtain ⟨a1, a2⟩ := hbld.apart hown
        have hcond : 0 < m → ∃ g t, sa = some ⟨g, 0, none⟩ ∧ wr.cell? ⟨g, m - 1, none⟩ = some (.int .i64 t) ∧ decide (t < x) = false := by
          intro h0
          cases st with
          | nil => simp at hm; omega
          | cons t s =>
            obtain ⟨g, cp, hv, hg1, hg2, hfz, hc⟩ := Own.open hown (n := m) (by rw [hzs, List.length_reverse, hm]) (by omega)
            have hct := hc (m - 1) t (by rw [hzs, hm]; simp)
            exact ⟨g, t, (by simpa using hv : sa = some ⟨g, 0, none⟩ ∧ sc = cp).1, hct, by simpa [topLess] using htop'⟩
        have HM := Lib.hid hm
        have HZS := Lib.hid hzs
        have HLEN := Lib.hid hlen
        have A1 := Lib.hid a1
        have A2 := Lib.hid a2
        clear htop' hm hzs hlen a1 a2
        have hbl : (Lib.byteCells o).length + 1 ≤ 1000000000 := by simp [Lib.byteCells]; omega
        have HBL := Lib.hid hbl
        clear hbl
        rcases Nat.eq_zero_or_pos m with h0 | h0
        · subst h0
          clear hcond
          go_wp2_with (first | (at_builtin; refine wpList_app1 Try.info3 Try.underlying22 hown hsz HLEN.out rfl _ _ rfl rfl rfl ?_; intro v1 w2 hown1 hgrow1 hb1 hsh) | (go_at_call 67; refine (writeByte_any _ _ _ _ _ 105 _ (hbld.grown hgrow1 A1.out A2.out) HBL.out (Nat.le_trans hsz hgrow1.size)).mono ?_; rintro e w3 ⟨rfl, ⟨bv3, hbld3⟩, hk3, hb3⟩; have hown3 := Own.keepK hown1 hk3 (Bld.apart (hbld.grown hgrow1 A1.out A2.out) hown1).1 (Bld.apart (hbld.grown hgrow1 A1.out A2.out) hown1).2))
          rw [HZS.out] at hown3
          have hB3 := (hB.trans hb1).trans hb3
          clear hown hbld hsh hk3 hb3 hb1 hgrow1 hown1 hB
          go_loopw [7, 8] (fun s d wr => ∃ (st' : List Int) (due' : Nat) (o' : List UInt8) (pv bv : Value), d = .int .i64 due' ∧ due' + st'.length ≤ k + 1 ∧ o'.length ≤ k + 1 + due' ∧
            Own wr w.heap.size 3 s st'.reverse ∧ Bld w.heap.size wr w1.heap.size pv bv (Lib.byteCells o') ∧ Below w.heap.size w wr ∧ Hid (popM (x :: st) due (o ++ [105]) = popM st' due' o')) (fun _ d _ => n + 2 - (intOf d).toNat)
          case atStart => exact ⟨x :: st, due, o ++ [105], _, bv3, rfl, by simp only [List.length_cons, ← HM.out]; omega, by simp; omega, by simpa using hown3, by simpa [Lib.byteCells] using hbld3, hB3, by show _ = _; rfl⟩
          case round =>
            clear hown3 hbld3 hB3
            obtain ⟨st', due', o', pv', bv', rfl, hm1, hm2, hown, hbld, hB, HP⟩ := hrel
            have hsz' := hB.size
            cases st' with
            | nil =>
              obtain ⟨sa', sc', rfl⟩ := Own.shape hown (n := 0) rfl
              go_wp2_with fail
              go_roundw
              case rel => exact ⟨k + 1, [], due', o', pv', bv', by omega, by go_num, rfl, by simpa using hm1, by omega, hown, hbld, hB, by show _ = _; rw [HSTEP.out, HP.out]; rfl⟩
              case measure => simp [intOf]; omega
            | cons t s =>
              obtain ⟨g', cp', rfl, hq1, hq2, hfz', hc'⟩ := Own.open hown (n := s.length + 1) (by simp) (by omega)
              have hct := hc' s.length t (by simp)
              clear hfz' hc'
              simp only [List.reverse_cons] at hown
              simp only [List.length_cons] at hm1
              have hpop := Own.pop hown (by simp)
              have hcap := Own.cap hown
              have hap := hbld.apart hpop
              have HAP := Lib.hid hap
              have hbl : (Lib.byteCells o').length + 1 ≤ 1000000000 := by simp [Lib.byteCells]; omega
              have HBL' := Lib.hid hbl
              clear hap hbl
              by_cases htd : t = due'
              · have hb : (t == (due' : Int)) = true := by simpa using htd
                have hpp : popM (t :: s) due' o' = popM s (due' + 1 : Nat) (o' ++ [111]) := by rw [popM, if_pos htd]; rfl
                have HPP := Lib.hid hpp
                clear htd hpp
                obtain ⟨m', hm'⟩ : ∃ m', m' = s.length := ⟨_, rfl⟩
                rw [← hm'] at hct hpop hm1 hcap ⊢
                have HM' := Lib.hid hm'
                clear hm' hown
                go_wp2_with (go_at_call 67; refine (writeByte_any _ _ _ _ _ 111 _ hbld HBL'.out hsz').mono ?_; rintro e w4 ⟨rfl, ⟨bv4, hbld4⟩, hk4, hb4⟩; have hown4 := Own.keepK hpop hk4 HAP.out.1 HAP.out.2)
                go_roundw
                case rel => exact ⟨s, due' + 1, o' ++ [111], _, bv4, by go_num, by rw [← HM'.out]; omega, by simp; omega, hown4, by simpa [Lib.byteCells] using hbld4, hB.trans hb4, by show _ = _; rw [HP.out, HPP.out]⟩
                case measure => simp [intOf]; omega
              · have hb : (t == (due' : Int)) = false := by simpa using htd
                have hpp : popM (t :: s) due' o' = (t :: s, (due' : Int), o') := by rw [popM, if_neg htd]
                have HPP := Lib.hid hpp
                clear htd hpp
                have hown5 : Own wr w.heap.size 3 (.slice (some ⟨g', 0, none⟩) (s.length + 1) cp') (t :: s).reverse := by simpa using hown
                clear hown hpop hcap
                obtain ⟨m', hm'⟩ : ∃ m', m' = s.length := ⟨_, rfl⟩
                rw [← hm'] at hct hm1 hown5 ⊢
                have HM' := Lib.hid hm'
                clear hm'
                go_wp2_with fail
                go_roundw
                case rel => exact ⟨k + 1, t :: s, due', o', pv', bv', by omega, by go_num, rfl, by simp only [List.length_cons, ← HM'.out]; omega, by omega, hown5, hbld, hB, by show _ = _; rw [HSTEP.out, HP.out, HPP.out]⟩
                case measure => simp [intOf]; omega
        · obtain ⟨g, t, rfl, c2, hd⟩ := hcond h0
          obtain ⟨m, rfl⟩ : ∃ m', m = m' + 1 := ⟨m - 1, by omega⟩
          simp only [Nat.add_sub_cancel] at c2
          go_wp2_with (first | (at_builtin; refine wpList_app1 Try.info3 Try.underlying22 hown hsz HLEN.out rfl _ _ rfl rfl rfl ?_; intro v1 w2 hown1 hgrow1 hb1 hsh) | (go_at_call 67; refine (writeByte_any _ _ _ _ _ 105 _ (hbld.grown hgrow1 A1.out A2.out) HBL.out (Nat.le_trans hsz hgrow1.size)).mono ?_; rintro e w3 ⟨rfl, ⟨bv3, hbld3⟩, hk3, hb3⟩; have hown3 := Own.keepK hown1 hk3 (Bld.apart (hbld.grown hgrow1 A1.out A2.out) hown1).1 (Bld.apart (hbld.grown hgrow1 A1.out A2.out) hown1).2))
          rw [HZS.out] at hown3
          have hB3 := (hB.trans hb1).trans hb3
          clear hown hbld hsh hk3 hb3 hb1 hgrow1 hown1 hB
          go_loopw [7, 8] (fun s d wr => ∃ (st' : List Int) (due' : Nat) (o' : List UInt8) (pv bv : Value), d = .int .i64 due' ∧ due' + st'.length ≤ k + 1 ∧ o'.length ≤ k + 1 + due' ∧
            Own wr w.heap.size 3 s st'.reverse ∧ Bld w.heap.size wr w1.heap.size pv bv (Lib.byteCells o') ∧ Below w.heap.size w wr ∧ Hid (popM (x :: st) due (o ++ [105]) = popM st' due' o')) (fun _ d _ => n + 2 - (intOf d).toNat)
          case atStart => exact ⟨x :: st, due, o ++ [105], _, bv3, rfl, by simp only [List.length_cons, ← HM.out]; omega, by simp; omega, by simpa using hown3, by simpa [Lib.byteCells] using hbld3, hB3, by show _ = _; rfl⟩
          case round =>
            clear hown3 hbld3 hB3
            obtain ⟨st', due', o', pv', bv', rfl, hm1, hm2, hown, hbld, hB, HP⟩ := hrel
            have hsz' := hB.size
            cases st' with
            | nil =>
              obtain ⟨sa', sc', rfl⟩ := Own.shape hown (n := 0) rfl
              go_wp2_with fail
              go_roundw
              case rel => exact ⟨k + 1, [], due', o', pv', bv', by omega, by go_num, rfl, by simpa using hm1, by omega, hown, hbld, hB, by show _ = _; rw [HSTEP.out, HP.out]; rfl⟩
              case measure => simp [intOf]; omega
            | cons t s =>
              obtain ⟨g', cp', rfl, hq1, hq2, hfz', hc'⟩ := Own.open hown (n := s.length + 1) (by simp) (by omega)
              have hct := hc' s.length t (by simp)
              clear hfz' hc'
              simp only [List.reverse_cons] at hown
              simp only [List.length_cons] at hm1
              have hpop := Own.pop hown (by simp)
              have hcap := Own.cap hown
              have hap := hbld.apart hpop
              have HAP := Lib.hid hap
              have hbl : (Lib.byteCells o').length + 1 ≤ 1000000000 := by simp [Lib.byteCells]; omega
              have HBL' := Lib.hid hbl
              clear hap hbl
              by_cases htd : t = due'
              · have hb : (t == (due' : Int)) = true := by simpa using htd
                have hpp : popM (t :: s) due' o' = popM s (due' + 1 : Nat) (o' ++ [111]) := by rw [popM, if_pos htd]; rfl
                have HPP := Lib.hid hpp
                clear htd hpp
                obtain ⟨m', hm'⟩ : ∃ m', m' = s.length := ⟨_, rfl⟩
                rw [← hm'] at hct hpop hm1 hcap ⊢
                have HM' := Lib.hid hm'
                clear hm' hown
                go_wp2_with (go_at_call 67; refine (writeByte_any _ _ _ _ _ 111 _ hbld HBL'.out hsz').mono ?_; rintro e w4 ⟨rfl, ⟨bv4, hbld4⟩, hk4, hb4⟩; have hown4 := Own.keepK hpop hk4 HAP.out.1 HAP.out.2)
                go_roundw
                case rel => exact ⟨s, due' + 1, o' ++ [111], _, bv4, by go_num, by rw [← HM'.out]; omega, by simp; omega, hown4, by simpa [Lib.byteCells] using hbld4, hB.trans hb4, by show _ = _; rw [HP.out, HPP.out]⟩
                case measure => simp [intOf]; omega
              · have hb : (t == (due' : Int)) = false := by simpa using htd
                have hpp : popM (t :: s) due' o' = (t :: s, (due' : Int), o') := by rw [popM, if_neg htd]
                have HPP := Lib.hid hpp
                clear htd hpp
                have hown5 : Own wr w.heap.size 3 (.slice (some ⟨g', 0, none⟩) (s.length + 1) cp') (t :: s).reverse := by simpa using hown
                clear hown hpop hcap
                obtain ⟨m', hm'⟩ : ∃ m', m' = s.length := ⟨_, rfl⟩
                rw [← hm'] at hct hm1 hown5 ⊢
                have HM' := Lib.hid hm'
                clear hm'
                go_wp2_with fail
                go_roundw
                case rel => exact ⟨k + 1, t :: s, due', o', pv', bv', by omega, by go_num, rfl, by simp only [List.length_cons, ← HM'.out]; omega, by omega, hown5, hbld, hB, by show _ = _; rw [HSTEP.out, HP.out, HPP.out]⟩
                case measure => simp [intOf]; omega
    · obtain rfl : k = n := by omega
      have hfin : sortM p = some o := by unfold sortM; rw [HN.out, HS.out]; rfl
      have HFIN := Lib.hid hfin
      clear hfin HS
      go_wp2_with (go_at_call 68; refine (Try.Builder_String_any _ _ o _ hbld.is hsz).mono ?_; rintro e w5 ⟨rfl, hb5⟩)
      go_ret3
      exact ⟨by rw [HFIN.out]; rfl, hB.trans hb5⟩
end Go.Proofs.Ytgajaccnjjiiaaa
