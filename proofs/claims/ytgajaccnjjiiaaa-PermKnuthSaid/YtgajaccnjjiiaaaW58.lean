/- PermKnuth: the walk. -/
import Derived.Test.YtgajaccnjjiiaaaW57
import Derived.Test.YtgajaccnjjiiaaaW31
import Derived.Test.YtgajaccnjjiiaaaSt
import Derived.Test.YtgajaccnjjiiaaaW7
namespace Go.Proofs.Ytgajaccnjjiiaaa
open Go.RowKit

theorem findUp_some {α : Type} {f : Nat → Option α} : ∀ {n i : Nat}, (findUp f n i).isSome = true → ∃ k, i ≤ k ∧ k < i + n ∧ (f k).isSome = true
  | 0, i, h => by simp [findUp] at h
  | n + 1, i, h => by
    rw [findUp] at h
    rcases hf : f i with _ | r
    · rw [hf] at h
      obtain ⟨k, h1, h2, h3⟩ := findUp_some h
      exact ⟨k, by omega, by omega, h3⟩
    · exact ⟨i, by omega, by omega, by rw [hf]; rfl⟩
theorem bx_has {p : List Int} (h : (bxFind p).isSome = true) : Has1302 (vat p) p.length ∨ Has2031 (vat p) p.length := by
  obtain ⟨a, a1, a2, h⟩ := findUp_some h
  obtain ⟨j, j1, j2, h⟩ := findUp_some h
  obtain ⟨b, b1, b2, h⟩ := findUp_some h
  unfold bxAt at h
  split at h
  · rename_i hb
    change badB (vat p a) (vat p j) (vat p (j + 1)) (vat p b) = true at hb
    simp only [badB, Bool.or_eq_true, Bool.and_eq_true, decide_eq_true_eq] at hb
    rcases hb with ⟨⟨h1, h2⟩, h3⟩ | ⟨⟨h1, h2⟩, h3⟩
    · exact .inl ⟨a, j, j + 1, b, by omega, by omega, by omega, by omega, h1, h2, h3⟩
    · exact .inr ⟨a, j, j + 1, b, by omega, by omega, by omega, by omega, h1, h2, h3⟩
  · cases h
theorem knuth_simple {p : List Int} (h : checkM p = 0) : simK 60 p = ((findM p [1, 3, 0, 2]).isSome || (findM p [2, 0, 3, 1]).isSome) := by
  obtain ⟨⟨h0, h60⟩, hp⟩ := (checkM_iff p).1 h
  rw [Bool.eq_iff_iff, simK_iff 60 p h60 hp h0, Bool.or_eq_true, find1302 h, find2031 h]
theorem knuth_baxter {p : List Int} (h : checkM p = 0) (hs : simK 60 p = false) : (bxFind p).isNone = true := by
  obtain ⟨⟨h0, h60⟩, hp⟩ := (checkM_iff p).1 h
  rcases hb : bxFind p with _ | r
  · rfl
  · have := (simK_iff 60 p h60 hp h0).2 (bx_has (by rw [hb]; rfl))
    rw [hs] at this; cases this
theorem Find_ok (v u : Value) (p q : List Int) (b : Bool) (w : World) (hv : Ints w v p) (hu : Ints w u q) (hf : fE p q = 0) (hb : (findM p q).isSome = b) :
    Calls Try.prog 24 #[v, u] w fun e w' => ∃ a n c, e = .returned (.tuple #[.slice a n c, .bool b, .int .i64 0]) ∧ Below w.heap.size w w' := by
  refine (Find_any v u p q w hv hu).mono ?_
  rintro e w' ⟨r, rfl, ho, hB⟩
  obtain ⟨a, c, rfl⟩ := ho.shape rfl
  exact ⟨a, _, c, by rw [hb, hf], hB⟩
theorem tree_slices {w : World} {ok : Nat → Prop} {u : Value} {t : TM} (h : TreeAt w ok u t) : ∃ k a n c a' n' c', u = .agg #[.int .i64 k, .slice a n c, .slice a' n' c'] := h.slices

set_option maxRecDepth 100000 in
set_option maxHeartbeats 16000000 in
theorem PermKnuth_any (v : Value) (l : List Int) (w : World) (hv : Ints w v l) :
    Calls Try.prog 4 #[v] w fun e w' => e = .returned (.bool true) ∧ Below w.heap.size w w' := by
  have hcp := tameM_check l 16 (by omega) (by omega)
  have hlp : (tameM l 16).length ≤ 16 := by rw [tameM_len]; unfold tameN; omega
  have htm : Calls Try.prog 14 #[v, .int .i64 16] w fun e w' => ∃ u, e = .returned u ∧ Own w' w.heap.size 3 u (tameM l 16) ∧ Below w.heap.size w w' := tame_any v l 16 w hv (by omega)
  generalize tameM l 16 = p at *
  have hso := fun u W (h : Ints W u p) => sort_any u p W h hcp (by omega)
  rw [sort_knuth hcp] at hso
  have hf1 := fE_ok hcp check120 (by simp)
  have hf2 := fE_ok hcp check1302 (by simp)
  have hf3 := fE_ok hcp check2031 (by simp)
  have hF1 := fun u W (h : Ints W u p) => Find_ok u (.slice (some ⟨W.heap.size, 0, none⟩) 3 3) p [1, 2, 0] (findM p [1, 2, 0]).isSome (W.alloc (.cells #[.int .i64 1, .int .i64 2, .int .i64 0] 3)) (h.below ((Below.refl _ W).alloc (Nat.le_refl _) _) (Nat.le_refl _)) (Ints.lit W 3 [1, 2, 0] (by simp)) hf1 rfl
  have hF2 := fun u W (h : Ints W u p) => Find_ok u (.slice (some ⟨W.heap.size, 0, none⟩) 4 4) p [1, 3, 0, 2] (findM p [1, 3, 0, 2]).isSome (W.alloc (.cells #[.int .i64 1, .int .i64 3, .int .i64 0, .int .i64 2] 3)) (h.below ((Below.refl _ W).alloc (Nat.le_refl _) _) (Nat.le_refl _)) (Ints.lit W 3 [1, 3, 0, 2] (by simp)) hf2 rfl
  have hF3 := fun u W (h : Ints W u p) => Find_ok u (.slice (some ⟨W.heap.size, 0, none⟩) 4 4) p [2, 0, 3, 1] (findM p [2, 0, 3, 1]).isSome (W.alloc (.cells #[.int .i64 2, .int .i64 0, .int .i64 3, .int .i64 1] 3)) (h.below ((Below.refl _ W).alloc (Nat.le_refl _) _) (Nat.le_refl _)) (Ints.lit W 3 [2, 0, 3, 1] (by simp)) hf3 rfl
  have hbl := fun u W (h : Ints W u p) => Blocks_any u p W h hcp
  have hsm := fun u (W : World) ok (h : TreeAt W ok u (treeF 60 p)) => simple_any 61 u _ W ok h (deep_treeF 60 p)
  rw [simple_K] at hsm
  have hks := knuth_simple hcp
  have hkb := fun h => knuth_baxter hcp h
  have hbx := fun u W (h : Ints W u p) => baxter_any u p W h hcp (by omega)
  generalize (bxFind p).isNone = bX at *
  generalize (findM p [1, 2, 0]).isSome = bA at *
  generalize (findM p [1, 3, 0, 2]).isSome = bB at *
  generalize (findM p [2, 0, 3, 1]).isSome = bC at *
  generalize simK 60 p = bS at *
  generalize treeF 60 p = t at *
  generalize (sortOut (sortM p)).1 = so at *
  generalize bxOut (bxFind p) = bo at *
  clear hcp hf1 hf2 hf3 hlp
  have HTM := Lib.hid htm
  have HSO := Lib.hid hso
  have HF1 := Lib.hid hF1
  have HF2 := Lib.hid hF2
  have HF3 := Lib.hid hF3
  have HBL := Lib.hid hbl
  have HSM := Lib.hid hsm
  have HBX := Lib.hid hbx
  have HV := Lib.hid hv
  clear htm hso hF1 hF2 hF3 hbl hsm hbx
  obtain ⟨av, nv, cv, rfl, _, _⟩ := hv.open
  clear hv
  cases bA <;> cases bB <;> cases bC
  all_goals
    simp only [Bool.or_true, Bool.or_false] at hks
    subst hks
    first
      | (obtain rfl := hkb rfl)
      | skip
  all_goals clear hkb
  all_goals
    go_enter Try.func4, Try.ntmps4
    go_wp2_with (first
      | (go_at_call 14; refine HTM.out.mono ?_; rintro e w1 ⟨u1, rfl, ho1, hb1⟩; have hi1 := ho1.ints; obtain ⟨a1, n1, c1, rfl, HN1, hn1⟩ := hi1.open; have s1 := (St.one HV.out).add hb1 hi1)
      | (go_at_call 23; refine (HSO.out _ _ (s1.get 0 rfl)).mono ?_; rintro e w2 ⟨rfl, hb2⟩; have s2 := s1.step hb2)
      | (go_at_call_of 24 (Value.slice (some ⟨w2.heap.size, 0, none⟩) 3 3); refine (HF1.out _ _ (s2.get 0 rfl)).mono ?_; rintro e w3 ⟨a3, n3, c3, rfl, hb3⟩; have s3 := (s2.step ((Below.refl _ _).alloc (Nat.le_refl _) _)).step hb3)
      | (go_at_call_of 24 (Value.slice (some ⟨w3.heap.size, 0, none⟩) 4 4); refine (HF2.out _ _ (s3.get 0 rfl)).mono ?_; rintro e w4 ⟨a4, n4, c4, rfl, hb4⟩; have s4 := (s3.step ((Below.refl _ _).alloc (Nat.le_refl _) _)).step hb4)
      | (go_at_call_of 24 (Value.slice (some ⟨w4.heap.size, 0, none⟩) 4 4); refine (HF3.out _ _ (s4.get 0 rfl)).mono ?_; rintro e w5 ⟨a5, n5, c5, rfl, hb5⟩; have s5 := (s4.step ((Below.refl _ _).alloc (Nat.le_refl _) _)).step hb5)
      | (go_at_call 25; refine (HBL.out _ _ (s5.get 0 rfl)).mono ?_; rintro e w6 ⟨u6, rfl, ht6, hb6⟩; obtain ⟨k6, a6, n6, c6, a6', n6', c6', rfl⟩ := tree_slices ht6; have s6 := (s5.step hb6).step ((Below.refl _ _).alloc (Nat.le_refl _) (.cells #[.int .i64 k6, .slice a6 n6 c6, .slice a6' n6' c6'] 41)); have hk6 := Blk.new w6 41 [.int .i64 k6, .slice a6 n6 c6, .slice a6' n6' c6']; have ht6a := ht6.kept (ok' := fun b => w5.heap.size ≤ b) (w' := w6.alloc (.cells #[.int .i64 k6, .slice a6 n6 c6, .slice a6' n6' c6'] 41)) (by simp) (fun b hb hlt => ⟨hb, Below.heap_alloc w6 _ b hlt⟩))
      | (go_at_call 15; refine (HBX.out _ _ (s6.get 0 rfl)).mono ?_; rintro e w7 ⟨u7, rfl, hu7, hb7⟩; have s7 := s6.step hb7; have hk7 := hk6.keep hb7; have d0 := hk7.cell (j := 0) rfl; have d1 := hk7.cell (j := 1) rfl; have d2 := hk7.cell (j := 2) rfl; have ht7 := ht6a.kept (ok' := fun b => w5.heap.size ≤ b) hb7.size (fun b hb hlt => ⟨hb, hb7.block b hlt⟩))
      | (go_at_call 26; refine (HSM.out _ _ _ ht7).mono ?_; rintro e w8 ⟨rfl, hb8⟩; have s8 := s7.step hb8; have hk8 := hk7.keep hb8; have e0 := hk8.cell (j := 0) rfl; have e1 := hk8.cell (j := 1) rfl; have e2 := hk8.cell (j := 2) rfl; have ht8 := ht7.kept (ok' := fun b => w5.heap.size ≤ b) hb8.size (fun b hb hlt => ⟨hb, hb8.block b hlt⟩))
      | (go_at_call 26; refine (HSM.out _ _ _ ht8).mono ?_; rintro e w9 ⟨rfl, hb9⟩; have s9 := s8.step hb9)
      | (go_at_call 22; refine (awake_any _).mono ?_; rintro e w10 ⟨rfl, hb10⟩))
    go_ret
    exact ⟨rfl, (s9.step hb10).1⟩
end Go.Proofs.Ytgajaccnjjiiaaa
