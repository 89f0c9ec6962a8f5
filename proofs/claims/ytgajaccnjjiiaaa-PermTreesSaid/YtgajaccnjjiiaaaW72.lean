/- PermTrees: the walk. -/
import Derived.Test.YtgajaccnjjiiaaaW71
import Derived.Test.YtgajaccnjjiiaaaSt
namespace Go.Proofs.Ytgajaccnjjiiaaa
open Go.RowKit

set_option maxRecDepth 100000 in
set_option maxHeartbeats 8000000 in
theorem PermTrees_any (v : Value) (l : List Int) (w : World) (hv : Ints w v l) :
    Calls Try.prog 10 #[v] w fun e w' => e = .returned (.bool true) ∧ Below w.heap.size w w' := by
  have hcp := tameM_check l 60 (by omega) (by omega)
  have htm : Calls Try.prog 14 #[v, .int .i64 60] w fun e w' => ∃ u, e = .returned u ∧ Own w' w.heap.size 3 u (tameM l 60) ∧ Below w.heap.size w w' := tame_any v l 60 w hv (by omega)
  generalize tameM l 60 = p at *
  have hbl := fun u W (h : Ints W u p) => Blocks_any u p W h hcp
  have hfi := fun u (W : World) ok (h : TreeAt W ok u (treeF 60 p)) => Fill_any u _ W ok h
  rw [fill_tree hcp] at hfi
  generalize treeF 60 p = t at *
  have HTM := Lib.hid htm
  have HBL := Lib.hid hbl
  have HFI := Lib.hid hfi
  have HV := Lib.hid hv
  clear htm hbl hfi hcp
  obtain ⟨av, nv, cv, rfl, _, _⟩ := hv.open
  clear hv
  go_enter Try.func10, Try.ntmps10
  go_wp2_with (first
    | (go_at_call 14; refine HTM.out.mono ?_; rintro e w1 ⟨u1, rfl, ho1, hb1⟩; have hi1 := ho1.ints; obtain ⟨a1, n1, c1, rfl, HN1, hn1⟩ := hi1.open; have s1 := (St.one HV.out).add hb1 hi1)
    | (go_at_call 25; refine (HBL.out _ _ (s1.get 0 rfl)).mono ?_; rintro e w2 ⟨u2, rfl, ht2, hb2⟩; obtain ⟨k2, a2, n2, c2, a2', n2', c2', rfl⟩ := ht2.slices; have s2 := (s1.step hb2).step ((Below.refl _ _).alloc (Nat.le_refl _) (.cells #[.int .i64 k2, .slice a2 n2 c2, .slice a2' n2' c2'] 41)); have ht2a := ht2.keep ((Below.refl w2.heap.size w2).alloc (Nat.le_refl _) (.cells #[.int .i64 k2, .slice a2 n2 c2, .slice a2' n2' c2'] 41)))
    | (go_at_call 47; refine (HFI.out _ _ _ ht2a).mono ?_; rintro e w3 ⟨u3, rfl, hi3, hb3⟩; obtain ⟨a3, n3, c3, rfl, _, _⟩ := hi3.open; have s3 := s2.add hb3 hi3)
    | (go_at_call 17; refine (same_self _ _ p _ (s3.get 1 rfl) (s3.get 0 rfl)).mono ?_; rintro e w4 ⟨rfl, hb4⟩; have s4 := s3.step hb4)
    | (go_at_call 22; refine (awake_any _).mono ?_; rintro e w5 ⟨rfl, hb5⟩; have s5 := s4.step hb5))
  go_ret
  exact ⟨rfl, s5.1⟩
end Go.Proofs.Ytgajaccnjjiiaaa
