/- PermChecks: what every call answers of no permutation; the way of a bad p. -/
import Derived.Test.YtgajaccnjjiiaaaW49
import Derived.Test.YtgajaccnjjiiaaaW26
namespace Go.Proofs.Ytgajaccnjjiiaaa
open Go.RowKit

set_option maxHeartbeats 1000000 in
theorem Sorts_bad (v : Value) (p : List Int) (run : ByteArray) (w : World) (hv : Ints w v p) (hch : checkM p = 20) :
    Calls Try.prog 29 #[v, .string run] w fun e w' => e = .returned (.bool false) ∧ Below w.heap.size w w' := by
  go_enter Try.func29, Try.ntmps29
  go_wp2_with (go_at_call 63; refine (check_any _ p _ hv).mono ?_; rw [hch]; rintro e w1 ⟨rfl, hb⟩)
  go_ret
  exact ⟨rfl, hb⟩

theorem ck2_bad {p q : List Int} (h : checkM p = 20) : ck2 p q = 20 := by unfold ck2; rw [if_neg (by rw [h]; decide)]
theorem fE_bad {p q : List Int} (h : checkM p = 20) : fE p q = 20 := by unfold fE; rw [if_neg (by rw [h]; decide)]
theorem findM_bad {p q : List Int} (h : fE p q ≠ 0) : findM p q = none := by unfold findM; rw [if_neg h]
/-- Find of two that are not to be searched -/
theorem Find_bad (v u : Value) (p q : List Int) (w : World) (hv : Ints w v p) (hu : Ints w u q) (h : fE p q ≠ 0) :
    Calls Try.prog 24 #[v, u] w fun e w' => ∃ a c, e = .returned (.tuple #[.slice a 0 c, .bool false, .int .i64 (fE p q)]) ∧ Below w.heap.size w w' := by
  refine (Find_any v u p q w hv hu).mono ?_
  rintro e w' ⟨r, rfl, ho, hb⟩
  rw [findM_bad h] at ho ⊢
  obtain ⟨a, c, rfl⟩ := ho.shape rfl
  exact ⟨a, c, rfl, hb⟩

set_option maxRecDepth 100000 in
set_option maxHeartbeats 16000000 in
theorem Checks_bad (v u : Value) (l m : List Int) (w : World) (hv : Ints w v l) (hu : Ints w u m) (hnv : ∀ n c, v = .slice none n c → c = 0) (hnu : ∀ n c, u = .slice none n c → c = 0)
    (hp : checkM (rawM l 61) = 20) :
    Calls Try.prog 13 #[v, u] w fun e w' => e = .returned (.bool true) ∧ Below w.heap.size w w' := by
  have hr1 : ∀ W, Ints W v l → Calls Try.prog 38 #[v, .int .i64 61] W fun e w' => ∃ u, e = .returned u ∧ Own w' W.heap.size 3 u (rawM l 61) ∧ Below W.heap.size W w' := fun W h => raw_any v l 61 W h hnv (by omega)
  have hr2 : ∀ W, Ints W u m → Calls Try.prog 38 #[u, .int .i64 61] W fun e w' => ∃ u, e = .returned u ∧ Own w' W.heap.size 3 u (rawM m 61) ∧ Below W.heap.size W w' := fun W h => raw_any u m 61 W h hnu (by omega)
  obtain ⟨av, nv, cv, rfl, _, _⟩ := hv.open
  obtain ⟨au, nu, cu, rfl, _, _⟩ := hu.open
  generalize rawM l 61 = p at *
  generalize rawM m 61 = q at *
  have hck : ck2 p q = 20 := ck2_bad hp
  have hfe : fE p q = 20 := fE_bad hp
  have h20 : (20 : Int) ≠ 0 := by decide
  have HP := Lib.hid hp
  have HC : Hid (ck2 p q = 20 ∧ ck2 p q ≠ 0) := ⟨hck, by rw [hck]; decide⟩
  have HE : Hid (fE p q = 20 ∧ fE p q ≠ 0) := ⟨hfe, by rw [hfe]; decide⟩
  have HR1 := Lib.hid hr1
  have HR2 := Lib.hid hr2
  have HV := Lib.hid hv
  have HU := Lib.hid hu
  clear hp hck hfe h20 hr1 hr2 hv hu hnv hnu
  go_enter Try.func13, Try.ntmps13
  go_wp2_with (first
    | (go_at_call_of 38 (Value.slice av nv cv); refine (HR1.out _ HV.out).mono ?_; rintro e w1 ⟨u1, rfl, ho1, hb1⟩; have hi1 := ho1.ints; obtain ⟨a1, n1, c1, rfl, HN1, hn1⟩ := hi1.open; have s1 := ((St.one HU.out).add hb1 hi1))
    | (go_at_call_of 38 (Value.slice au nu cu); refine (HR2.out _ (s1.get 1 rfl)).mono ?_; rintro e w2 ⟨u2, rfl, ho2, hb2⟩; have hi2 := ho2.ints; obtain ⟨a2, n2, c2, rfl, HN2, hn2⟩ := hi2.open; have s2 := s1.add hb2 hi2)
    | (go_at_call 62; refine (rCheck_any _ p _ (s2.get 1 rfl)).mono ?_; rw [HP.out]; rintro e w3 ⟨rfl, hb3⟩; have s3 := s2.step hb3)
    | (go_at_call 63; refine (check_any _ p _ (s3.get 1 rfl)).mono ?_; rw [HP.out]; rintro e w4 ⟨rfl, hb4⟩; have s4 := s3.step hb4)
    | (go_at_call 51; refine (After_bad _ _ p q _ (s4.get 1 rfl) (s4.get 0 rfl) HC.out.2).mono ?_; rw [HC.out.1]; rintro e w5 ⟨rfl, hb5⟩; have s5 := s4.step hb5)
    | (go_at_call 52; refine (Weak_bad _ _ p q _ (s5.get 1 rfl) (s5.get 0 rfl) HC.out.2).mono ?_; rw [HC.out.1]; rintro e w6 ⟨rfl, hb6⟩; have s6 := s5.step hb6)
    | (go_at_call 53; refine (Strong_bad _ _ p q _ (s6.get 1 rfl) (s6.get 0 rfl) HC.out.2).mono ?_; rw [HC.out.1]; rintro e w7 ⟨rfl, hb7⟩; have s7 := s6.step hb7)
    | (go_at_call 54; refine (Join_bad _ _ p q _ (s7.get 1 rfl) (s7.get 0 rfl) HC.out.2).mono ?_; rw [HC.out.1]; rintro e w8 ⟨rfl, hb8⟩; have s8 := s7.step hb8)
    | (go_at_call 55; refine (Meet_bad _ _ p q _ (s8.get 1 rfl) (s8.get 0 rfl) HC.out.2).mono ?_; rw [HC.out.1]; rintro e w9 ⟨rfl, hb9⟩; have s9 := s8.step hb9)
    | (go_at_call 24; refine (Find_bad _ _ p q _ (s9.get 1 rfl) (s9.get 0 rfl) HE.out.2).mono ?_; rw [HE.out.1]; rintro e w10 ⟨a10, c10, rfl, hb10⟩; have s10 := s9.step hb10)
    | (go_at_call 30; refine (Inverse_bad _ p _ (s10.get 1 rfl) HP.out).mono ?_; rintro e w11 ⟨rfl, hb11⟩; have s11 := s10.step hb11)
    | (go_at_call 31; refine (Inversions_bad _ p _ (s11.get 1 rfl) HP.out).mono ?_; rintro e w12 ⟨rfl, hb12⟩; have s12 := s11.step hb12)
    | (go_at_call 32; refine (code_bad _ p _ (s12.get 1 rfl) HP.out).mono ?_; rintro e w13 ⟨rfl, hb13⟩; have s13 := s12.step hb13)
    | (go_at_call 33; refine (Rank_bad _ p _ (s13.get 1 rfl) HP.out).mono ?_; rintro e w14 ⟨rfl, hb14⟩; have s14 := s13.step hb14)
    | (go_at_call 23; refine (sort_bad _ p _ (s14.get 1 rfl) HP.out).mono ?_; rintro e w15 ⟨rfl, hb15⟩; have s15 := s14.step hb15)
    | (go_at_call 25; refine (Blocks_bad _ p _ (s15.get 1 rfl) HP.out).mono ?_; rintro e w16 ⟨rfl, hb16⟩; have s16 := (s15.step hb16).step ((Below.refl _ _).alloc (Nat.le_refl _) (.cells #[.int .i64 0, .slice none 0 0, .slice none 0 0] 41)))
    | (go_at_call 15; refine (baxter_bad _ p _ (s16.get 1 rfl) HP.out).mono ?_; rintro e w17 ⟨rfl, hb17⟩; have s17 := s16.step hb17)
    | (go_at_call 29; refine (Sorts_bad _ p _ _ (s17.get 1 rfl) HP.out).mono ?_; rintro e w18 ⟨rfl, hb18⟩; have s18 := s17.step hb18)
    | (go_at_call 22; refine (awake_any _).mono ?_; rintro e w19 ⟨rfl, hb19⟩; have s19 := s18.step hb19))
  go_ret
  exact ⟨rfl, s19.1⟩
end Go.Proofs.Ytgajaccnjjiiaaa
