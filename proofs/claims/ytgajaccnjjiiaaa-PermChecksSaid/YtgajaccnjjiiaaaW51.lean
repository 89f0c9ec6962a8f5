/- PermChecks: the ways of a good p (printed by gen51.py). -/
import Derived.Test.YtgajaccnjjiiaaaW50
namespace Go.Proofs.Ytgajaccnjjiiaaa
open Go.RowKit

set_option maxRecDepth 100000 in
set_option maxHeartbeats 16000000 in
theorem Checks_q20 (v u : Value) (l m : List Int) (w : World) (hv : Ints w v l) (hu : Ints w u m) (hnv : ∀ n c, v = .slice none n c → c = 0) (hnu : ∀ n c, u = .slice none n c → c = 0)
    (hp : checkM (rawM l 61) = 0) (hq : checkM (rawM m 61) = 20) :
    Calls Try.prog 13 #[v, u] w fun e w' => e = .returned (.bool true) ∧ Below w.heap.size w w' := by
  have hr1 : ∀ W, Ints W v l → Calls Try.prog 38 #[v, .int .i64 61] W fun e w' => ∃ u, e = .returned u ∧ Own w' W.heap.size 3 u (rawM l 61) ∧ Below W.heap.size W w' := fun W h => raw_any v l 61 W h hnv (by omega)
  have hr2 : ∀ W, Ints W u m → Calls Try.prog 38 #[u, .int .i64 61] W fun e w' => ∃ u, e = .returned u ∧ Own w' W.heap.size 3 u (rawM m 61) ∧ Below W.heap.size W w' := fun W h => raw_any u m 61 W h hnu (by omega)
  obtain ⟨av, nv, cv, rfl, _, _⟩ := hv.open
  obtain ⟨au, nu, cu, rfl, _, _⟩ := hu.open
  generalize rawM l 61 = p at *
  generalize rawM m 61 = q at *
  have hck : ck2 p q = 20 := by unfold ck2; rw [if_pos hp, if_neg (by rw [hq]; decide)]
  have hfe : fE p q = 20 := by unfold fE; rw [if_pos hp, if_neg (by rw [hq]; decide)]
  have HP := Lib.hid hp
  have HQ := Lib.hid hq
  have HC : Hid (ck2 p q = 20 ∧ ck2 p q ≠ 0) := ⟨hck, by rw [hck]; decide⟩
  have HE : Hid (fE p q = 20 ∧ fE p q ≠ 0) := ⟨hfe, by rw [hfe]; decide⟩
  obtain ⟨np, hnp⟩ : ∃ np, p.length = np := ⟨_, rfl⟩
  obtain ⟨nq, hnq⟩ : ∃ nq, q.length = nq := ⟨_, rfl⟩
  have HNP := Lib.hid hnp
  have HNQ := Lib.hid hnq
  have HR1 := Lib.hid hr1
  have HR2 := Lib.hid hr2
  have HV := Lib.hid hv
  have HU := Lib.hid hu
  clear hp hq hck hfe hr1 hr2 hv hu hnv hnu hnp hnq
  go_enter Try.func13, Try.ntmps13
  go_wp2_with (first
    | (go_at_call_of 38 (Value.slice av nv cv); refine (HR1.out _ HV.out).mono ?_; rintro e w1 ⟨u1, rfl, ho1, hb1⟩; have hi1 := ho1.ints; obtain ⟨a1, n1, c1, rfl, HN1, hn1⟩ := hi1.open; obtain rfl : np = n1 := HNP.out.symm.trans HN1.out; have s1 := ((St.one HU.out).add hb1 hi1))
    | (go_at_call_of 38 (Value.slice au nu cu); refine (HR2.out _ (s1.get 1 rfl)).mono ?_; rintro e w2 ⟨u2, rfl, ho2, hb2⟩; have hi2 := ho2.ints; obtain ⟨a2, n2, c2, rfl, HN2, hn2⟩ := hi2.open; obtain rfl : nq = n2 := HNQ.out.symm.trans HN2.out; have s2 := s1.add hb2 hi2)
    | (go_at_call_of 62 (Value.slice a1 np c1); refine (rCheck_any _ p _ (s2.get 1 rfl)).mono ?_; rw [HP.out]; rintro e w3 ⟨rfl, hb3⟩; have s3 := s2.step hb3)
    | (go_at_call 63; refine (check_any _ p _ (s3.get 1 rfl)).mono ?_; rw [HP.out]; rintro e w4 ⟨rfl, hb4⟩; have s4 := s3.step hb4)
    | (go_at_call 62; refine (rCheck_any _ q _ (s4.get 0 rfl)).mono ?_; rw [HQ.out]; rintro e w5 ⟨rfl, hb5⟩; have s5 := s4.step hb5)
    | (go_at_call 51; refine (After_bad _ _ p q _ (s5.get 1 rfl) (s5.get 0 rfl) HC.out.2).mono ?_; rw [HC.out.1]; rintro e w6 ⟨rfl, hb6⟩; have s6 := s5.step hb6)
    | (go_at_call 52; refine (Weak_bad _ _ p q _ (s6.get 1 rfl) (s6.get 0 rfl) HC.out.2).mono ?_; rw [HC.out.1]; rintro e w7 ⟨rfl, hb7⟩; have s7 := s6.step hb7)
    | (go_at_call 53; refine (Strong_bad _ _ p q _ (s7.get 1 rfl) (s7.get 0 rfl) HC.out.2).mono ?_; rw [HC.out.1]; rintro e w8 ⟨rfl, hb8⟩; have s8 := s7.step hb8)
    | (go_at_call 54; refine (Join_bad _ _ p q _ (s8.get 1 rfl) (s8.get 0 rfl) HC.out.2).mono ?_; rw [HC.out.1]; rintro e w9 ⟨rfl, hb9⟩; have s9 := s8.step hb9)
    | (go_at_call 55; refine (Meet_bad _ _ p q _ (s9.get 1 rfl) (s9.get 0 rfl) HC.out.2).mono ?_; rw [HC.out.1]; rintro e w10 ⟨rfl, hb10⟩; have s10 := s9.step hb10)
    | (go_at_call 62; refine (rCheck_any _ q _ (s10.get 0 rfl)).mono ?_; rw [HQ.out]; rintro e w11 ⟨rfl, hb11⟩; have s11 := s10.step hb11)
    | (go_at_call 24; refine (Find_bad _ _ p q _ (s11.get 1 rfl) (s11.get 0 rfl) HE.out.2).mono ?_; rw [HE.out.1]; rintro e w12 ⟨a12, c12, rfl, hb12⟩; have s12 := s11.step hb12)
    | (go_at_call 22; refine (awake_any _ ).mono ?_; rintro e w13 ⟨rfl, hb13⟩; have s13 := s12.step hb13))
  go_ret
  exact ⟨rfl, s13.1⟩

set_option maxRecDepth 100000 in
set_option maxHeartbeats 16000000 in
theorem Checks_ne6 (v u : Value) (l m : List Int) (w : World) (hv : Ints w v l) (hu : Ints w u m) (hnv : ∀ n c, v = .slice none n c → c = 0) (hnu : ∀ n c, u = .slice none n c → c = 0)
    (hp : checkM (rawM l 61) = 0) (hq : checkM (rawM m 61) = 0) (hl : (rawM l 61).length ≠ (rawM m 61).length) (h6 : 6 < (rawM m 61).length) :
    Calls Try.prog 13 #[v, u] w fun e w' => e = .returned (.bool true) ∧ Below w.heap.size w w' := by
  have hr1 : ∀ W, Ints W v l → Calls Try.prog 38 #[v, .int .i64 61] W fun e w' => ∃ u, e = .returned u ∧ Own w' W.heap.size 3 u (rawM l 61) ∧ Below W.heap.size W w' := fun W h => raw_any v l 61 W h hnv (by omega)
  have hr2 : ∀ W, Ints W u m → Calls Try.prog 38 #[u, .int .i64 61] W fun e w' => ∃ u, e = .returned u ∧ Own w' W.heap.size 3 u (rawM m 61) ∧ Below W.heap.size W w' := fun W h => raw_any u m 61 W h hnu (by omega)
  obtain ⟨av, nv, cv, rfl, _, _⟩ := hv.open
  obtain ⟨au, nu, cu, rfl, _, _⟩ := hu.open
  generalize rawM l 61 = p at *
  generalize rawM m 61 = q at *
  have hck : ck2 p q = 7 := by unfold ck2; rw [if_pos hp, if_pos hq, if_neg hl]
  have hfe : fE p q = 2 := by unfold fE; rw [if_pos hp, if_pos hq, if_pos h6]
  have HP := Lib.hid hp
  have HQ := Lib.hid hq
  have HC : Hid (ck2 p q = 7 ∧ ck2 p q ≠ 0) := ⟨hck, by rw [hck]; decide⟩
  have HE : Hid (fE p q = 2 ∧ fE p q ≠ 0) := ⟨hfe, by rw [hfe]; decide⟩
  obtain ⟨np, hnp⟩ : ∃ np, p.length = np := ⟨_, rfl⟩
  obtain ⟨nq, hnq⟩ : ∃ nq, q.length = nq := ⟨_, rfl⟩
  rw [hnp, hnq] at hl
  rw [hnq] at h6
  have hbn : ((np : Int) != nq) = true := by simp; omega
  have h6i : (6 : Int) < nq := by omega
  have HNP := Lib.hid hnp
  have HNQ := Lib.hid hnq
  have HR1 := Lib.hid hr1
  have HR2 := Lib.hid hr2
  have HV := Lib.hid hv
  have HU := Lib.hid hu
  clear hp hq hck hfe hr1 hr2 hv hu hnv hnu hnp hnq hl h6
  go_enter Try.func13, Try.ntmps13
  go_wp2_with (first
    | (go_at_call_of 38 (Value.slice av nv cv); refine (HR1.out _ HV.out).mono ?_; rintro e w1 ⟨u1, rfl, ho1, hb1⟩; have hi1 := ho1.ints; obtain ⟨a1, n1, c1, rfl, HN1, hn1⟩ := hi1.open; obtain rfl : np = n1 := HNP.out.symm.trans HN1.out; have s1 := ((St.one HU.out).add hb1 hi1))
    | (go_at_call_of 38 (Value.slice au nu cu); refine (HR2.out _ (s1.get 1 rfl)).mono ?_; rintro e w2 ⟨u2, rfl, ho2, hb2⟩; have hi2 := ho2.ints; obtain ⟨a2, n2, c2, rfl, HN2, hn2⟩ := hi2.open; obtain rfl : nq = n2 := HNQ.out.symm.trans HN2.out; have s2 := s1.add hb2 hi2)
    | (go_at_call_of 62 (Value.slice a1 np c1); refine (rCheck_any _ p _ (s2.get 1 rfl)).mono ?_; rw [HP.out]; rintro e w3 ⟨rfl, hb3⟩; have s3 := s2.step hb3)
    | (go_at_call 63; refine (check_any _ p _ (s3.get 1 rfl)).mono ?_; rw [HP.out]; rintro e w4 ⟨rfl, hb4⟩; have s4 := s3.step hb4)
    | (go_at_call 62; refine (rCheck_any _ q _ (s4.get 0 rfl)).mono ?_; rw [HQ.out]; rintro e w5 ⟨rfl, hb5⟩; have s5 := s4.step hb5)
    | (go_at_call 51; refine (After_bad _ _ p q _ (s5.get 1 rfl) (s5.get 0 rfl) HC.out.2).mono ?_; rw [HC.out.1]; rintro e w6 ⟨rfl, hb6⟩; have s6 := s5.step hb6)
    | (go_at_call 52; refine (Weak_bad _ _ p q _ (s6.get 1 rfl) (s6.get 0 rfl) HC.out.2).mono ?_; rw [HC.out.1]; rintro e w7 ⟨rfl, hb7⟩; have s7 := s6.step hb7)
    | (go_at_call 53; refine (Strong_bad _ _ p q _ (s7.get 1 rfl) (s7.get 0 rfl) HC.out.2).mono ?_; rw [HC.out.1]; rintro e w8 ⟨rfl, hb8⟩; have s8 := s7.step hb8)
    | (go_at_call 54; refine (Join_bad _ _ p q _ (s8.get 1 rfl) (s8.get 0 rfl) HC.out.2).mono ?_; rw [HC.out.1]; rintro e w9 ⟨rfl, hb9⟩; have s9 := s8.step hb9)
    | (go_at_call 55; refine (Meet_bad _ _ p q _ (s9.get 1 rfl) (s9.get 0 rfl) HC.out.2).mono ?_; rw [HC.out.1]; rintro e w10 ⟨rfl, hb10⟩; have s10 := s9.step hb10)
    | (go_at_call 62; refine (rCheck_any _ q _ (s10.get 0 rfl)).mono ?_; rw [HQ.out]; rintro e w11 ⟨rfl, hb11⟩; have s11 := s10.step hb11)
    | (go_at_call 24; refine (Find_bad _ _ p q _ (s11.get 1 rfl) (s11.get 0 rfl) HE.out.2).mono ?_; rw [HE.out.1]; rintro e w12 ⟨a12, c12, rfl, hb12⟩; have s12 := s11.step hb12)
    | (go_at_call 22; refine (awake_any _ ).mono ?_; rintro e w13 ⟨rfl, hb13⟩; have s13 := s12.step hb13))
  go_ret
  exact ⟨rfl, s13.1⟩

set_option maxRecDepth 100000 in
set_option maxHeartbeats 16000000 in
theorem Checks_ne (v u : Value) (l m : List Int) (w : World) (hv : Ints w v l) (hu : Ints w u m) (hnv : ∀ n c, v = .slice none n c → c = 0) (hnu : ∀ n c, u = .slice none n c → c = 0)
    (hp : checkM (rawM l 61) = 0) (hq : checkM (rawM m 61) = 0) (hl : (rawM l 61).length ≠ (rawM m 61).length) (h6 : ¬ 6 < (rawM m 61).length) :
    Calls Try.prog 13 #[v, u] w fun e w' => e = .returned (.bool true) ∧ Below w.heap.size w w' := by
  have hr1 : ∀ W, Ints W v l → Calls Try.prog 38 #[v, .int .i64 61] W fun e w' => ∃ u, e = .returned u ∧ Own w' W.heap.size 3 u (rawM l 61) ∧ Below W.heap.size W w' := fun W h => raw_any v l 61 W h hnv (by omega)
  have hr2 : ∀ W, Ints W u m → Calls Try.prog 38 #[u, .int .i64 61] W fun e w' => ∃ u, e = .returned u ∧ Own w' W.heap.size 3 u (rawM m 61) ∧ Below W.heap.size W w' := fun W h => raw_any u m 61 W h hnu (by omega)
  obtain ⟨av, nv, cv, rfl, _, _⟩ := hv.open
  obtain ⟨au, nu, cu, rfl, _, _⟩ := hu.open
  generalize rawM l 61 = p at *
  generalize rawM m 61 = q at *
  have hck : ck2 p q = 7 := by unfold ck2; rw [if_pos hp, if_pos hq, if_neg hl]
  have hfe : fE p q = 0 := by unfold fE; rw [if_pos hp, if_pos hq, if_neg h6]
  have HP := Lib.hid hp
  have HQ := Lib.hid hq
  have HC : Hid (ck2 p q = 7 ∧ ck2 p q ≠ 0) := ⟨hck, by rw [hck]; decide⟩
  have HE := Lib.hid hfe
  obtain ⟨np, hnp⟩ : ∃ np, p.length = np := ⟨_, rfl⟩
  obtain ⟨nq, hnq⟩ : ∃ nq, q.length = nq := ⟨_, rfl⟩
  rw [hnp, hnq] at hl
  rw [hnq] at h6
  have hbn : ((np : Int) != nq) = true := by simp; omega
  have h6i : ¬ (6 : Int) < nq := by omega
  have HNP := Lib.hid hnp
  have HNQ := Lib.hid hnq
  have HR1 := Lib.hid hr1
  have HR2 := Lib.hid hr2
  have HV := Lib.hid hv
  have HU := Lib.hid hu
  clear hp hq hck hfe hr1 hr2 hv hu hnv hnu hnp hnq hl h6
  go_enter Try.func13, Try.ntmps13
  go_wp2_with (first
    | (go_at_call_of 38 (Value.slice av nv cv); refine (HR1.out _ HV.out).mono ?_; rintro e w1 ⟨u1, rfl, ho1, hb1⟩; have hi1 := ho1.ints; obtain ⟨a1, n1, c1, rfl, HN1, hn1⟩ := hi1.open; obtain rfl : np = n1 := HNP.out.symm.trans HN1.out; have s1 := ((St.one HU.out).add hb1 hi1))
    | (go_at_call_of 38 (Value.slice au nu cu); refine (HR2.out _ (s1.get 1 rfl)).mono ?_; rintro e w2 ⟨u2, rfl, ho2, hb2⟩; have hi2 := ho2.ints; obtain ⟨a2, n2, c2, rfl, HN2, hn2⟩ := hi2.open; obtain rfl : nq = n2 := HNQ.out.symm.trans HN2.out; have s2 := s1.add hb2 hi2)
    | (go_at_call_of 62 (Value.slice a1 np c1); refine (rCheck_any _ p _ (s2.get 1 rfl)).mono ?_; rw [HP.out]; rintro e w3 ⟨rfl, hb3⟩; have s3 := s2.step hb3)
    | (go_at_call 63; refine (check_any _ p _ (s3.get 1 rfl)).mono ?_; rw [HP.out]; rintro e w4 ⟨rfl, hb4⟩; have s4 := s3.step hb4)
    | (go_at_call 62; refine (rCheck_any _ q _ (s4.get 0 rfl)).mono ?_; rw [HQ.out]; rintro e w5 ⟨rfl, hb5⟩; have s5 := s4.step hb5)
    | (go_at_call 51; refine (After_bad _ _ p q _ (s5.get 1 rfl) (s5.get 0 rfl) HC.out.2).mono ?_; rw [HC.out.1]; rintro e w6 ⟨rfl, hb6⟩; have s6 := s5.step hb6)
    | (go_at_call 52; refine (Weak_bad _ _ p q _ (s6.get 1 rfl) (s6.get 0 rfl) HC.out.2).mono ?_; rw [HC.out.1]; rintro e w7 ⟨rfl, hb7⟩; have s7 := s6.step hb7)
    | (go_at_call 53; refine (Strong_bad _ _ p q _ (s7.get 1 rfl) (s7.get 0 rfl) HC.out.2).mono ?_; rw [HC.out.1]; rintro e w8 ⟨rfl, hb8⟩; have s8 := s7.step hb8)
    | (go_at_call 54; refine (Join_bad _ _ p q _ (s8.get 1 rfl) (s8.get 0 rfl) HC.out.2).mono ?_; rw [HC.out.1]; rintro e w9 ⟨rfl, hb9⟩; have s9 := s8.step hb9)
    | (go_at_call 55; refine (Meet_bad _ _ p q _ (s9.get 1 rfl) (s9.get 0 rfl) HC.out.2).mono ?_; rw [HC.out.1]; rintro e w10 ⟨rfl, hb10⟩; have s10 := s9.step hb10)
    | (go_at_call 62; refine (rCheck_any _ q _ (s10.get 0 rfl)).mono ?_; rw [HQ.out]; rintro e w11 ⟨rfl, hb11⟩; have s11 := s10.step hb11)
    | (go_at_call 24; refine (Find_any _ _ p q _ (s11.get 1 rfl) (s11.get 0 rfl)).mono ?_; rw [HE.out]; rintro e w12 ⟨u12, rfl, ho12, hb12⟩; have s12 := s11.step hb12; obtain ⟨a12, n12, c12, rfl, HN12, hn12⟩ := ho12.ints.open)
    | (go_at_call 22; refine (awake_any _ ).mono ?_; rintro e w13 ⟨rfl, hb13⟩; have s13 := s12.step hb13))
  go_ret
  exact ⟨rfl, s13.1⟩

set_option maxRecDepth 100000 in
set_option maxHeartbeats 16000000 in
theorem Checks_eq6 (v u : Value) (l m : List Int) (w : World) (hv : Ints w v l) (hu : Ints w u m) (hnv : ∀ n c, v = .slice none n c → c = 0) (hnu : ∀ n c, u = .slice none n c → c = 0)
    (hp : checkM (rawM l 61) = 0) (hq : checkM (rawM m 61) = 0) (hl : (rawM l 61).length = (rawM m 61).length) (h6 : 6 < (rawM m 61).length) :
    Calls Try.prog 13 #[v, u] w fun e w' => e = .returned (.bool true) ∧ Below w.heap.size w w' := by
  have hr1 : ∀ W, Ints W v l → Calls Try.prog 38 #[v, .int .i64 61] W fun e w' => ∃ u, e = .returned u ∧ Own w' W.heap.size 3 u (rawM l 61) ∧ Below W.heap.size W w' := fun W h => raw_any v l 61 W h hnv (by omega)
  have hr2 : ∀ W, Ints W u m → Calls Try.prog 38 #[u, .int .i64 61] W fun e w' => ∃ u, e = .returned u ∧ Own w' W.heap.size 3 u (rawM m 61) ∧ Below W.heap.size W w' := fun W h => raw_any u m 61 W h hnu (by omega)
  obtain ⟨av, nv, cv, rfl, _, _⟩ := hv.open
  obtain ⟨au, nu, cu, rfl, _, _⟩ := hu.open
  generalize rawM l 61 = p at *
  generalize rawM m 61 = q at *
  have hck : ck2 p q = 0 := ck2_ok hp hq hl
  have hfe : fE p q = 2 := by unfold fE; rw [if_pos hp, if_pos hq, if_pos h6]
  have HP := Lib.hid hp
  have HQ := Lib.hid hq
  have HC := Lib.hid hck
  have HE : Hid (fE p q = 2 ∧ fE p q ≠ 0) := ⟨hfe, by rw [hfe]; decide⟩
  obtain ⟨np, hnp⟩ : ∃ np, p.length = np := ⟨_, rfl⟩
  obtain ⟨nq, hnq⟩ : ∃ nq, q.length = nq := ⟨_, rfl⟩
  rw [hnp, hnq] at hl
  rw [hnq] at h6
  subst hl
  have h6i : (6 : Int) < np := by omega
  have HNP := Lib.hid hnp
  have HNQ := Lib.hid hnq
  have HR1 := Lib.hid hr1
  have HR2 := Lib.hid hr2
  have HV := Lib.hid hv
  have HU := Lib.hid hu
  clear hp hq hck hfe hr1 hr2 hv hu hnv hnu hnp hnq h6
  go_enter Try.func13, Try.ntmps13
  go_wp2_with (first
    | (go_at_call_of 38 (Value.slice av nv cv); refine (HR1.out _ HV.out).mono ?_; rintro e w1 ⟨u1, rfl, ho1, hb1⟩; have hi1 := ho1.ints; obtain ⟨a1, n1, c1, rfl, HN1, hn1⟩ := hi1.open; obtain rfl : np = n1 := HNP.out.symm.trans HN1.out; have s1 := ((St.one HU.out).add hb1 hi1))
    | (go_at_call_of 38 (Value.slice au nu cu); refine (HR2.out _ (s1.get 1 rfl)).mono ?_; rintro e w2 ⟨u2, rfl, ho2, hb2⟩; have hi2 := ho2.ints; obtain ⟨a2, n2, c2, rfl, HN2, hn2⟩ := hi2.open; obtain rfl : np = n2 := HNQ.out.symm.trans HN2.out; have s2 := s1.add hb2 hi2)
    | (go_at_call_of 62 (Value.slice a1 np c1); refine (rCheck_any _ p _ (s2.get 1 rfl)).mono ?_; rw [HP.out]; rintro e w3 ⟨rfl, hb3⟩; have s3 := s2.step hb3)
    | (go_at_call 63; refine (check_any _ p _ (s3.get 1 rfl)).mono ?_; rw [HP.out]; rintro e w4 ⟨rfl, hb4⟩; have s4 := s3.step hb4)
    | (go_at_call 62; refine (rCheck_any _ q _ (s4.get 0 rfl)).mono ?_; rw [HQ.out]; rintro e w5 ⟨rfl, hb5⟩; have s5 := s4.step hb5)
    | (go_at_call 51; refine (After_any _ _ p q _ (s5.get 1 rfl) (s5.get 0 rfl) HC.out).mono ?_; rintro e w6 ⟨u6, rfl, ho6, hb6⟩; have s6 := s5.step hb6; obtain ⟨a6, n6, c6, rfl, HN6, hn6⟩ := ho6.ints.open)
    | (go_at_call 52; refine (Weak_any _ _ p q _ (s6.get 1 rfl) (s6.get 0 rfl) HC.out).mono ?_; rintro e w7 ⟨rfl, hb7⟩; have s7 := s6.step hb7)
    | (go_at_call 53; refine (Strong_any _ _ p q _ (s7.get 1 rfl) (s7.get 0 rfl) HC.out).mono ?_; rintro e w8 ⟨rfl, hb8⟩; have s8 := s7.step hb8)
    | (go_at_call 54; refine (Join_any _ _ p q _ (s8.get 1 rfl) (s8.get 0 rfl) HC.out).mono ?_; rintro e w9 ⟨u9, rfl, ho9, hb9⟩; have s9 := s8.step hb9; obtain ⟨a9, n9, c9, rfl, HN9, hn9⟩ := ho9.ints.open)
    | (go_at_call 55; refine (Meet_any _ _ p q _ (s9.get 1 rfl) (s9.get 0 rfl) HC.out).mono ?_; rintro e w10 ⟨u10, rfl, ho10, hb10⟩; have s10 := s9.step hb10; obtain ⟨a10, n10, c10, rfl, HN10, hn10⟩ := ho10.ints.open)
    | (go_at_call 62; refine (rCheck_any _ q _ (s10.get 0 rfl)).mono ?_; rw [HQ.out]; rintro e w11 ⟨rfl, hb11⟩; have s11 := s10.step hb11)
    | (go_at_call 24; refine (Find_bad _ _ p q _ (s11.get 1 rfl) (s11.get 0 rfl) HE.out.2).mono ?_; rw [HE.out.1]; rintro e w12 ⟨a12, c12, rfl, hb12⟩; have s12 := s11.step hb12)
    | (go_at_call 22; refine (awake_any _ ).mono ?_; rintro e w13 ⟨rfl, hb13⟩; have s13 := s12.step hb13))
  go_ret
  exact ⟨rfl, s13.1⟩

set_option maxRecDepth 100000 in
set_option maxHeartbeats 16000000 in
theorem Checks_eq (v u : Value) (l m : List Int) (w : World) (hv : Ints w v l) (hu : Ints w u m) (hnv : ∀ n c, v = .slice none n c → c = 0) (hnu : ∀ n c, u = .slice none n c → c = 0)
    (hp : checkM (rawM l 61) = 0) (hq : checkM (rawM m 61) = 0) (hl : (rawM l 61).length = (rawM m 61).length) (h6 : ¬ 6 < (rawM m 61).length) :
    Calls Try.prog 13 #[v, u] w fun e w' => e = .returned (.bool true) ∧ Below w.heap.size w w' := by
  have hr1 : ∀ W, Ints W v l → Calls Try.prog 38 #[v, .int .i64 61] W fun e w' => ∃ u, e = .returned u ∧ Own w' W.heap.size 3 u (rawM l 61) ∧ Below W.heap.size W w' := fun W h => raw_any v l 61 W h hnv (by omega)
  have hr2 : ∀ W, Ints W u m → Calls Try.prog 38 #[u, .int .i64 61] W fun e w' => ∃ u, e = .returned u ∧ Own w' W.heap.size 3 u (rawM m 61) ∧ Below W.heap.size W w' := fun W h => raw_any u m 61 W h hnu (by omega)
  obtain ⟨av, nv, cv, rfl, _, _⟩ := hv.open
  obtain ⟨au, nu, cu, rfl, _, _⟩ := hu.open
  generalize rawM l 61 = p at *
  generalize rawM m 61 = q at *
  have hck : ck2 p q = 0 := ck2_ok hp hq hl
  have hfe : fE p q = 0 := by unfold fE; rw [if_pos hp, if_pos hq, if_neg h6]
  have HP := Lib.hid hp
  have HQ := Lib.hid hq
  have HC := Lib.hid hck
  have HE := Lib.hid hfe
  obtain ⟨np, hnp⟩ : ∃ np, p.length = np := ⟨_, rfl⟩
  obtain ⟨nq, hnq⟩ : ∃ nq, q.length = nq := ⟨_, rfl⟩
  rw [hnp, hnq] at hl
  rw [hnq] at h6
  subst hl
  have h6i : ¬ (6 : Int) < np := by omega
  have HNP := Lib.hid hnp
  have HNQ := Lib.hid hnq
  have HR1 := Lib.hid hr1
  have HR2 := Lib.hid hr2
  have HV := Lib.hid hv
  have HU := Lib.hid hu
  clear hp hq hck hfe hr1 hr2 hv hu hnv hnu hnp hnq h6
  go_enter Try.func13, Try.ntmps13
  go_wp2_with (first
    | (go_at_call_of 38 (Value.slice av nv cv); refine (HR1.out _ HV.out).mono ?_; rintro e w1 ⟨u1, rfl, ho1, hb1⟩; have hi1 := ho1.ints; obtain ⟨a1, n1, c1, rfl, HN1, hn1⟩ := hi1.open; obtain rfl : np = n1 := HNP.out.symm.trans HN1.out; have s1 := ((St.one HU.out).add hb1 hi1))
    | (go_at_call_of 38 (Value.slice au nu cu); refine (HR2.out _ (s1.get 1 rfl)).mono ?_; rintro e w2 ⟨u2, rfl, ho2, hb2⟩; have hi2 := ho2.ints; obtain ⟨a2, n2, c2, rfl, HN2, hn2⟩ := hi2.open; obtain rfl : np = n2 := HNQ.out.symm.trans HN2.out; have s2 := s1.add hb2 hi2)
    | (go_at_call_of 62 (Value.slice a1 np c1); refine (rCheck_any _ p _ (s2.get 1 rfl)).mono ?_; rw [HP.out]; rintro e w3 ⟨rfl, hb3⟩; have s3 := s2.step hb3)
    | (go_at_call 63; refine (check_any _ p _ (s3.get 1 rfl)).mono ?_; rw [HP.out]; rintro e w4 ⟨rfl, hb4⟩; have s4 := s3.step hb4)
    | (go_at_call 62; refine (rCheck_any _ q _ (s4.get 0 rfl)).mono ?_; rw [HQ.out]; rintro e w5 ⟨rfl, hb5⟩; have s5 := s4.step hb5)
    | (go_at_call 51; refine (After_any _ _ p q _ (s5.get 1 rfl) (s5.get 0 rfl) HC.out).mono ?_; rintro e w6 ⟨u6, rfl, ho6, hb6⟩; have s6 := s5.step hb6; obtain ⟨a6, n6, c6, rfl, HN6, hn6⟩ := ho6.ints.open)
    | (go_at_call 52; refine (Weak_any _ _ p q _ (s6.get 1 rfl) (s6.get 0 rfl) HC.out).mono ?_; rintro e w7 ⟨rfl, hb7⟩; have s7 := s6.step hb7)
    | (go_at_call 53; refine (Strong_any _ _ p q _ (s7.get 1 rfl) (s7.get 0 rfl) HC.out).mono ?_; rintro e w8 ⟨rfl, hb8⟩; have s8 := s7.step hb8)
    | (go_at_call 54; refine (Join_any _ _ p q _ (s8.get 1 rfl) (s8.get 0 rfl) HC.out).mono ?_; rintro e w9 ⟨u9, rfl, ho9, hb9⟩; have s9 := s8.step hb9; obtain ⟨a9, n9, c9, rfl, HN9, hn9⟩ := ho9.ints.open)
    | (go_at_call 55; refine (Meet_any _ _ p q _ (s9.get 1 rfl) (s9.get 0 rfl) HC.out).mono ?_; rintro e w10 ⟨u10, rfl, ho10, hb10⟩; have s10 := s9.step hb10; obtain ⟨a10, n10, c10, rfl, HN10, hn10⟩ := ho10.ints.open)
    | (go_at_call 62; refine (rCheck_any _ q _ (s10.get 0 rfl)).mono ?_; rw [HQ.out]; rintro e w11 ⟨rfl, hb11⟩; have s11 := s10.step hb11)
    | (go_at_call 24; refine (Find_any _ _ p q _ (s11.get 1 rfl) (s11.get 0 rfl)).mono ?_; rw [HE.out]; rintro e w12 ⟨u12, rfl, ho12, hb12⟩; have s12 := s11.step hb12; obtain ⟨a12, n12, c12, rfl, HN12, hn12⟩ := ho12.ints.open)
    | (go_at_call 22; refine (awake_any _ ).mono ?_; rintro e w13 ⟨rfl, hb13⟩; have s13 := s12.step hb13))
  go_ret
  exact ⟨rfl, s13.1⟩

end Go.Proofs.Ytgajaccnjjiiaaa
