/- PermFinds: the walk. -/
import Derived.Test.YtgajaccnjjiiaaaW59
import Derived.Test.YtgajaccnjjiiaaaSt
namespace Go.Proofs.Ytgajaccnjjiiaaa
open Go.RowKit

set_option maxRecDepth 100000 in
set_option maxHeartbeats 16000000 in
theorem PermFinds_any (v u : Value) (l m : List Int) (run : ByteArray) (w : World) (hv : Ints w v l) (hu : Ints w u m) (hrun : run.size ≤ 9223372036854775807) :
    Calls Try.prog 5 #[v, u, .string run] w fun e w' => e = .returned (.bool true) ∧ Below w.heap.size w w' := by
  have hcp := tameM_check l 10 (by omega) (by omega)
  have hcq := tameM_check m 6 (by omega) (by omega)
  have hlp : 1 ≤ (tameM l 10).length ∧ (tameM l 10).length ≤ 10 := by rw [tameM_len]; unfold tameN; omega
  have hlq : (tameM m 6).length ≤ 6 := by rw [tameM_len]; unfold tameN; omega
  have htp : ∀ W, Ints W v l → Calls Try.prog 14 #[v, .int .i64 10] W fun e w' => ∃ u, e = .returned u ∧ Own w' W.heap.size 3 u (tameM l 10) ∧ Below W.heap.size W w' := fun W h => tame_any v l 10 W h (by omega)
  have htq : ∀ W, Ints W u m → Calls Try.prog 14 #[u, .int .i64 6] W fun e w' => ∃ u, e = .returned u ∧ Own w' W.heap.size 3 u (tameM m 6) ∧ Below W.heap.size W w' := fun W h => tame_any u m 6 W h (by omega)
  generalize tameM l 10 = p at *
  generalize tameM m 6 = q at *
  obtain ⟨n, hn⟩ : ∃ n, n = p.length := ⟨_, rfl⟩
  have hF := fun v u W (h : Ints W v p) (k : Ints W u q) => Find_any v u p q W h k
  rw [fE_ok hcp hcq hlq] at hF
  have hR := fun v u W (h : Ints W v p) (k : Ints W u q) => rFind_any v u p q W hcp hcq hlq h k
  have hR2 := fun v W (h : Ints W v p) => rFind_any v (.slice (some ⟨W.heap.size, 0, none⟩) 3 3) p [1, 2, 0] (W.alloc (.cells #[.int .i64 1, .int .i64 2, .int .i64 0] 3)) hcp check120 (by simp) (h.below ((Below.refl _ W).alloc (Nat.le_refl _) _) (Nat.le_refl _)) (Ints.lit W 3 [1, 2, 0] (by simp))
  have hso := fun u W (h : Ints W u p) => sort_any u p W h hcp (by omega)
  obtain ⟨ho1, ho2, ho3⟩ := sort_out hcp
  rw [sort_knuth hcp] at hso ho1 ho2
  have hS := fun (t : ByteArray) (ht : t.size ≤ 1000) v W (h : Ints W v p) => Sorts_any v p t W h hcp (by omega) ht
  have hS2 := fun (t : ByteArray) (ht : t.size ≤ 1000) v W (h : Ints W v p) => rSorts_any v p t W h hcp (by omega) ht
  generalize sortsM p = sM at *
  generalize (findM p [1, 2, 0]).isSome = bA at *
  generalize (sortOut (sortM p)).1 = so at *
  have hsoz : (⟨so.toArray⟩ : ByteArray).size ≤ 1000 := by simp [ByteArray.size]; omega
  generalize (findM p q).isSome = bF at *
  generalize (findM p q).getD [] = rF at *
  clear hcp hcq hlq
  have HTP := Lib.hid htp
  have HTQ := Lib.hid htq
  have HF := Lib.hid hF
  have HR := Lib.hid hR
  have HR2 := Lib.hid hR2
  have HSO := Lib.hid hso
  have HS := Lib.hid hS
  have HS2 := Lib.hid hS2
  have HV := Lib.hid hv
  have HU := Lib.hid hu
  have HNP := Lib.hid hn
  have HSOZ := Lib.hid hsoz
  have hn10 : n ≤ 10 := by omega
  have hn1 : 1 ≤ n := by omega
  clear htp htq hF hR hR2 hso hS hS2 hsoz ho3 hlp hn
  obtain ⟨av, nv, cv, rfl, _, _⟩ := hv.open
  obtain ⟨au, nu, cu, rfl, _, _⟩ := hu.open
  clear hv hu
  have hr40 : (run.extract 0 (min (run.size : Int) 40).toNat).size ≤ 40 := by simp; omega
  have hSr := fun v W h => HS.out (run.extract 0 (min (run.size : Int) 40).toNat) (by omega) v W h
  have hSr2 := fun v W h => HS2.out (run.extract 0 (min (run.size : Int) 40).toNat) (by omega) v W h
  generalize sM (run.extract 0 (min (run.size : Int) 40).toNat).data.toList = bR at *
  have HSR := Lib.hid hSr
  have HSR2 := Lib.hid hSr2
  clear hSr hSr2
  have hSo : bA = false → ∀ v W, Ints W v p → Calls Try.prog 29 #[v, .string ⟨so.toArray⟩] W fun e w' => e = .returned (.bool true) ∧ Below W.heap.size W w' := by
    rintro rfl v W h
    have := HS.out ⟨so.toArray⟩ HSOZ.out v W h
    simp only [ho1 rfl] at this
    exact this
  have hSo2 : bA = false → ∀ v W, Ints W v p → Calls Try.prog 28 #[v, .string ⟨so.toArray⟩] W fun e w' => e = .returned (.bool true) ∧ Below W.heap.size W w' := by
    rintro rfl v W h
    have := HS2.out ⟨so.toArray⟩ HSOZ.out v W h
    simp only [ho1 rfl] at this
    exact this
  clear ho1
  cases bA
  case' false =>
    have HSo := Lib.hid (hSo rfl)
    have HSo2 := Lib.hid (hSo2 rfl)
  case' true =>
    obtain rfl := ho2 rfl
  all_goals
    clear ho2 hSo hSo2
    go_enter Try.func5, Try.ntmps5
    go_upto_region 10 with (first
      | (go_at_call_of 14 (Value.slice av nv cv); refine (HTP.out _ HV.out).mono ?_; rintro e w1 ⟨u1, rfl, ho1, hb1⟩; have hi1 := ho1.ints; obtain ⟨a1, n1, c1, rfl, HN1, hn1⟩ := hi1.open; obtain rfl : n1 = n := HN1.out.symm.trans HNP.out.symm; have s1 := (St.one HU.out).add hb1 hi1)
      | (go_at_call_of 14 (Value.slice au nu cu); refine (HTQ.out _ (s1.get 1 rfl)).mono ?_; rintro e w2 ⟨u2, rfl, ho2, hb2⟩; have hi2 := ho2.ints; obtain ⟨a2, n2, c2, rfl, HN2, hn2⟩ := hi2.open; have s2 := s1.add hb2 hi2)
      | (go_at_call 24; refine (HF.out _ _ _ (s2.get 1 rfl) (s2.get 0 rfl)).mono ?_; rintro e w3 ⟨u3, rfl, ho3, hb3⟩; have hi3 := ho3.ints; obtain ⟨a3, n3, c3, rfl, HN3, hn3⟩ := hi3.open; have s3 := s2.add hb3 hi3)
      | (go_at_call_of 27 (Value.slice a2 n2 c2); refine (HR.out _ _ _ (s3.get 2 rfl) (s3.get 1 rfl)).mono ?_; rintro e w4 ⟨a4, n4, c4, rfl, hi4, hb4⟩; have s4 := s3.add hb4 hi4)
      | (go_at_call 17; refine (same_self _ _ rF _ (s4.get 1 rfl) (s4.get 0 rfl)).mono ?_; rintro e w5 ⟨rfl, hb5⟩; have s5 := s4.step hb5)
      | (go_at_call 23; refine (HSO.out _ _ (s5.get 3 rfl)).mono ?_; rintro e w6 ⟨rfl, hb6⟩; have s6 := s5.step hb6)
      | (go_at_call_of 27 (Value.slice (some ⟨w6.heap.size, 0, none⟩) 3 3); refine (HR2.out _ _ (s6.get 3 rfl)).mono ?_; rintro e w7 ⟨a7, n7, c7, rfl, hi7, hb7⟩; have s7 := (s6.step ((Below.refl _ _).alloc (Nat.le_refl _) _)).step hb7)
      | (go_at_call 28; refine (HSo2.out _ _ (s7.get 3 rfl)).mono ?_; rintro e w8 ⟨rfl, hb8⟩; have s8 := s7.step hb8)
      | (go_at_call 29; refine (HSo.out _ _ (s8.get 3 rfl)).mono ?_; rintro e w9 ⟨rfl, hb9⟩; have s9 := s8.step hb9))
  · have sA := s7
    cases bR
    all_goals
      go_wp2_with (first
        | (go_at_call 29; refine (HSR.out _ _ (sA.get 3 rfl)).mono ?_; rintro e wB ⟨rfl, hbB⟩; have sB := sA.step hbB)
        | (go_at_call 28; refine (HSR2.out _ _ (sB.get 3 rfl)).mono ?_; rintro e wC ⟨rfl, hbC⟩; have sC := sB.step hbC))
      go_loop [19, 20] (fun tv iv => ∃ (k : Nat) (t : ByteArray), k ≤ 2 * n1 ∧ iv = .int .i64 k ∧ tv = .string t ∧ Hid (t.size = k)) (fun _ iv => 2 * n1 - (intOf iv).toNat)
      case atStart => exact ⟨0, ⟨#[]⟩, by omega, rfl, rfl, (show Hid (_ = _) from rfl)⟩
      case round =>
        obtain ⟨k, t, hk, rfl, rfl, HTK⟩ := hrel
        have ht20 : t.size ≤ 20 := by have := HTK.out; omega
        by_cases hlt : k < 2 * n1
        · have hlti : (k : Int) < 2 * (n1 : Int) := by omega
          by_cases hks : k < (run.extract 0 (min (run.size : Int) 40).toNat).size
          all_goals
            go_wp2_with fail
            all_goals
              refine ⟨⟨k + 1, _, by omega, by go_num, rfl, ?_⟩, by simp [intOf]; omega⟩
              show _ = _
              simp [HTK.out]
              rfl
        · have hge : ¬ (k : Int) < 2 * (n1 : Int) := by omega
          have hT := fun v W h => HS.out t (by omega) v W h
          have hT2 := fun v W h => HS2.out t (by omega) v W h
          generalize sM t.data.toList = bT at *
          have HT := Lib.hid hT
          have HT2 := Lib.hid hT2
          clear hT hT2
          cases bT
          all_goals
            go_wp2_with (first
              | (go_at_call 29; refine (HT.out _ _ (sC.get 3 rfl)).mono ?_; rintro e wD ⟨rfl, hbD⟩; have sD := sC.step hbD)
              | (go_at_call 28; refine (HT2.out _ _ (sD.get 3 rfl)).mono ?_; rintro e wE ⟨rfl, hbE⟩; have sE := sD.step hbE)
              | (go_at_call 22; refine (awake_any _).mono ?_; rintro e wF ⟨rfl, hbF⟩; have sF := sE.step hbF))
            go_ret
            exact ⟨rfl, sF.1⟩
  · have sA := s9
    cases bR
    all_goals
      go_wp2_with (first
        | (go_at_call 29; refine (HSR.out _ _ (sA.get 3 rfl)).mono ?_; rintro e wB ⟨rfl, hbB⟩; have sB := sA.step hbB)
        | (go_at_call 28; refine (HSR2.out _ _ (sB.get 3 rfl)).mono ?_; rintro e wC ⟨rfl, hbC⟩; have sC := sB.step hbC))
      go_loop [19, 20] (fun tv iv => ∃ (k : Nat) (t : ByteArray), k ≤ 2 * n1 ∧ iv = .int .i64 k ∧ tv = .string t ∧ Hid (t.size = k)) (fun _ iv => 2 * n1 - (intOf iv).toNat)
      case atStart => exact ⟨0, ⟨#[]⟩, by omega, rfl, rfl, (show Hid (_ = _) from rfl)⟩
      case round =>
        obtain ⟨k, t, hk, rfl, rfl, HTK⟩ := hrel
        have ht20 : t.size ≤ 20 := by have := HTK.out; omega
        by_cases hlt : k < 2 * n1
        · have hlti : (k : Int) < 2 * (n1 : Int) := by omega
          by_cases hks : k < (run.extract 0 (min (run.size : Int) 40).toNat).size
          all_goals
            go_wp2_with fail
            all_goals
              refine ⟨⟨k + 1, _, by omega, by go_num, rfl, ?_⟩, by simp [intOf]; omega⟩
              show _ = _
              simp [HTK.out]
              rfl
        · have hge : ¬ (k : Int) < 2 * (n1 : Int) := by omega
          have hT := fun v W h => HS.out t (by omega) v W h
          have hT2 := fun v W h => HS2.out t (by omega) v W h
          generalize sM t.data.toList = bT at *
          have HT := Lib.hid hT
          have HT2 := Lib.hid hT2
          clear hT hT2
          cases bT
          all_goals
            go_wp2_with (first
              | (go_at_call 29; refine (HT.out _ _ (sC.get 3 rfl)).mono ?_; rintro e wD ⟨rfl, hbD⟩; have sD := sC.step hbD)
              | (go_at_call 28; refine (HT2.out _ _ (sD.get 3 rfl)).mono ?_; rintro e wE ⟨rfl, hbE⟩; have sE := sD.step hbE)
              | (go_at_call 22; refine (awake_any _).mono ?_; rintro e wF ⟨rfl, hbF⟩; have sF := sE.step hbF))
            go_ret
            exact ⟨rfl, sF.1⟩
end Go.Proofs.Ytgajaccnjjiiaaa
