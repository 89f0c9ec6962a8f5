/- PermCounts: the walk. -/
import Derived.Test.YtgajaccnjjiiaaaW31
import Derived.Test.YtgajaccnjjiiaaaW26
namespace Go.Proofs.Ytgajaccnjjiiaaa
open Go.RowKit

set_option maxRecDepth 100000 in
set_option maxHeartbeats 8000000 in
theorem PermCounts_any (n : Int) (w : World) :
    Calls Try.prog 7 #[.int .i64 n] w fun e w' => e = .returned (.bool true) ∧ Below w.heap.size w w' := by
  go_enter Try.func7, Try.ntmps7
  go_upto_region 2 with fail
  have hk := kidx_lt n (n := 5) (by omega)
  have hw : wrap64 ((IntKind.u64.wrap n).tmod 5) = ((kidx n 5 : Nat) : Int) := kidx_wrap n (n := 5) (by omega) (by omega)
  have hw2 : wrap64 (1 + ((kidx n 5 : Nat) : Int)) = ((kidx n 5 + 1 : Nat) : Int) := by rw [IntWalk.wrap64_in _ (by omega)]; omega
  rw [hw, hw2]
  generalize hkk : kidx n 5 + 1 = k at *
  generalize kidx n 5 = k0 at *
  have hk1 : 1 ≤ k := by omega
  have hk5 : k ≤ 5 := by omega
  clear hw hw2 hkk hk
  obtain ⟨hok, hcB, hcS⟩ := counts_all k (by omega) (by omega)
  have HOK := Lib.hid hok
  have HCB := Lib.hid hcB
  have HCS := Lib.hid hcS
  clear hok hcB hcS
  have hfa := fun W => Factorial_any k W (by omega)
  have hfl := fct_le k (by omega)
  have HUN := Lib.hid (fun (r : Nat) (W : World) (h : r < fct k) => Unrank_any k r W hk1 (by omega) h)
  have HAT := Lib.hid (fun (r : Nat) (h : r < fct k) => okK_at HOK.out h)
  generalize fct k = F at *
  go_wp2_with fail
  go_loopw [4, 5, 6] (fun a b i wr => ∃ r : Nat, r ≤ F ∧ i = .int .i64 r ∧ a = .int .i64 ((cntB k r : Nat) : Int) ∧ b = .int .i64 ((cntS k r : Nat) : Int) ∧ Below w.heap.size w wr) (fun _ _ i _ => F - (intOf i).toNat)
  case atStart => exact ⟨0, by omega, rfl, rfl, rfl, Below.refl _ _⟩
  case round =>
    obtain ⟨r, hr, rfl, rfl, rfl, hB⟩ := hrel
    have hsz := hB.size
    by_cases hlt : r < F
    · obtain ⟨hch, hpl, hrk⟩ := HAT.out r hlt
      have hun : ∀ W, Calls Try.prog 41 #[.int .i64 k, .int .i64 r] W fun e w' => ∃ u, e = .returned (.tuple #[u, .int .i64 0]) ∧ Ints w' u (permAt k r) ∧ Below W.heap.size W w' := fun W => HUN.out r W hlt
      have hB1 := cntB_succ k r
      have hS1 := cntS_succ k r
      have hBl := cntB_le k r
      have hSl := cntS_le k r
      generalize hp : permAt k r = p at *
      have hbx := fun v W (hv : Ints W v p) => baxter_any v p W hv hch (by omega)
      have hbl := fun v W (hv : Ints W v p) => Blocks_any v p W hv hch
      have hrk2 : hornTo p.length (codeM p) p.length = (r : Int) := by rw [hpl]; exact hrk
      have hsim := fun v (W : World) ok (h : TreeAt W ok v (treeF 60 p)) => simple_any 61 v _ W ok h (deep_treeF 60 p)
      rw [simple_K] at hsim
      generalize (bxFind p).isNone = bB at *
      generalize simK 60 p = bS at *
      have HB1 := Lib.hid hB1
      have HS1 := Lib.hid hS1
      have HBX := Lib.hid hbx
      have HBL := Lib.hid hbl
      have HSM := Lib.hid hsim
      have HRK := Lib.hid hrk2
      have HCH := Lib.hid hch
      have HPL := Lib.hid hpl
      clear hB1 hS1 hbx hbl hsim hrk2 hrk hch hpl
      generalize cntB k r = cB at *
      generalize cntS k r = cS at *
      cases bB
      all_goals cases bS
      all_goals
        go_wp2_with (first
          | (go_at_call 42; refine (hfa _).mono ?_; rintro e w1 ⟨rfl, rfl⟩)
          | (go_at_call 41; refine (hun _).mono ?_; rintro e w2 ⟨u2, rfl, hu2, hb2⟩; obtain ⟨au, nu, cu, rfl, HNU, hnu⟩ := hu2.open; obtain rfl : nu = k := HNU.out.symm.trans HPL.out; have hBB2 := hB.trans (hb2.mono hsz))
          | (go_at_call 33; refine (Rank_any _ p _ hu2 HCH.out (by rw [HPL.out]; omega)).mono ?_; rw [HRK.out]; rintro e w3 ⟨rfl, hb3⟩; have hu3 := hu2.below hb3 (Nat.le_refl _); have hBB3 := hBB2.trans (hb3.mono hBB2.size))
          | (go_at_call 15; refine (HBX.out _ _ hu3).mono ?_; rintro e w4 ⟨u4, rfl, hu4, hb4⟩; have hu34 := hu3.below hb4 (Nat.le_refl _); have hBB4 := hBB3.trans (hb4.mono hBB3.size))
          | (go_at_call 25; refine (HBL.out _ _ hu34).mono ?_; rintro e w5 ⟨u5, rfl, ht5, hb5⟩; obtain ⟨k5, a5, n5, c5, a6, n6, c6, rfl⟩ := ht5.slices; have hBB5 := hBB4.trans (hb5.mono hBB4.size); have hz5 := hBB5.size)
          | (go_at_call 26; refine (HSM.out _ _ _ (ht5.kept (ok' := fun b => w4.heap.size ≤ b) (by simp) (fun b hb hlt => ⟨hb, Below.heap_alloc w5 _ b hlt⟩))).mono ?_; rintro e w6 ⟨rfl, hb6⟩; have hBB6 := (hBB5.alloc hz5 (.cells #[.int .i64 k5, .slice a5 n5 c5, .slice a6 n6 c6] 41)).trans (hb6.mono (by simp; omega))))
        exact ⟨⟨r + 1, by omega, by go_num, by rw [HB1.out]; simp, by rw [HS1.out]; simp, hBB6⟩, by simp [intOf]; omega⟩
    · obtain rfl : r = F := by omega
      have e1 : bxTo (k : Int) k = ((cntB k r : Nat) : Int) := HCB.out.symm
      have e2 : (cntTo (k - 1))[k]?.getD 0 = ((cntS k r : Nat) : Int) := HCS.out.symm
      have E1 := Lib.hid e1
      have E2 := Lib.hid e2
      clear e1 e2
      generalize cntB k r = cB at *
      generalize cntS k r = cS at *
      go_wp2_with (first
        | (go_at_call 42; refine (hfa _).mono ?_; rintro e w1 ⟨rfl, rfl⟩)
        | (go_at_call 18; refine (baxters_in k _ hk1 (by omega)).mono ?_; rw [E1.out]; rintro e w5 ⟨rfl, m5, rfl⟩)
        | (go_at_call 19; refine (separables_in k _ hk1 (by omega)).mono ?_; rw [E2.out]; rintro e w6 ⟨rfl, hb6⟩)
        | (go_at_call 22; refine (awake_any _).mono ?_; rintro e w9 ⟨rfl, hb9⟩))
      have hBx := (hB.drewN' m5).trans (hb6.mono (by exact hB.size))
      go_ret
      exact ⟨rfl, hBx.trans (hb9.mono hBx.size)⟩
end Go.Proofs.Ytgajaccnjjiiaaa
