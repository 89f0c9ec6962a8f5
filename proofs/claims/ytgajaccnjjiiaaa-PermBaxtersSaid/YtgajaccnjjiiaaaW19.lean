/- PermBaxters: the walk. -/
import Derived.Test.YtgajaccnjjiiaaaW18
namespace Go.Proofs.Ytgajaccnjjiiaaa
open Go.RowKit

set_option maxRecDepth 100000 in
set_option maxHeartbeats 4000000 in
theorem PermBaxters_any (v : Value) (l : List Int) (n : Int) (w : World) (hv : Ints w v l) (hn : -9223372036854775808 ≤ n ∧ n ≤ 9223372036854775807) :
    Calls Try.prog 3 #[v, .int .i64 n] w fun e w' => e = .returned (.bool true) ∧ Below w.heap.size w w' := by
  have hch := tameM_check l 14 (by omega) (by omega)
  have hln : (tameM l 14).length ≤ 1000 := by rw [tameM_len]; unfold tameN; omega
  have HCH := Lib.hid hch
  have HLN := Lib.hid hln
  clear hch hln
  obtain ⟨b, hb⟩ : ∃ b, (bxFind (tameM l 14)).isSome = b := ⟨_, rfl⟩
  have hb2 : (bxFind (tameM l 14)).isNone = !b := by rw [← hb]; cases bxFind (tameM l 14) <;> rfl
  have HB := Lib.hid hb
  have HB2 := Lib.hid hb2
  clear hb hb2
  go_enter Try.func3, Try.ntmps3
  cases b
  all_goals
    go_upto_region 7 with (first
      | (go_at_call 14; refine (tame_any _ l 14 _ hv (by omega)).mono ?_; rintro e w1 ⟨u1, rfl, hown1, hb1⟩; have hu1 := Own.ints hown1)
      | (go_at_call 15; refine (baxter_any _ _ _ hu1 HCH.out HLN.out).mono ?_; rw [HB2.out]; rintro e w2 ⟨u2, rfl, hu2, hb2⟩; have hu12 := hu1.below hb2 (Nat.le_refl _); have hB2 := hb1.trans (hb2.mono hb1.size))
      | (go_at_call 16; refine (rbaxter_any _ _ _ hu12 HLN.out).mono ?_; rw [HB.out]; rintro e w3 ⟨u3, rfl, hu3, hb3⟩; have hu23 := hu2.below hb3 (Nat.le_refl _); have hB3 := hB2.trans (hb3.mono hB2.size))
      | (go_at_call 17; refine (same_any _ _ _ _ _ hu23 hu3).mono ?_; rw [decide_eq_true rfl]; rintro e w4 ⟨rfl, m4, rfl⟩))
  all_goals
    have hB4 := hB3.drewN' m4
    generalize w3.drewN m4 = wa at *
    go_loopw [1, 11] (fun a i wr => ∃ (m : Int) (j : Nat), (-9223372036854775808 ≤ m ∧ m ≤ 9223372036854775807) ∧ j ≤ 2 ∧ a = .int .i64 m ∧ i = .int .i64 j ∧ Below w.heap.size w wr) (fun _ i _ => 2 - (intOf i).toNat)
    case atStart => exact ⟨n, 0, hn, by omega, rfl, rfl, hB4⟩
    case round =>
      obtain ⟨m, j, hm, hj, rfl, rfl, hB⟩ := hrel
      by_cases hlt : j < 2
      · by_cases hin : 1 ≤ m ∧ m ≤ 20
        · obtain ⟨mN, rfl⟩ : ∃ mN : Nat, m = mN := ⟨m.toNat, by omega⟩
          have hm1 : 1 ≤ mN := by omega
          have hm2 : mN ≤ 20 := by omega
          have ha1 := baxters_agree mN (by omega) (by omega)
          have ha2 := separables_agree mN (by omega) (by omega)
          have HA1 := Lib.hid ha1
          have HA2 := Lib.hid ha2
          clear ha1 ha2
          go_wp2_with (first
            | (go_at_call 18; refine (baxters_in mN _ hm1 hm2).mono ?_; rw [HA1.out]; rintro e w5 ⟨rfl, m5, rfl⟩)
            | (go_at_call 19; refine (separables_in mN _ hm1 hm2).mono ?_; rw [HA2.out]; rintro e w6 ⟨rfl, hb6⟩)
            | (go_at_call 20; refine (rbaxters_in mN _ hm1 hm2).mono ?_; rintro e w7 ⟨rfl, rfl⟩)
            | (go_at_call 21; refine (rseparables_in mN _ hm1 hm2).mono ?_; rintro e w8 ⟨rfl, hb8⟩))
          exact ⟨⟨_, j + 1, by omega, by omega, rfl, by go_num, (hB.drewN' m5).trans ((hb6.mono (by exact hB.size)).trans (hb8.mono (Nat.le_trans hB.size (by exact hb6.size))))⟩, by simp [intOf]; omega⟩
        · have hout : m < 1 ∨ 20 < m := by omega
          go_wp2_with (first
            | (go_at_call 18; refine (baxters_out m _ hout).mono ?_; rintro e w5 ⟨rfl, m5, rfl⟩)
            | (go_at_call 19; refine (separables_out m _ hout).mono ?_; rintro e w6 ⟨rfl, hb6⟩))
          all_goals
            have hw := kidx_wrap m (n := 20) (by omega) (by omega)
            have hk := kidx_lt m (n := 20) (by omega)
            have hw2 : wrap64 (1 + (kidx m 20 : Int)) = 1 + (kidx m 20 : Int) := IntWalk.wrap64_in _ (by omega)
            have hb9 := (hB.drewN' m5).trans (hb6.mono (by exact hB.size))
            first
            | exact ⟨⟨1 + m % 20, j + 1, by omega, by omega, rfl, by go_num, hb9⟩, by simp [intOf]; omega⟩
            | exact ⟨⟨1 + (kidx m 20 : Int), j + 1, by omega, by omega, by rw [← hw2, ← hw]; rfl, by go_num, hb9⟩, by simp [intOf]; omega⟩
      · obtain rfl : j = 2 := by omega
        go_wp2_with (go_at_call 22; refine (awake_any _).mono ?_; rintro e w9 ⟨rfl, hb9⟩)
        go_ret
        exact ⟨rfl, hB.trans (hb9.mono hB.size)⟩
end Go.Proofs.Ytgajaccnjjiiaaa
