import Derived.Test.YtgajaccnjjiiaaaProg
import Derived.Test.YtgajaccnjjiiaaaLib
namespace Go.Proofs.Ytgajaccnjjiiaaa
open Go.RowKit

/-- one step of choose -/
def chStep (n : Int) (out : Int) (i : Nat) : Int := wrap64 ((wrap64 (out * (n - i))).tdiv (i + 1))
def chTo (n : Int) : Nat → Int
  | 0 => 1
  | k + 1 => chStep n (chTo n k) k

set_option maxHeartbeats 400000 in
theorem choose_nat (n : Int) (k : Nat) (w : World) (h0 : 0 ≤ n) (h1 : n ≤ 100) (h2 : k ≤ 100) :
    Calls Try.prog 64 #[.int .i64 n, .int .i64 k] w fun e w' => e = .returned (.int .i64 (chTo n k)) ∧ w = w' := by
  go_enter Try.func64, Try.ntmps64
  go_wp2
  go_loop [5, 8] (fun t i => ∃ j : Nat, j ≤ k ∧ i = .int .i64 j ∧ t = .int .i64 (chTo n j)) (fun _ i => k - (intOf i).toNat)
  case atStart => exact ⟨0, by omega, rfl, rfl⟩
  case round =>
    obtain ⟨j, hj, rfl, rfl⟩ := hrel
    go_wp2
    · go_round
      case rel => exact ⟨j + 1, by omega, by go_num, rfl⟩
      case measure => simp [intOf]; omega
    · obtain rfl : j = k := by omega
      go_ret
      exact ⟨rfl, rfl⟩

theorem choose_any (n k : Int) (w : World) (h0 : 0 ≤ n) (h1 : n ≤ 100) (hk : 0 ≤ k) (h2 : k ≤ 100) :
    Calls Try.prog 64 #[.int .i64 n, .int .i64 k] w fun e w' => e = .returned (.int .i64 (chTo n k.toNat)) ∧ w = w' := by
  obtain ⟨m, rfl⟩ := Int.eq_ofNat_of_zero_le hk
  exact choose_nat n m w h0 h1 (by omega)

def gcdTo : Nat → Int → Int → Int
  | 0, a, _ => a
  | f + 1, a, b => if b = 0 then a else gcdTo f b (a % b)

theorem gcdTo_step (f : Nat) (a b : Int) (h0 : 0 < b) (hf : b ≤ f) : ∀ f' : Nat, b ≤ f' → gcdTo f a b = gcdTo f' a b := by
  induction f generalizing a b with
  | zero => omega
  | succ f ih =>
    intro f' hf'
    cases f' with
    | zero => omega
    | succ f' =>
      simp only [gcdTo]
      rw [if_neg (by omega), if_neg (by omega)]
      have hm := Int.emod_lt_of_pos a h0
      have hm' := Int.emod_nonneg a (b := b) (by omega)
      by_cases hz : a % b = 0
      · rw [hz]
        cases f <;> cases f' <;> simp [gcdTo]
      · exact ih b (a % b) (by omega) (by omega) f' (by omega)

theorem gcdTo_next (a b : Int) (h0 : 0 < b) : gcdTo b.toNat a b = gcdTo (a % b).toNat b (a % b) := by
  have hm := Int.emod_lt_of_pos a h0
  have hm' := Int.emod_nonneg a (b := b) (by omega)
  obtain ⟨n, hn⟩ : ∃ n, b.toNat = n + 1 := ⟨b.toNat - 1, by omega⟩
  rw [hn, gcdTo, if_neg (by omega)]
  by_cases hz : a % b = 0
  · rw [hz]; cases n <;> simp [gcdTo]
  · exact gcdTo_step n _ _ (by omega) (by omega) (a % b).toNat (by omega)

set_option maxHeartbeats 400000 in
theorem gcd_any (a b : Int) (w : World) (h0 : 0 ≤ a) (h1 : 0 ≤ b) :
    Calls Try.prog 65 #[.int .i64 a, .int .i64 b] w fun e w' => e = .returned (.int .i64 (gcdTo b.toNat a b)) ∧ ∃ n, w' = w.drewN n := by
  go_enter Try.func65, Try.ntmps65
  go_wp2
  go_loopw [0, 1] (fun x y wr => ∃ c d : Int, 0 ≤ c ∧ 0 ≤ d ∧ x = .int .i64 c ∧ y = .int .i64 d ∧ gcdTo b.toNat a b = gcdTo d.toNat c d ∧ ∃ n, wr = w.drewN n) (fun _ y _ => (intOf y).toNat)
  case atStart => exact ⟨a, b, h0, h1, rfl, rfl, rfl, 0, rfl⟩
  case round =>
    obtain ⟨c, d, hc, hd, rfl, rfl, hg, n, rfl⟩ := hrel
    have HG := Lib.hid hg; clear hg
    by_cases hz : d = 0
    · subst hz
      go_wp2
      go_ret
      exact ⟨by rw [HG.out]; rfl, n, rfl⟩
    · have hdp : 0 < d := by omega
      have hb0 : (d != 0) = true := by simpa using hz
      go_wp2
      go_quiet (fail)
      go_wp2
      go_roundw
      case rel => exact ⟨d, c % d, hd, Int.emod_nonneg c (by omega), rfl, rfl, by rw [HG.out]; exact gcdTo_next c d hdp, n + nq, World.drewN_drewN ..⟩
      case measure => simp only [intOf]; have := Int.emod_lt_of_pos c hdp; omega

/-- what Baxters adds for k -/
def bxX (n : Int) (k : Nat) : Int := wrap64 (chTo (n + 1) k * chTo (n + 1) (k + 1))
def bxZ (n : Int) : Int := wrap64 (chTo (n + 1) 1 * chTo (n + 1) 2)
theorem bxX_def (n : Int) (k : Nat) : bxX n k = wrap64 (chTo (n + 1) k * chTo (n + 1) (k + 1)) := rfl
theorem bxZ_def (n : Int) : bxZ n = wrap64 (chTo (n + 1) 1 * chTo (n + 1) 2) := rfl
def bxG (n : Int) (k : Nat) : Int := gcdTo (bxZ n).toNat (bxX n k) (bxZ n)
def bxOne (n : Int) (k : Nat) : Int := wrap64 ((bxX n k / bxG n k) * (chTo (n + 1) (k + 2) / (bxZ n / bxG n k)))
def bxTo (n : Int) : Nat → Int
  | 0 => 0
  | k + 1 => wrap64 (bxTo n k + bxOne n k)

theorem bx_good : ∀ n : Nat, n < 21 → ∀ k : Nat, k < n → 0 ≤ bxX n k ∧ bxX n k ≤ 1000000000000000000 ∧ 1 ≤ bxZ n ∧ bxZ n ≤ 10000 ∧ 1 ≤ bxG n k ∧ bxG n k ≤ 10000 ∧ 1 ≤ bxZ n / bxG n k ∧ 0 ≤ chTo (n + 1) (k + 2) ∧ chTo (n + 1) (k + 2) ≤ 1000000000000 := by
  decide +kernel

set_option maxHeartbeats 1000000 in
theorem baxters_in (n : Nat) (w : World) (h0 : 1 ≤ n) (h1 : n ≤ 20) :
    Calls Try.prog 18 #[.int .i64 n] w fun e w' => e = .returned (.tuple #[.int .i64 (bxTo n n), .int .i64 0]) ∧ ∃ m, w' = w.drewN m := by
  go_enter Try.func18, Try.ntmps18
  go_wp2_with fail
  go_loopw [4, 17] (fun s i wr => ∃ j : Nat, j ≤ n ∧ i = .int .i64 j ∧ s = .int .i64 (bxTo n j) ∧ ∃ m, wr = w.drewN m) (fun _ i _ => n - (intOf i).toNat)
  case atStart => exact ⟨0, by omega, rfl, rfl, 0, rfl⟩
  case round =>
    obtain ⟨j, hj, rfl, rfl, m, rfl⟩ := hrel
    by_cases hlt : j < n
    · obtain ⟨g1, g2, g3, g4, g5, g6, g7, g8, g9⟩ := bx_good n (by omega) j hlt
      go_wp2_with (go_at_call 64; refine (choose_any _ _ _ (by omega) (by omega) (by omega) (by omega)).mono ?_; rintro e w' ⟨rfl, rfl⟩)
      have eo : bxOne n j = wrap64 ((bxX n j / bxG n j) * (chTo (n + 1) (j + 2) / (bxZ n / bxG n j))) := rfl
      have e2 : bxTo n (j + 1) = wrap64 (bxTo n j + bxOne n j) := rfl
      have eg : bxG n j = gcdTo (bxZ n).toNat (bxX n j) (bxZ n) := rfl
      have ey : chTo ((n : Int) + 1) ((j : Int) + 2).toNat = chTo (n + 1) (j + 2) := by congr 1
      rw [ey]
      generalize hX : wrap64 (chTo ((n : Int) + 1) j * chTo ((n : Int) + 1) (j + 1)) = X
      generalize hZ : wrap64 (chTo ((n : Int) + 1) 1 * chTo ((n : Int) + 1) 2) = Z
      generalize hY : chTo ((n : Int) + 1) (j + 2) = Y at *
      rw [← bxX_def] at hX
      rw [← bxZ_def] at hZ
      rw [hX] at g1 g2 eo eg
      rw [hZ] at g3 g4 g7 eo eg
      refine (gcd_any _ _ _ g1 (Int.le_trans (by decide) g3)).mono ?_
      rw [← eg]
      rw [eo] at e2
      clear eo eg ey
      generalize hG : bxG n j = G at *
      have E2 := Lib.hid e2
      clear e2 hX hZ hG hY
      rintro e w' ⟨rfl, q, rfl⟩
      go_wp2_with fail
      go_quiet (fail)
      go_wp2_with fail
      go_roundw
      case rel => 
        exact ⟨j + 1, by omega, by go_num, by rw [E2.out], _, rfl⟩
      case measure => simp [intOf]; omega
    · obtain rfl : j = n := by omega
      go_wp2_with fail
      go_ret2
      exact ⟨rfl, m, rfl⟩
end Go.Proofs.Ytgajaccnjjiiaaa
