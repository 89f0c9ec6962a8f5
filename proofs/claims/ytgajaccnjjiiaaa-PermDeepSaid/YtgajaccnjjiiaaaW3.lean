import Derived.Test.YtgajaccnjjiiaaaW1
namespace Go.Proofs.Ytgajaccnjjiiaaa
open Go.RowKit

theorem Try.info2 : (Try.prog.info? 2).map (fun i => (i.zero, i.size, i.bytes)) = some (some (.int .i64 0), 1, 8) := by kernel_rfl
theorem Try.info3 : (Try.prog.info? 3).map (fun i => (i.zero, i.size, i.bytes)) = some (some (.int .i64 0), 1, 8) := by kernel_rfl

set_option maxHeartbeats 400000 in
theorem baxters_out (n : Int) (w : World) (h : n < 1 ∨ 20 < n) :
    Calls Try.prog 18 #[.int .i64 n] w fun e w' => e = .returned (.tuple #[.int .i64 0, .int .i64 1]) ∧ ∃ m, w' = w.drewN m := by
  rcases h with h | h
  · go_enter Try.func18, Try.ntmps18
    go_wp2_with fail
    go_ret2
    exact ⟨rfl, 0, rfl⟩
  · have h' : ¬ n < 1 := by omega
    go_enter Try.func18, Try.ntmps18
    go_wp2_with fail
    go_ret2
    exact ⟨rfl, 0, rfl⟩

/-- the reference's choose -/
def rchTo (n k : Int) : Nat → Int
  | 0 => 1
  | j + 1 => wrap64 ((wrap64 (rchTo n k j * (n - k + (j + 1)))).tdiv (j + 1))
def rch (n k : Int) : Int := if k < 0 ∨ n < k then 0 else rchTo n k k.toNat

set_option maxHeartbeats 400000 in
theorem rchoose_any (n k : Int) (w : World) (h0 : 0 ≤ n) (h1 : n ≤ 100) (hk : -100 ≤ k) (h2 : k ≤ 100) :
    Calls Try.prog 66 #[.int .i64 n, .int .i64 k] w fun e w' => e = .returned (.int .i64 (rch n k)) ∧ w = w' := by
  by_cases hn : k < 0
  · go_enter Try.func66, Try.ntmps66
    go_wp2_with fail
    go_ret
    exact ⟨by simp [rch, hn], rfl⟩
  · by_cases hg : n < k
    · go_enter Try.func66, Try.ntmps66
      go_wp2_with fail
      go_ret
      exact ⟨by simp [rch, hg], rfl⟩
    · have hr : rch n k = rchTo n k k.toNat := by simp [rch, hn, hg]
      have HR := Lib.hid hr; clear hr
      obtain ⟨m, rfl⟩ := Int.eq_ofNat_of_zero_le (by omega : 0 ≤ k)
      go_enter Try.func66, Try.ntmps66
      go_wp2_with fail
      go_loop [5, 6] (fun t i => ∃ j : Nat, j ≤ m ∧ i = .int .i64 (j + 1) ∧ t = .int .i64 (rchTo n m j)) (fun _ i => m + 1 - (intOf i).toNat)
      case atStart => exact ⟨0, by omega, rfl, rfl⟩
      case round =>
        obtain ⟨j, hj, rfl, rfl⟩ := hrel
        by_cases hlt : j < m
        · go_wp2_with fail
          go_round
          case rel => exact ⟨j + 1, by omega, by go_num, by simp [rchTo]⟩
          case measure => simp [intOf]; omega
        · obtain rfl : j = m := by omega
          go_wp2_with fail
          go_ret
          exact ⟨by rw [HR.out]; simp, rfl⟩

def rbxOne (n : Int) (k : Nat) : Int :=
  wrap64 ((wrap64 (wrap64 (rch (n + 1) k * rch (n + 1) (k + 1)) * rch (n + 1) (k + 2))).tdiv (wrap64 (rch (n + 1) 1 * rch (n + 1) 2)))
def rbxTo (n : Int) : Nat → Int
  | 0 => 0
  | k + 1 => wrap64 (rbxTo n k + rbxOne n k)
theorem rbx_good : ∀ n : Nat, n < 21 → 0 < n → wrap64 (rch (n + 1) 1 * rch (n + 1) 2) ≠ 0 := by decide +kernel

set_option maxHeartbeats 1000000 in
theorem rbaxters_in (n : Nat) (w : World) (h0 : 1 ≤ n) (h1 : n ≤ 20) :
    Calls Try.prog 20 #[.int .i64 n] w fun e w' => e = .returned (.int .i64 (rbxTo n n)) ∧ w = w' := by
  have hz := rbx_good n (by omega) (by omega)
  go_enter Try.func20, Try.ntmps20
  go_wp2_with fail
  go_loop [3, 4] (fun s i => ∃ j : Nat, j ≤ n ∧ i = .int .i64 (j + 1) ∧ s = .int .i64 (rbxTo n j)) (fun _ i => n + 1 - (intOf i).toNat)
  case atStart => exact ⟨0, by omega, rfl, rfl⟩
  case round =>
    obtain ⟨j, hj, rfl, rfl⟩ := hrel
    by_cases hlt : j < n
    · go_wp2_with (go_at_call 66; refine (rchoose_any _ _ _ (by omega) (by omega) (by omega) (by omega)).mono ?_; rintro e w' ⟨rfl, rfl⟩)
      go_round
      case rel => exact ⟨j + 1, by omega, by go_num, rfl⟩
      case measure => simp [intOf]; omega
    · obtain rfl : j = n := by omega
      go_wp2_with fail
      go_ret
      exact ⟨rfl, rfl⟩


theorem baxters_agree : ∀ n : Nat, n < 21 → 0 < n → bxTo n n = rbxTo n n := by decide +kernel

def halfTo (c : List Int) (m : Nat) : Nat → Int
  | 0 => 0
  | j + 1 => wrap64 (halfTo c m j + wrap64 ((if 1 < j + 1 then wrap64 ((c[j + 1]?.getD 0).tdiv 2) else c[j + 1]?.getD 0) * c[m - (j + 1)]?.getD 0))
def cntTo : Nat → List Int
  | 0 => [0, 1]
  | j + 1 => cntTo j ++ [wrap64 (2 * halfTo (cntTo j) (j + 2) (j + 1))]
theorem cntTo_len (j : Nat) : (cntTo j).length = j + 2 := by
  induction j with
  | zero => rfl
  | succ j ih => simp [cntTo, ih]

set_option maxHeartbeats 1000000 in
theorem separables_in (n : Nat) (w : World) (h0 : 1 ≤ n) (h1 : n ≤ 20) :
    Calls Try.prog 19 #[.int .i64 n] w fun e w' => e = .returned (.tuple #[.int .i64 ((cntTo (n - 1))[n]?.getD 0), .int .i64 0]) ∧ Below w.heap.size w w' := by
  go_enter Try.func19, Try.ntmps19
  go_wp2_with fail
  go_loopw [4, 5] (fun v i wr => ∃ j : Nat, j + 1 ≤ n ∧ i = .int .i64 (j + 2) ∧ Own wr w.heap.size 2 v (cntTo j) ∧ Below w.heap.size w wr) (fun _ i _ => n + 2 - (intOf i).toNat)
  case atStart => exact ⟨0, by omega, rfl, Own.lit w _ 2 [0, 1] (Nat.le_refl _) (by decide), (Below.refl _ _).alloc (Nat.le_refl _) _⟩
  case round =>
    obtain ⟨j, hj, rfl, hown, hB⟩ := hrel
    have hsz := hB.size
    obtain ⟨g, cap, rfl, hg1, hg2, hfz, hc⟩ := Own.open hown (cntTo_len j) (by omega)
    have HC := Lib.hid hc; clear hc
    have HF := Lib.hid hfz; clear hfz
    by_cases hlt : j + 1 < n
    · have hle : (j : Int) + 2 ≤ n := by omega
      go_wp2_with fail
      go_loop [6, 7] (fun hf k => ∃ i : Nat, i ≤ j + 1 ∧ k = .int .i64 (i + 1) ∧ hf = .int .i64 (halfTo (cntTo j) (j + 2) i)) (fun _ k => j + 3 - (intOf k).toNat)
      case atStart => exact ⟨0, by omega, rfl, rfl⟩
      case round =>
        obtain ⟨i, hi, rfl, rfl⟩ := hrel
        by_cases hli : i < j + 1
        · obtain ⟨x, hx⟩ := get_of_lt (zs := cntTo j) (k := i + 1) (by rw [cntTo_len]; omega)
          obtain ⟨y, hy⟩ := get_of_lt (zs := cntTo j) (k := j + 1 - i) (by rw [cntTo_len]; omega)
          have hc1 := HC.out _ _ hx
          have hc2 := HC.out _ _ hy
          have hs : halfTo (cntTo j) (j + 2) (i + 1) = wrap64 (halfTo (cntTo j) (j + 2) i + wrap64 ((if 1 < i + 1 then wrap64 (x.tdiv 2) else x) * y)) := by
            rw [halfTo, hx, show j + 2 - (i + 1) = j + 1 - i by omega, hy]; rfl
          have HS := Lib.hid hs; clear hs hx hy
          by_cases h1 : 1 < i + 1
          · go_wp2_with fail
            go_round
            case rel => exact ⟨i + 1, by omega, by go_num, by rw [HS.out, if_pos h1]⟩
            case measure => simp [intOf]; omega
          · go_wp2_with fail
            go_round
            case rel => exact ⟨i + 1, by omega, by go_num, by rw [HS.out, if_neg h1]⟩
            case measure => simp [intOf]; omega
        · obtain rfl : i = j + 1 := by omega
          generalize hh : halfTo (cntTo j) (j + 2) (j + 1) = H
          have HH := Lib.hid hh; clear hh
          go_wp2_with (at_builtin; refine wpList_app1 Try.info2 Try.underlying82 hown hsz (by rw [cntTo_len]; omega) rfl _ _ rfl rfl rfl ?_; intro v' w1 hown1 hgrow1 hb1 hsh)
          go_roundw
          case rel => exact ⟨j + 1, by omega, by go_num, by rw [cntTo, HH.out]; exact hown1, hB.trans hb1⟩
          case measure => simp [intOf]; omega
    · obtain rfl : n = j + 1 := by omega
      obtain ⟨x, hx⟩ := get_of_lt (zs := cntTo j) (k := j + 1) (by rw [cntTo_len]; omega)
      have hc1 := HC.out _ _ hx
      have HX := Lib.hid hx; clear hx
      go_wp2_with fail
      go_ret2
      exact ⟨by rw [show j + 1 - 1 = j by omega, HX.out]; rfl, hB⟩

set_option maxHeartbeats 400000 in
theorem separables_out (n : Int) (w : World) (h : n < 1 ∨ 20 < n) :
    Calls Try.prog 19 #[.int .i64 n] w fun e w' => e = .returned (.tuple #[.int .i64 0, .int .i64 1]) ∧ Below w.heap.size w w' := by
  rcases h with h | h
  · go_enter Try.func19, Try.ntmps19
    go_wp2_with fail
    go_ret2
    exact ⟨rfl, Below.refl _ _⟩
  · have h' : ¬ n < 1 := by omega
    go_enter Try.func19, Try.ntmps19
    go_wp2_with fail
    go_ret2
    exact ⟨rfl, Below.refl _ _⟩

def plusTo (s part : List Int) (k : Nat) : Nat → Int
  | 0 => 0
  | j + 1 => wrap64 (plusTo s part k j + wrap64 (part[j + 1]?.getD 0 * s[k - (j + 1)]?.getD 0))
def sepStep (k : Nat) (p : List Int × List Int) : List Int × List Int :=
  if k = 1 then (p.1.set 1 1, p.2.set 1 1) else (p.1.set k (wrap64 (2 * plusTo p.1 p.2 k (k - 1))), p.2.set k (plusTo p.1 p.2 k (k - 1)))
def sepTo (n : Nat) : Nat → List Int × List Int
  | 0 => (List.replicate (n + 1) 0, List.replicate (n + 1) 0)
  | k + 1 => sepStep (k + 1) (sepTo n k)
theorem sepTo_len (n k : Nat) : (sepTo n k).1.length = n + 1 ∧ (sepTo n k).2.length = n + 1 := by
  induction k with
  | zero => simp [sepTo]
  | succ k ih => simp only [sepTo, sepStep]; split <;> simp [ih]

end Go.Proofs.Ytgajaccnjjiiaaa
