/- Unrank, of the program and of the reference: the walks. -/
import Derived.Test.YtgajaccnjjiiaaaW25
namespace Go.Proofs.Ytgajaccnjjiiaaa
open Go.RowKit

theorem Unrank_bad (n r : Int) (w : World) (h : n < 1 ∨ 20 < n ∨ r < 0 ∨ (1 ≤ n ∧ n ≤ 20 ∧ ((fct n.toNat : Nat) : Int) ≤ r)) :
    Calls Try.prog 41 #[.int .i64 n, .int .i64 r] w fun e w' => e = .returned (.tuple #[.slice none 0 0, .int .i64 1]) ∧ Below w.heap.size w w' := by
  by_cases h1 : n < 1
  · go_enter Try.func41, Try.ntmps41
    go_wp2_with fail
    go_ret2
    exact ⟨rfl, Below.refl _ _⟩
  · by_cases h2 : 20 < n
    · go_enter Try.func41, Try.ntmps41
      go_wp2_with fail
      go_ret2
      exact ⟨rfl, Below.refl _ _⟩
    · by_cases h3 : r < 0
      · go_enter Try.func41, Try.ntmps41
        go_wp2_with fail
        go_ret2
        exact ⟨rfl, Below.refl _ _⟩
      · obtain ⟨m, rfl⟩ := Int.eq_ofNat_of_zero_le (by omega : 0 ≤ n)
        have h4 : ((fct m : Nat) : Int) ≤ r := by
          rcases h with h | h | h | ⟨_, _, h⟩
          · omega
          · omega
          · omega
          · simpa using h
        have hfa := fun W => factorial_any m W (by omega)
        generalize fct m = f at *
        clear h
        go_enter Try.func41, Try.ntmps41
        go_wp2_with (go_at_call 76; refine (hfa _).mono ?_; rintro e w1 ⟨rfl, rfl⟩)
        go_ret2
        exact ⟨rfl, Below.refl _ _⟩

theorem mod_nat (a m : Nat) : (a : Int) % ((m : Int) + 1) = ((a % (m + 1) : Nat) : Int) := by rw [Int.natCast_emod]; rfl
theorem div_nat (a m : Nat) (h : a ≤ 2432902008176640000) : wrap64 ((a : Int) / ((m : Int) + 1)) = ((a / (m + 1) : Nat) : Int) := by
  have h1 : a / (m + 1) ≤ a := Nat.div_le_self _ _
  rw [show ((m : Int) + 1) = ((m + 1 : Nat) : Int) by omega, ← Int.natCast_ediv, IntWalk.wrap64_in _ (by generalize a / (m + 1) = q at *; omega)]

set_option maxRecDepth 100000 in
set_option maxHeartbeats 2000000 in
theorem Unrank_any (n r : Nat) (w : World) (h1 : 1 ≤ n) (h2 : n ≤ 20) (h3 : r < fct n) :
    Calls Try.prog 41 #[.int .i64 n, .int .i64 r] w fun e w' => ∃ u, e = .returned (.tuple #[u, .int .i64 0]) ∧ Ints w' u (fcM (digM r n)) ∧ Below w.heap.size w w' := by
  have hf := fct_le n (by omega)
  have hr : r ≤ 2432902008176640000 := by omega
  have hfa := fun W => factorial_any n W h2
  have hge : ¬ ((fct n : Nat) : Int) ≤ (r : Int) := by omega
  have h0 : digTo r n 0 = List.replicate n 0 := rfl
  have HD0 := Lib.hid h0
  clear h0 hf
  generalize fct n = f at *
  have q1 : ¬ (n : Int) < 1 := by omega
  have q2 : ¬ (20 : Int) < n := by omega
  have q3 : ¬ (r : Int) < 0 := by omega
  go_enter Try.func41, Try.ntmps41
  go_wp2_with (first
    | (go_at_call 76; refine (hfa _).mono ?_; rintro e w0 ⟨rfl, rfl⟩)
    | (at_make; refine wpList_makeV Try.info3 Try.underlying22 rfl rfl _ _ rfl n rfl rfl (by omega) (by omega) (by omega) (by omega) ?_; intro w1 hb1 hB1 hs1))
  have hz1 := hB1.size
  rw [i64s_zero, ← HD0.out] at hb1
  go_loopw [1, 7] (fun a i wr => ∃ m j : Nat, j + m = n ∧ i = .int .i64 ((j : Int) - 1) ∧ a = .int .i64 ((r / fct m : Nat) : Int) ∧ Blk wr w.heap.size 3 (I64s (digTo r n m)) ∧ Below w.heap.size w wr) (fun _ i _ => (intOf i + 1).toNat)
  case atStart => exact ⟨0, n, by omega, rfl, by simp [fct], hb1, hB1⟩
  case round =>
    clear hb1 hs1
    obtain ⟨m, j, hj, rfl, rfl, hb, hB⟩ := hrel
    have hq : r / fct m ≤ 2432902008176640000 := Nat.le_trans (Nat.div_le_self _ _) hr
    by_cases h0 : j = 0
    · subst h0
      obtain rfl : m = n := by omega
      have HB := Lib.hid hb
      have hints := hb.ints (n := m) (c := m) (by rw [digTo_len]) ⟨Nat.le_refl _, by omega⟩
      rw [digTo_all] at hints
      clear hb
      generalize r / fct m = a at *
      go_wp2_with (go_at_call 39; refine (FromCode_any _ _ _ hints (by rw [digM_len]; omega) (by rw [digM_len]; omega)).mono ?_; rintro e w4 ⟨⟨_, u, rfl, hu⟩ | ⟨hng, _⟩, hb4⟩ <;> first | exact absurd (good_dig r m) hng | skip)
      go_ret2
      exact ⟨_, rfl, hu.ints, hB.trans (hb4.mono hB.size)⟩
    · obtain ⟨i, rfl⟩ : ∃ i, j = i + 1 := ⟨j - 1, by omega⟩
      have hd : n - 1 - m = i := by omega
      have hst : digTo r n (m + 1) = (digTo r n m).set i ((dgt r n i : Nat) : Int) := by rw [digTo, hd]
      have hdg := dgt_prog r n m (by omega)
      rw [hd] at hdg
      have hnx := dgt_next r m
      have hin : i < n := by omega
      obtain ⟨y, hy⟩ := get_of_lt (zs := digTo r n m) (k := i) (by rw [digTo_len]; exact hin)
      have c2 := hb.cell (i64s_get hy)
      have f2 := hb.free i
      have HB := Lib.hid hb
      have HST := Lib.hid hst
      have HDG := Lib.hid hdg
      have HNX := Lib.hid hnx
      clear hb hst hdg hnx hy hd
      generalize r / fct m = a at *
      have e1 : (((i + 1 : Nat) : Int) - 1) = i := by omega
      have e2 : (n : Int) - i = ((m + 1 : Nat) : Int) := by omega
      have mm := mod_nat a m
      have md := div_nat a m hq
      have MM := Lib.hid mm
      have MD := Lib.hid md
      clear mm md
      rw [e1]
      go_wp2_with fail
      go_roundw
      case rel =>
        refine ⟨m + 1, i, by omega, rfl, by rw [MD.out, HNX.out], ?_, hB.setCell (Nat.le_refl _) _⟩
        rw [HST.out, MM.out, HDG.out, ← i64s_set]
        exact HB.out.set _ _
      case measure => simp [intOf]

set_option maxRecDepth 100000 in
set_option maxHeartbeats 2000000 in
theorem rUnrank_any (n r : Nat) (w : World) (h1 : 1 ≤ n) (h2 : n ≤ 20) (h3 : r < fct n) :
    Calls Try.prog 43 #[.int .i64 n, .int .i64 r] w fun e w' => ∃ u, e = .returned u ∧ Ints w' u (fcM (digM r n)) ∧ Below w.heap.size w w' := by
  have hf := fct_le n (by omega)
  have hr : r ≤ 2432902008176640000 := by omega
  have hr0 : r % fct (n - 0) = r := Nat.mod_eq_of_lt h3
  have HR0 := Lib.hid hr0
  clear hr0 hf
  go_enter Try.func43, Try.ntmps43
  go_wp2_with fail
  go_loopw [1, 5, 6] (fun a u i wr => ∃ j : Nat, j ≤ n ∧ i = .int .i64 j ∧ a = .int .i64 ((r % fct (n - j) : Nat) : Int) ∧ Own wr w.heap.size 3 u ((digM r n).take j) ∧ Below w.heap.size w wr) (fun _ _ i _ => n - (intOf i).toNat)
  case atStart => exact ⟨0, by omega, rfl, by rw [HR0.out], by simpa using Own.nil _ _ _, Below.refl _ _⟩
  case round =>
    obtain ⟨j, hj, rfl, rfl, hown, hB⟩ := hrel
    have hsz := hB.size
    have hq : r % fct (n - j) ≤ 2432902008176640000 := Nat.le_trans (Nat.mod_le _ _) hr
    by_cases hlt : j < n
    · have hdg := dgt_ref r n j hlt
      have hrs := dgt_rest r n j hlt
      have htk := digM_take r n hlt
      have hlen : ((digM r n).take j).length < 1000000000000 := by rw [List.length_take, digM_len]; omega
      have hfa := fun W => Factorial_any (n - 1 - j) W (by omega)
      rw [show ((n - 1 - j : Nat) : Int) = (n : Int) - 1 - j by omega] at hfa
      have hfp := fct_pos (n - 1 - j)
      generalize r % fct (n - j) = a at *
      generalize fct (n - 1 - j) = f at *
      have hf0 : (0 : Int) < (f : Int) := by omega
      have HDG := Lib.hid hdg
      have HRS := Lib.hid hrs
      have HTK := Lib.hid htk
      have HLEN := Lib.hid hlen
      clear hdg hrs htk hlen
      have md : wrap64 ((a : Int) / (f : Int)) = ((a / f : Nat) : Int) := by
        have h1 : a / f ≤ a := Nat.div_le_self _ _
        rw [← Int.natCast_ediv, IntWalk.wrap64_in _ (by generalize a / f = q at *; omega)]
      have MD := Lib.hid md
      clear md
      go_wp2_with (first
        | (go_at_call 42; refine (hfa _).mono ?_; rintro e w1 ⟨rfl, rfl⟩)
        | (at_builtin; refine wpList_app1 Try.info3 Try.underlying22 hown hsz HLEN.out rfl _ _ rfl rfl rfl ?_; intro v3 w3 hown3 hgrow3 hb3 hsh3))
      go_roundw
      case rel =>
        refine ⟨j + 1, by omega, by go_num, ?_, ?_, hB.trans hb3⟩
        · rw [← HRS.out, Int.natCast_emod]
        · rw [HTK.out, ← HDG.out, ← MD.out]
          exact hown3
      case measure => simp [intOf]; omega
    · obtain rfl : j = n := by omega
      rw [List.take_of_length_le (by rw [digM_len]; exact Nat.le_refl _)] at hown
      have hints := hown.ints
      generalize r % fct (j - j) = a at *
      go_wp2_with (go_at_call 40; refine (rFromCode_any _ _ _ hints (by rw [digM_len]; omega) (by rw [digM_len]; omega) (good_dig r j)).mono ?_; rintro e w4 ⟨u, rfl, hu, hb4⟩)
      go_ret
      exact ⟨_, rfl, hu.ints, hB.trans (hb4.mono hsz)⟩
end Go.Proofs.Ytgajaccnjjiiaaa
