/- HangTurns: the walk. -/
import Derived.Test.YtjdmmgaddbleeaaH68
import Derived.Test.YtjdmmgaddbleeaaMH
namespace Go.Proofs.Ytjdmmgaddbleeaa
open Go.RowKit

set_option maxRecDepth 100000 in
set_option maxHeartbeats 8000000 in
theorem HangTurns_any (s t : ByteArray) (y : Int) (w : World) (hs : s.size ≤ 9223372036854775807) (ht : t.size ≤ 9223372036854775807) (hM : ∃ M, w.cell? ⟨0, 0, none⟩ = some (.int .i64 M)) :
    Calls Try.prog 10 #[.string s, .string t, .int .i64 y] w fun e w' => e = .returned (.bool true) ∧ Below w.heap.size w w' := by
  obtain ⟨M, hM⟩ := hM
  have h0 := cell_pos hM
  have HM := Lib.hid hM
  have HH0 := Lib.hid h0
  clear hM h0
  obtain ⟨my, hmy⟩ : ∃ m : Nat, IntKind.u64.wrap y = (m : Int) := ⟨(y % 2 ^ 64).toNat, by simp only [IntKind.wrap, IntKind.bits, IntKind.signed, Bool.false_and, Bool.false_eq_true, if_false]; omega⟩
  have HB := Lib.hid (Below.refl w.heap.size w)
  have a1 : min (s.size : Int) 100 ≤ (s.size : Int) := by omega
  have a2 : 0 ≤ min (s.size : Int) 100 := by omega
  have b1 : min (t.size : Int) 100 ≤ (t.size : Int) := by omega
  have b2 : 0 ≤ min (t.size : Int) 100 := by omega
  have hsz1 : (s.extract 0 (min (s.size : Int) 100).toNat).size ≤ 500 := by rw [ByteArray.size_extract]; omega
  have hsz2 : (t.extract 0 (min (t.size : Int) 100).toNat).size ≤ 500 := by rw [ByteArray.size_extract]; omega
  have hrU : ∀ W, Calls Try.prog 16 #[.string s, .int .i64 2, .int .i64 14] W fun e w' => e = .returned (.string (strB (textL 2 14 (bts s)))) ∧ Below W.heap.size W w' := fun W => text_any s 2 14 W hs (by omega) (by omega) (by omega)
  have hrV : ∀ W, Calls Try.prog 16 #[.string t, .int .i64 2, .int .i64 14] W fun e w' => e = .returned (.string (strB (textL 2 14 (bts t)))) ∧ Below W.heap.size W w' := fun W => text_any t 2 14 W ht (by omega) (by omega) (by omega)
  have hUw := text_word (n := 2) (m := 14) (by omega) (by omega) (bts s)
  have hVw := text_word (n := 2) (m := 14) (by omega) (by omega) (bts t)
  have hUl := text_len 2 14 (bts s)
  have hVl := text_len 2 14 (bts t)
  generalize textL 2 14 (bts s) = U at *
  generalize textL 2 14 (bts t) = V at *
  have hiy := fun W => rInverse_any (strB V) W hVw (by rw [size_str]; omega)
  simp only [bts_str] at hiy
  have zU : (strB U).size ≤ 14 := by rw [size_str]; omega
  have zV : (strB V).size ≤ 14 := by rw [size_str]; omega
  have z3 : (strB (invL V)).size ≤ 14 := by rw [size_str, invL_len]; omega
  clear hUw hVw hUl hVl
  generalize strB U = TX at *
  generalize strB (invL V) = IY at *
  generalize strB V = TY at *
  have HTX := Lib.hid hrU
  have HTY := Lib.hid hrV
  have HIY := Lib.hid hiy
  have HZ := Lib.hid (show TX.size ≤ 14 ∧ TY.size ≤ 14 ∧ IY.size ≤ 14 from ⟨zU, zV, z3⟩)
  have HAW := Lib.hid awake_any
  clear hrU hrV hiy zU zV z3
  go_enter Try.func10, Try.ntmps10
  go_wp2_with fail
  go_quiet (fail)
  go_wp2_with fail
  replace HB := Lib.hid (HB.out.drewN' nq)
  clear a1 a2 b1 b2
  go_loopw [7, 8, 9] (fun av bv iv wr => ∃ (k : Nat) (A B : ByteArray), k ≤ 3 ∧ iv = .int .i64 k ∧ av = .string A ∧ bv = .string B ∧ Hid (A.size ≤ 500 ∧ B.size ≤ 500) ∧ Hid (Below w.heap.size w wr)) (fun _ _ iv _ => 3 - (intOf iv).toNat)
  case atStart => exact ⟨0, _, _, by omega, rfl, rfl, rfl, (show Hid _ from ⟨hsz1, hsz2⟩), HB⟩
  case round =>
    clear HB hsz1 hsz2
    obtain ⟨k, A, B, hk, rfl, rfl, rfl, HAB, HB⟩ := hrel
    by_cases hlt : k < 3
    · obtain ⟨hA, hB⟩ := HAB.out
      have cha := fun W => rCheck_any A W (by omega)
      have chb := fun W => rCheck_any B W (by omega)
      by_cases hea : wordErr A = 0
      · rw [hea] at cha
        by_cases heb : wordErr B = 0
        · rw [heb] at chb
          obtain ⟨X, ok, h35, h36, hy, hn⟩ := turn_facts hea heb hA hB ((HB.out.cell (p := ⟨0, 0, none⟩) HH0.out).trans HM.out)
          have C35 := Lib.hid h35
          have C36 := Lib.hid h36
          have CHA := Lib.hid cha
          have CHB := Lib.hid chb
          clear h35 h36 cha chb hea heb hA hB HAB
          cases ok
          · obtain rfl := hn rfl
            clear hy hn
            as_aux_lemma =>
            by_cases hk1 : k = 1
            · subst hk1
              obtain ⟨hz1, hz2, hz3⟩ := HZ.out
              by_cases hemp : TX.size = 0
              · have g0 : ¬ ((TX.size : Int) > 0) := by omega
                have g1 : (0 : Int) ≤ TX.size := by omega
                have hsum : (TY ++ TX ++ IY).size ≤ 500 := by simp only [ByteArray.size_append]; omega
                have n1 : ¬ 9223372036854775807 < TY.size + TX.size := by omega
                have n3 : ¬ 9223372036854775807 < TY.size + TX.size + IY.size := by omega
                have HSUM := Lib.hid hsum
                clear hsum hemp
                go_wp2_with (first
                  | (go_at_call 35; ((with_reducible refine (C35.out).mono ?_); rintro e wn ⟨rfl, hbn⟩; replace HB := Lib.hid (HB.out.trans (hbn.mono HB.out.size)); clear hbn))
                  | (go_at_call 12; ((with_reducible refine (CHA.out _).mono ?_); rintro e wn ⟨rfl, rfl⟩))
                  | (go_at_call 12; ((with_reducible refine (CHB.out _).mono ?_); rintro e wn ⟨rfl, rfl⟩))
                  | (go_at_call 36; ((with_reducible refine (C36.out _).mono ?_); rintro e wn ⟨rfl, hbn⟩; replace HB := Lib.hid (HB.out.trans (hbn.mono HB.out.size)); clear hbn))
                  | (go_at_call 16; ((with_reducible refine (HTX.out _).mono ?_); rintro e wn ⟨rfl, hbn⟩; replace HB := Lib.hid (HB.out.trans (hbn.mono HB.out.size)); clear hbn))
                  | (go_at_call 16; ((with_reducible refine (HTY.out _).mono ?_); rintro e wn ⟨rfl, hbn⟩; replace HB := Lib.hid (HB.out.trans (hbn.mono HB.out.size)); clear hbn)))
                have hsum := HSUM.out
                obtain ⟨w2, rfl⟩ : ∃ w2, w2 = wn := ⟨_, rfl⟩
                have hrefl : Below w2.heap.size w2 w2 := Below.refl _ _
                go_region_held3 (fun w' => Below w2.heap.size w2 w') (first | assumption | (refine Below.drew ?_; assumption) | exact keepB (by assumption) hb') (first | (go_at_call 27; ((with_reducible refine (HIY.out _).mono ?_); rintro e w' ⟨rfl, hb'⟩)))
                have hbz := Lib.hid (p := Below w2.heap.size w2 w') (by assumption)
                go_wp2_with fail
                go_roundw
                case rel => exact ⟨2, TX, _, by omega, rfl, rfl, rfl, (show Hid _ from ⟨by have := HZ.out.1; omega, hsum⟩), HB.out.trans (hbz.out.mono HB.out.size)⟩
                case measure => simp [intOf]
              · have g0 : (TX.size : Int) > 0 := by omega
                have g1 : (TX.size : Int) ≠ 0 := by omega
                have g2 : IntKind.u64.wrap (TX.size : Int) = (TX.size : Int) := by simp only [IntKind.wrap, IntKind.bits, IntKind.signed, Bool.false_and, Bool.false_eq_true, if_false]; omega
                obtain ⟨i, hi⟩ : ∃ i, my % TX.size = i := ⟨_, rfl⟩
                have hi1 : i < TX.size := by rw [← hi]; exact Nat.mod_lt _ (by omega)
                have g3 : Int.tmod (my : Int) (TX.size : Int) = (i : Int) := by rw [← hi]; rfl
                have g4 : (my : Int) % (TX.size : Int) = (i : Int) := by rw [← hi]; push_cast; rfl
                have g5 : IntKind.i64.wrap (i : Int) = (i : Int) := by rw [IntKind.wrap_i64]; omega
                have g6 : (0 : Int) ≤ i := by omega
                have g7 : (i : Int) ≤ TX.size := by omega
                have g8 : (i : Int).toNat = i := by omega
                have hsum : (TY ++ TX.extract i TX.size ++ TX.extract 0 i ++ IY).size ≤ 500 := by simp only [ByteArray.size_append, ByteArray.size_extract]; omega
                have n1 : ¬ 9223372036854775807 < TY.size + (TX.size - i) := by omega
                have n2 : ¬ 9223372036854775807 < TY.size + (TX.size - i) + min i TX.size := by omega
                have n3 : ¬ 9223372036854775807 < TY.size + (TX.size - i) + min i TX.size + IY.size := by omega
                have HSUM := Lib.hid hsum
                clear hsum hi hi1 hemp
                go_wp2_with (first
                  | (go_at_call 35; ((with_reducible refine (C35.out).mono ?_); rintro e wn ⟨rfl, hbn⟩; replace HB := Lib.hid (HB.out.trans (hbn.mono HB.out.size)); clear hbn))
                  | (go_at_call 12; ((with_reducible refine (CHA.out _).mono ?_); rintro e wn ⟨rfl, rfl⟩))
                  | (go_at_call 12; ((with_reducible refine (CHB.out _).mono ?_); rintro e wn ⟨rfl, rfl⟩))
                  | (go_at_call 36; ((with_reducible refine (C36.out _).mono ?_); rintro e wn ⟨rfl, hbn⟩; replace HB := Lib.hid (HB.out.trans (hbn.mono HB.out.size)); clear hbn))
                  | (go_at_call 16; ((with_reducible refine (HTX.out _).mono ?_); rintro e wn ⟨rfl, hbn⟩; replace HB := Lib.hid (HB.out.trans (hbn.mono HB.out.size)); clear hbn))
                  | (go_at_call 16; ((with_reducible refine (HTY.out _).mono ?_); rintro e wn ⟨rfl, hbn⟩; replace HB := Lib.hid (HB.out.trans (hbn.mono HB.out.size)); clear hbn)))
                have hsum := HSUM.out
                obtain ⟨w2, rfl⟩ : ∃ w2, w2 = wn := ⟨_, rfl⟩
                have hrefl : Below w2.heap.size w2 w2 := Below.refl _ _
                go_region_held3 (fun w' => Below w2.heap.size w2 w') (first | assumption | (refine Below.drew ?_; assumption) | exact keepB (by assumption) hb') (first | (go_at_call 27; ((with_reducible refine (HIY.out _).mono ?_); rintro e w' ⟨rfl, hb'⟩)))
                have hbz := Lib.hid (p := Below w2.heap.size w2 w') (by assumption)
                go_wp2_with fail
                go_roundw
                case rel => exact ⟨2, TX, _, by omega, rfl, rfl, rfl, (show Hid _ from ⟨by have := HZ.out.1; omega, hsum⟩), HB.out.trans (hbz.out.mono HB.out.size)⟩
                case measure => simp [intOf]
            · have hk2 : ((k : Int) == 1) = false := by simp; omega
              go_wp2_with (first
                | (go_at_call 35; ((with_reducible refine (C35.out).mono ?_); rintro e wn ⟨rfl, hbn⟩; replace HB := Lib.hid (HB.out.trans (hbn.mono HB.out.size)); clear hbn))
                | (go_at_call 12; ((with_reducible refine (CHA.out _).mono ?_); rintro e wn ⟨rfl, rfl⟩))
                | (go_at_call 12; ((with_reducible refine (CHB.out _).mono ?_); rintro e wn ⟨rfl, rfl⟩))
                | (go_at_call 36; ((with_reducible refine (C36.out _).mono ?_); rintro e wn ⟨rfl, hbn⟩; replace HB := Lib.hid (HB.out.trans (hbn.mono HB.out.size)); clear hbn))
                | (go_at_call 16; ((with_reducible refine (HTX.out _).mono ?_); rintro e wn ⟨rfl, hbn⟩; replace HB := Lib.hid (HB.out.trans (hbn.mono HB.out.size)); clear hbn))
                | (go_at_call 16; ((with_reducible refine (HTY.out _).mono ?_); rintro e wn ⟨rfl, hbn⟩; replace HB := Lib.hid (HB.out.trans (hbn.mono HB.out.size)); clear hbn)))
              go_roundw
              case rel => exact ⟨k + 1, TX, TY, by omega, by go_num, rfl, rfl, (show Hid _ from ⟨by have := HZ.out.1; omega, by have := HZ.out.2.1; omega⟩), HB⟩
              case measure => simp [intOf]; omega
          · obtain ⟨y1, y2, y3⟩ := hy rfl
            have C12 := Lib.hid y1
            have C26 := Lib.hid y2
            have C37 := Lib.hid y3
            clear hy hn y1 y2 y3
            as_aux_lemma =>
            by_cases hk1 : k = 1
            · subst hk1
              obtain ⟨hz1, hz2, hz3⟩ := HZ.out
              by_cases hemp : TX.size = 0
              · have g0 : ¬ ((TX.size : Int) > 0) := by omega
                have g1 : (0 : Int) ≤ TX.size := by omega
                have hsum : (TY ++ TX ++ IY).size ≤ 500 := by simp only [ByteArray.size_append]; omega
                have n1 : ¬ 9223372036854775807 < TY.size + TX.size := by omega
                have n3 : ¬ 9223372036854775807 < TY.size + TX.size + IY.size := by omega
                have HSUM := Lib.hid hsum
                clear hsum hemp
                go_wp2_with (first
                  | (go_at_call 35; ((with_reducible refine (C35.out).mono ?_); rintro e wn ⟨rfl, hbn⟩; replace HB := Lib.hid (HB.out.trans (hbn.mono HB.out.size)); clear hbn))
                  | (go_at_call 12; ((with_reducible refine (C12.out _).mono ?_); rintro e wn ⟨rfl, rfl⟩))
                  | (go_at_call 12; ((with_reducible refine (CHA.out _).mono ?_); rintro e wn ⟨rfl, rfl⟩))
                  | (go_at_call 12; ((with_reducible refine (CHB.out _).mono ?_); rintro e wn ⟨rfl, rfl⟩))
                  | (go_at_call 36; ((with_reducible refine (C36.out _).mono ?_); rintro e wn ⟨rfl, hbn⟩; replace HB := Lib.hid (HB.out.trans (hbn.mono HB.out.size)); clear hbn))
                  | (go_at_call 26; ((with_reducible refine (C26.out _).mono ?_); rintro e wn ⟨rfl, hbn⟩; replace HB := Lib.hid (HB.out.trans (hbn.mono HB.out.size)); clear hbn))
                  | (go_at_call 37; ((with_reducible refine (C37.out _).mono ?_); rintro e wn ⟨rfl, hbn⟩; replace HB := Lib.hid (HB.out.trans (hbn.mono HB.out.size)); clear hbn))
                  | (go_at_call 16; ((with_reducible refine (HTX.out _).mono ?_); rintro e wn ⟨rfl, hbn⟩; replace HB := Lib.hid (HB.out.trans (hbn.mono HB.out.size)); clear hbn))
                  | (go_at_call 16; ((with_reducible refine (HTY.out _).mono ?_); rintro e wn ⟨rfl, hbn⟩; replace HB := Lib.hid (HB.out.trans (hbn.mono HB.out.size)); clear hbn)))
                have hsum := HSUM.out
                obtain ⟨w2, rfl⟩ : ∃ w2, w2 = wn := ⟨_, rfl⟩
                have hrefl : Below w2.heap.size w2 w2 := Below.refl _ _
                go_region_held3 (fun w' => Below w2.heap.size w2 w') (first | assumption | (refine Below.drew ?_; assumption) | exact keepB (by assumption) hb') (first | (go_at_call 27; ((with_reducible refine (HIY.out _).mono ?_); rintro e w' ⟨rfl, hb'⟩)))
                have hbz := Lib.hid (p := Below w2.heap.size w2 w') (by assumption)
                go_wp2_with fail
                go_roundw
                case rel => exact ⟨2, TX, _, by omega, rfl, rfl, rfl, (show Hid _ from ⟨by have := HZ.out.1; omega, hsum⟩), HB.out.trans (hbz.out.mono HB.out.size)⟩
                case measure => simp [intOf]
              · have g0 : (TX.size : Int) > 0 := by omega
                have g1 : (TX.size : Int) ≠ 0 := by omega
                have g2 : IntKind.u64.wrap (TX.size : Int) = (TX.size : Int) := by simp only [IntKind.wrap, IntKind.bits, IntKind.signed, Bool.false_and, Bool.false_eq_true, if_false]; omega
                obtain ⟨i, hi⟩ : ∃ i, my % TX.size = i := ⟨_, rfl⟩
                have hi1 : i < TX.size := by rw [← hi]; exact Nat.mod_lt _ (by omega)
                have g3 : Int.tmod (my : Int) (TX.size : Int) = (i : Int) := by rw [← hi]; rfl
                have g4 : (my : Int) % (TX.size : Int) = (i : Int) := by rw [← hi]; push_cast; rfl
                have g5 : IntKind.i64.wrap (i : Int) = (i : Int) := by rw [IntKind.wrap_i64]; omega
                have g6 : (0 : Int) ≤ i := by omega
                have g7 : (i : Int) ≤ TX.size := by omega
                have g8 : (i : Int).toNat = i := by omega
                have hsum : (TY ++ TX.extract i TX.size ++ TX.extract 0 i ++ IY).size ≤ 500 := by simp only [ByteArray.size_append, ByteArray.size_extract]; omega
                have n1 : ¬ 9223372036854775807 < TY.size + (TX.size - i) := by omega
                have n2 : ¬ 9223372036854775807 < TY.size + (TX.size - i) + min i TX.size := by omega
                have n3 : ¬ 9223372036854775807 < TY.size + (TX.size - i) + min i TX.size + IY.size := by omega
                have HSUM := Lib.hid hsum
                clear hsum hi hi1 hemp
                go_wp2_with (first
                  | (go_at_call 35; ((with_reducible refine (C35.out).mono ?_); rintro e wn ⟨rfl, hbn⟩; replace HB := Lib.hid (HB.out.trans (hbn.mono HB.out.size)); clear hbn))
                  | (go_at_call 12; ((with_reducible refine (C12.out _).mono ?_); rintro e wn ⟨rfl, rfl⟩))
                  | (go_at_call 12; ((with_reducible refine (CHA.out _).mono ?_); rintro e wn ⟨rfl, rfl⟩))
                  | (go_at_call 12; ((with_reducible refine (CHB.out _).mono ?_); rintro e wn ⟨rfl, rfl⟩))
                  | (go_at_call 36; ((with_reducible refine (C36.out _).mono ?_); rintro e wn ⟨rfl, hbn⟩; replace HB := Lib.hid (HB.out.trans (hbn.mono HB.out.size)); clear hbn))
                  | (go_at_call 26; ((with_reducible refine (C26.out _).mono ?_); rintro e wn ⟨rfl, hbn⟩; replace HB := Lib.hid (HB.out.trans (hbn.mono HB.out.size)); clear hbn))
                  | (go_at_call 37; ((with_reducible refine (C37.out _).mono ?_); rintro e wn ⟨rfl, hbn⟩; replace HB := Lib.hid (HB.out.trans (hbn.mono HB.out.size)); clear hbn))
                  | (go_at_call 16; ((with_reducible refine (HTX.out _).mono ?_); rintro e wn ⟨rfl, hbn⟩; replace HB := Lib.hid (HB.out.trans (hbn.mono HB.out.size)); clear hbn))
                  | (go_at_call 16; ((with_reducible refine (HTY.out _).mono ?_); rintro e wn ⟨rfl, hbn⟩; replace HB := Lib.hid (HB.out.trans (hbn.mono HB.out.size)); clear hbn)))
                have hsum := HSUM.out
                obtain ⟨w2, rfl⟩ : ∃ w2, w2 = wn := ⟨_, rfl⟩
                have hrefl : Below w2.heap.size w2 w2 := Below.refl _ _
                go_region_held3 (fun w' => Below w2.heap.size w2 w') (first | assumption | (refine Below.drew ?_; assumption) | exact keepB (by assumption) hb') (first | (go_at_call 27; ((with_reducible refine (HIY.out _).mono ?_); rintro e w' ⟨rfl, hb'⟩)))
                have hbz := Lib.hid (p := Below w2.heap.size w2 w') (by assumption)
                go_wp2_with fail
                go_roundw
                case rel => exact ⟨2, TX, _, by omega, rfl, rfl, rfl, (show Hid _ from ⟨by have := HZ.out.1; omega, hsum⟩), HB.out.trans (hbz.out.mono HB.out.size)⟩
                case measure => simp [intOf]
            · have hk2 : ((k : Int) == 1) = false := by simp; omega
              go_wp2_with (first
                | (go_at_call 35; ((with_reducible refine (C35.out).mono ?_); rintro e wn ⟨rfl, hbn⟩; replace HB := Lib.hid (HB.out.trans (hbn.mono HB.out.size)); clear hbn))
                | (go_at_call 12; ((with_reducible refine (C12.out _).mono ?_); rintro e wn ⟨rfl, rfl⟩))
                | (go_at_call 12; ((with_reducible refine (CHA.out _).mono ?_); rintro e wn ⟨rfl, rfl⟩))
                | (go_at_call 12; ((with_reducible refine (CHB.out _).mono ?_); rintro e wn ⟨rfl, rfl⟩))
                | (go_at_call 36; ((with_reducible refine (C36.out _).mono ?_); rintro e wn ⟨rfl, hbn⟩; replace HB := Lib.hid (HB.out.trans (hbn.mono HB.out.size)); clear hbn))
                | (go_at_call 26; ((with_reducible refine (C26.out _).mono ?_); rintro e wn ⟨rfl, hbn⟩; replace HB := Lib.hid (HB.out.trans (hbn.mono HB.out.size)); clear hbn))
                | (go_at_call 37; ((with_reducible refine (C37.out _).mono ?_); rintro e wn ⟨rfl, hbn⟩; replace HB := Lib.hid (HB.out.trans (hbn.mono HB.out.size)); clear hbn))
                | (go_at_call 16; ((with_reducible refine (HTX.out _).mono ?_); rintro e wn ⟨rfl, hbn⟩; replace HB := Lib.hid (HB.out.trans (hbn.mono HB.out.size)); clear hbn))
                | (go_at_call 16; ((with_reducible refine (HTY.out _).mono ?_); rintro e wn ⟨rfl, hbn⟩; replace HB := Lib.hid (HB.out.trans (hbn.mono HB.out.size)); clear hbn)))
              go_roundw
              case rel => exact ⟨k + 1, TX, TY, by omega, by go_num, rfl, rfl, (show Hid _ from ⟨by have := HZ.out.1; omega, by have := HZ.out.2.1; omega⟩), HB⟩
              case measure => simp [intOf]; omega
        · have he : errTwo A B = wordErr B := by unfold errTwo; rw [if_pos hea]
          have h35 := Turned_bad A B wr (by omega) (by omega) (by rw [he]; exact heb)
          rw [he] at h35
          have t1 : (wordErr B != 0) = true := by simpa using heb
          have t2 : (wordErr B == 0) = false := by simpa using heb
          generalize wordErr B = E at *
          have C35 := Lib.hid h35
          have CHA := Lib.hid cha
          have CHB := Lib.hid chb
          clear h35 cha chb he heb hea hA hB HAB
          as_aux_lemma =>
          by_cases hk1 : k = 1
          · subst hk1
            obtain ⟨hz1, hz2, hz3⟩ := HZ.out
            by_cases hemp : TX.size = 0
            · have g0 : ¬ ((TX.size : Int) > 0) := by omega
              have g1 : (0 : Int) ≤ TX.size := by omega
              have hsum : (TY ++ TX ++ IY).size ≤ 500 := by simp only [ByteArray.size_append]; omega
              have n1 : ¬ 9223372036854775807 < TY.size + TX.size := by omega
              have n3 : ¬ 9223372036854775807 < TY.size + TX.size + IY.size := by omega
              have HSUM := Lib.hid hsum
              clear hsum hemp
              go_wp2_with (first
                | (go_at_call 35; ((with_reducible refine (C35.out).mono ?_); rintro e wn ⟨rfl, hbn⟩; replace HB := Lib.hid (HB.out.trans (hbn.mono HB.out.size)); clear hbn))
                | (go_at_call 12; ((with_reducible refine (CHA.out _).mono ?_); rintro e wn ⟨rfl, rfl⟩))
                | (go_at_call 12; ((with_reducible refine (CHB.out _).mono ?_); rintro e wn ⟨rfl, rfl⟩))
                | (go_at_call 16; ((with_reducible refine (HTX.out _).mono ?_); rintro e wn ⟨rfl, hbn⟩; replace HB := Lib.hid (HB.out.trans (hbn.mono HB.out.size)); clear hbn))
                | (go_at_call 16; ((with_reducible refine (HTY.out _).mono ?_); rintro e wn ⟨rfl, hbn⟩; replace HB := Lib.hid (HB.out.trans (hbn.mono HB.out.size)); clear hbn)))
              have hsum := HSUM.out
              obtain ⟨w2, rfl⟩ : ∃ w2, w2 = wn := ⟨_, rfl⟩
              have hrefl : Below w2.heap.size w2 w2 := Below.refl _ _
              go_region_held3 (fun w' => Below w2.heap.size w2 w') (first | assumption | (refine Below.drew ?_; assumption) | exact keepB (by assumption) hb') (first | (go_at_call 27; ((with_reducible refine (HIY.out _).mono ?_); rintro e w' ⟨rfl, hb'⟩)))
              have hbz := Lib.hid (p := Below w2.heap.size w2 w') (by assumption)
              go_wp2_with fail
              go_roundw
              case rel => exact ⟨2, TX, _, by omega, rfl, rfl, rfl, (show Hid _ from ⟨by have := HZ.out.1; omega, hsum⟩), HB.out.trans (hbz.out.mono HB.out.size)⟩
              case measure => simp [intOf]
            · have g0 : (TX.size : Int) > 0 := by omega
              have g1 : (TX.size : Int) ≠ 0 := by omega
              have g2 : IntKind.u64.wrap (TX.size : Int) = (TX.size : Int) := by simp only [IntKind.wrap, IntKind.bits, IntKind.signed, Bool.false_and, Bool.false_eq_true, if_false]; omega
              obtain ⟨i, hi⟩ : ∃ i, my % TX.size = i := ⟨_, rfl⟩
              have hi1 : i < TX.size := by rw [← hi]; exact Nat.mod_lt _ (by omega)
              have g3 : Int.tmod (my : Int) (TX.size : Int) = (i : Int) := by rw [← hi]; rfl
              have g4 : (my : Int) % (TX.size : Int) = (i : Int) := by rw [← hi]; push_cast; rfl
              have g5 : IntKind.i64.wrap (i : Int) = (i : Int) := by rw [IntKind.wrap_i64]; omega
              have g6 : (0 : Int) ≤ i := by omega
              have g7 : (i : Int) ≤ TX.size := by omega
              have g8 : (i : Int).toNat = i := by omega
              have hsum : (TY ++ TX.extract i TX.size ++ TX.extract 0 i ++ IY).size ≤ 500 := by simp only [ByteArray.size_append, ByteArray.size_extract]; omega
              have n1 : ¬ 9223372036854775807 < TY.size + (TX.size - i) := by omega
              have n2 : ¬ 9223372036854775807 < TY.size + (TX.size - i) + min i TX.size := by omega
              have n3 : ¬ 9223372036854775807 < TY.size + (TX.size - i) + min i TX.size + IY.size := by omega
              have HSUM := Lib.hid hsum
              clear hsum hi hi1 hemp
              go_wp2_with (first
                | (go_at_call 35; ((with_reducible refine (C35.out).mono ?_); rintro e wn ⟨rfl, hbn⟩; replace HB := Lib.hid (HB.out.trans (hbn.mono HB.out.size)); clear hbn))
                | (go_at_call 12; ((with_reducible refine (CHA.out _).mono ?_); rintro e wn ⟨rfl, rfl⟩))
                | (go_at_call 12; ((with_reducible refine (CHB.out _).mono ?_); rintro e wn ⟨rfl, rfl⟩))
                | (go_at_call 16; ((with_reducible refine (HTX.out _).mono ?_); rintro e wn ⟨rfl, hbn⟩; replace HB := Lib.hid (HB.out.trans (hbn.mono HB.out.size)); clear hbn))
                | (go_at_call 16; ((with_reducible refine (HTY.out _).mono ?_); rintro e wn ⟨rfl, hbn⟩; replace HB := Lib.hid (HB.out.trans (hbn.mono HB.out.size)); clear hbn)))
              have hsum := HSUM.out
              obtain ⟨w2, rfl⟩ : ∃ w2, w2 = wn := ⟨_, rfl⟩
              have hrefl : Below w2.heap.size w2 w2 := Below.refl _ _
              go_region_held3 (fun w' => Below w2.heap.size w2 w') (first | assumption | (refine Below.drew ?_; assumption) | exact keepB (by assumption) hb') (first | (go_at_call 27; ((with_reducible refine (HIY.out _).mono ?_); rintro e w' ⟨rfl, hb'⟩)))
              have hbz := Lib.hid (p := Below w2.heap.size w2 w') (by assumption)
              go_wp2_with fail
              go_roundw
              case rel => exact ⟨2, TX, _, by omega, rfl, rfl, rfl, (show Hid _ from ⟨by have := HZ.out.1; omega, hsum⟩), HB.out.trans (hbz.out.mono HB.out.size)⟩
              case measure => simp [intOf]
          · have hk2 : ((k : Int) == 1) = false := by simp; omega
            go_wp2_with (first
              | (go_at_call 35; ((with_reducible refine (C35.out).mono ?_); rintro e wn ⟨rfl, hbn⟩; replace HB := Lib.hid (HB.out.trans (hbn.mono HB.out.size)); clear hbn))
              | (go_at_call 12; ((with_reducible refine (CHA.out _).mono ?_); rintro e wn ⟨rfl, rfl⟩))
              | (go_at_call 12; ((with_reducible refine (CHB.out _).mono ?_); rintro e wn ⟨rfl, rfl⟩))
              | (go_at_call 16; ((with_reducible refine (HTX.out _).mono ?_); rintro e wn ⟨rfl, hbn⟩; replace HB := Lib.hid (HB.out.trans (hbn.mono HB.out.size)); clear hbn))
              | (go_at_call 16; ((with_reducible refine (HTY.out _).mono ?_); rintro e wn ⟨rfl, hbn⟩; replace HB := Lib.hid (HB.out.trans (hbn.mono HB.out.size)); clear hbn)))
            go_roundw
            case rel => exact ⟨k + 1, TX, TY, by omega, by go_num, rfl, rfl, (show Hid _ from ⟨by have := HZ.out.1; omega, by have := HZ.out.2.1; omega⟩), HB⟩
            case measure => simp [intOf]; omega
      · have he : errTwo A B = wordErr A := by unfold errTwo; rw [if_neg hea]
        have h35 := Turned_bad A B wr (by omega) (by omega) (by rw [he]; exact hea)
        rw [he] at h35
        have t1 : (wordErr A != 0) = true := by simpa using hea
        have t2 : (wordErr A == 0) = false := by simpa using hea
        generalize wordErr A = E at *
        have C35 := Lib.hid h35
        have CHA := Lib.hid cha
        clear h35 cha chb he hea hA hB HAB
        as_aux_lemma =>
        by_cases hk1 : k = 1
        · subst hk1
          obtain ⟨hz1, hz2, hz3⟩ := HZ.out
          by_cases hemp : TX.size = 0
          · have g0 : ¬ ((TX.size : Int) > 0) := by omega
            have g1 : (0 : Int) ≤ TX.size := by omega
            have hsum : (TY ++ TX ++ IY).size ≤ 500 := by simp only [ByteArray.size_append]; omega
            have n1 : ¬ 9223372036854775807 < TY.size + TX.size := by omega
            have n3 : ¬ 9223372036854775807 < TY.size + TX.size + IY.size := by omega
            have HSUM := Lib.hid hsum
            clear hsum hemp
            go_wp2_with (first
              | (go_at_call 35; ((with_reducible refine (C35.out).mono ?_); rintro e wn ⟨rfl, hbn⟩; replace HB := Lib.hid (HB.out.trans (hbn.mono HB.out.size)); clear hbn))
              | (go_at_call 12; ((with_reducible refine (CHA.out _).mono ?_); rintro e wn ⟨rfl, rfl⟩))
              | (go_at_call 16; ((with_reducible refine (HTX.out _).mono ?_); rintro e wn ⟨rfl, hbn⟩; replace HB := Lib.hid (HB.out.trans (hbn.mono HB.out.size)); clear hbn))
              | (go_at_call 16; ((with_reducible refine (HTY.out _).mono ?_); rintro e wn ⟨rfl, hbn⟩; replace HB := Lib.hid (HB.out.trans (hbn.mono HB.out.size)); clear hbn)))
            have hsum := HSUM.out
            obtain ⟨w2, rfl⟩ : ∃ w2, w2 = wn := ⟨_, rfl⟩
            have hrefl : Below w2.heap.size w2 w2 := Below.refl _ _
            go_region_held3 (fun w' => Below w2.heap.size w2 w') (first | assumption | (refine Below.drew ?_; assumption) | exact keepB (by assumption) hb') (first | (go_at_call 27; ((with_reducible refine (HIY.out _).mono ?_); rintro e w' ⟨rfl, hb'⟩)))
            have hbz := Lib.hid (p := Below w2.heap.size w2 w') (by assumption)
            go_wp2_with fail
            go_roundw
            case rel => exact ⟨2, TX, _, by omega, rfl, rfl, rfl, (show Hid _ from ⟨by have := HZ.out.1; omega, hsum⟩), HB.out.trans (hbz.out.mono HB.out.size)⟩
            case measure => simp [intOf]
          · have g0 : (TX.size : Int) > 0 := by omega
            have g1 : (TX.size : Int) ≠ 0 := by omega
            have g2 : IntKind.u64.wrap (TX.size : Int) = (TX.size : Int) := by simp only [IntKind.wrap, IntKind.bits, IntKind.signed, Bool.false_and, Bool.false_eq_true, if_false]; omega
            obtain ⟨i, hi⟩ : ∃ i, my % TX.size = i := ⟨_, rfl⟩
            have hi1 : i < TX.size := by rw [← hi]; exact Nat.mod_lt _ (by omega)
            have g3 : Int.tmod (my : Int) (TX.size : Int) = (i : Int) := by rw [← hi]; rfl
            have g4 : (my : Int) % (TX.size : Int) = (i : Int) := by rw [← hi]; push_cast; rfl
            have g5 : IntKind.i64.wrap (i : Int) = (i : Int) := by rw [IntKind.wrap_i64]; omega
            have g6 : (0 : Int) ≤ i := by omega
            have g7 : (i : Int) ≤ TX.size := by omega
            have g8 : (i : Int).toNat = i := by omega
            have hsum : (TY ++ TX.extract i TX.size ++ TX.extract 0 i ++ IY).size ≤ 500 := by simp only [ByteArray.size_append, ByteArray.size_extract]; omega
            have n1 : ¬ 9223372036854775807 < TY.size + (TX.size - i) := by omega
            have n2 : ¬ 9223372036854775807 < TY.size + (TX.size - i) + min i TX.size := by omega
            have n3 : ¬ 9223372036854775807 < TY.size + (TX.size - i) + min i TX.size + IY.size := by omega
            have HSUM := Lib.hid hsum
            clear hsum hi hi1 hemp
            go_wp2_with (first
              | (go_at_call 35; ((with_reducible refine (C35.out).mono ?_); rintro e wn ⟨rfl, hbn⟩; replace HB := Lib.hid (HB.out.trans (hbn.mono HB.out.size)); clear hbn))
              | (go_at_call 12; ((with_reducible refine (CHA.out _).mono ?_); rintro e wn ⟨rfl, rfl⟩))
              | (go_at_call 16; ((with_reducible refine (HTX.out _).mono ?_); rintro e wn ⟨rfl, hbn⟩; replace HB := Lib.hid (HB.out.trans (hbn.mono HB.out.size)); clear hbn))
              | (go_at_call 16; ((with_reducible refine (HTY.out _).mono ?_); rintro e wn ⟨rfl, hbn⟩; replace HB := Lib.hid (HB.out.trans (hbn.mono HB.out.size)); clear hbn)))
            have hsum := HSUM.out
            obtain ⟨w2, rfl⟩ : ∃ w2, w2 = wn := ⟨_, rfl⟩
            have hrefl : Below w2.heap.size w2 w2 := Below.refl _ _
            go_region_held3 (fun w' => Below w2.heap.size w2 w') (first | assumption | (refine Below.drew ?_; assumption) | exact keepB (by assumption) hb') (first | (go_at_call 27; ((with_reducible refine (HIY.out _).mono ?_); rintro e w' ⟨rfl, hb'⟩)))
            have hbz := Lib.hid (p := Below w2.heap.size w2 w') (by assumption)
            go_wp2_with fail
            go_roundw
            case rel => exact ⟨2, TX, _, by omega, rfl, rfl, rfl, (show Hid _ from ⟨by have := HZ.out.1; omega, hsum⟩), HB.out.trans (hbz.out.mono HB.out.size)⟩
            case measure => simp [intOf]
        · have hk2 : ((k : Int) == 1) = false := by simp; omega
          go_wp2_with (first
            | (go_at_call 35; ((with_reducible refine (C35.out).mono ?_); rintro e wn ⟨rfl, hbn⟩; replace HB := Lib.hid (HB.out.trans (hbn.mono HB.out.size)); clear hbn))
            | (go_at_call 12; ((with_reducible refine (CHA.out _).mono ?_); rintro e wn ⟨rfl, rfl⟩))
            | (go_at_call 16; ((with_reducible refine (HTX.out _).mono ?_); rintro e wn ⟨rfl, hbn⟩; replace HB := Lib.hid (HB.out.trans (hbn.mono HB.out.size)); clear hbn))
            | (go_at_call 16; ((with_reducible refine (HTY.out _).mono ?_); rintro e wn ⟨rfl, hbn⟩; replace HB := Lib.hid (HB.out.trans (hbn.mono HB.out.size)); clear hbn)))
          go_roundw
          case rel => exact ⟨k + 1, TX, TY, by omega, by go_num, rfl, rfl, (show Hid _ from ⟨by have := HZ.out.1; omega, by have := HZ.out.2.1; omega⟩), HB⟩
          case measure => simp [intOf]; omega
    · obtain rfl : k = 3 := by omega
      go_wp2_with (go_at_call 17; refine (HAW.out _).mono ?_; rintro e w9 ⟨rfl, hb9⟩)
      go_ret
      exact ⟨rfl, HB.out.trans (hb9.mono HB.out.size)⟩
end Go.Proofs.Ytjdmmgaddbleeaa
