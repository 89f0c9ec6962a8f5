/- HangRoots: the walk. -/
import Derived.Test.YtjdmmgaddbleeaaMK
import Derived.Test.YtjdmmgaddbleeaaMG
import Derived.Test.YtjdmmgaddbleeaaMH
namespace Go.Proofs.Ytjdmmgaddbleeaa
open Go.RowKit

set_option maxRecDepth 100000 in
set_option maxHeartbeats 8000000 in
theorem HangRoots_any (s t : ByteArray) (x y : Int) (w : World) (hs : s.size ≤ 9223372036854775807) (ht : t.size ≤ 9223372036854775807) :
    Calls Try.prog 7 #[.string s, .string t, .agg #[.int .i64 x, .int .i64 y]] w fun e w' => e = .returned (.bool true) ∧ Below w.heap.size w w' := by
  obtain ⟨mx, hmx⟩ : ∃ m : Nat, IntKind.u64.wrap x = (m : Int) := ⟨(x % 2 ^ 64).toNat, by simp only [IntKind.wrap, IntKind.bits, IntKind.signed, Bool.false_and, Bool.false_eq_true, if_false]; omega⟩
  obtain ⟨my, hmy⟩ : ∃ m : Nat, IntKind.u64.wrap y = (m : Int) := ⟨(y % 2 ^ 64).toNat, by simp only [IntKind.wrap, IntKind.bits, IntKind.signed, Bool.false_and, Bool.false_eq_true, if_false]; omega⟩
  have hbx := Blk.new w 48 [.int .i64 x, .int .i64 y]
  have hb0 : Below w.heap.size w (w.alloc (.cells #[.int .i64 x, .int .i64 y] 48)) := (Below.refl _ _).alloc (Nat.le_refl _) _
  have HBX := Lib.hid hbx
  have HB0 := Lib.hid hb0
  clear hbx hb0
  have a1 : min (s.size : Int) 200 ≤ (s.size : Int) := by omega
  have a2 : 0 ≤ min (s.size : Int) 200 := by omega
  have b1 : min (t.size : Int) 200 ≤ (t.size : Int) := by omega
  have b2 : 0 ≤ min (t.size : Int) 200 := by omega
  have hsz1 : (s.extract 0 (min (s.size : Int) 200).toNat).size ≤ 500 := by rw [ByteArray.size_extract]; omega
  have hsz2 : (t.extract 0 (min (t.size : Int) 200).toNat).size ≤ 500 := by rw [ByteArray.size_extract]; omega
  obtain ⟨rx, hrx⟩ : ∃ r : Nat, (mx : Int) % 7 = (r : Int) := ⟨mx % 7, by omega⟩
  obtain ⟨ry, hry⟩ : ∃ r : Nat, (my : Int) % 7 = (r : Int) := ⟨my % 7, by omega⟩
  have hrx6 : rx ≤ 6 := by omega
  have hry6 : ry ≤ 6 := by omega
  have hrU : ∀ W, Calls Try.prog 16 #[.string s, .int .i64 2, .int .i64 12] W fun e w' => e = .returned (.string (strB (textL 2 12 (bts s)))) ∧ Below W.heap.size W w' := fun W => text_any s 2 12 W hs (by omega) (by omega) (by omega)
  have hrV : ∀ W, Calls Try.prog 16 #[.string t, .int .i64 2, .int .i64 12] W fun e w' => e = .returned (.string (strB (textL 2 12 (bts t)))) ∧ Below W.heap.size W w' := fun W => text_any t 2 12 W ht (by omega) (by omega) (by omega)
  have hUw := text_word (n := 2) (m := 12) (by omega) (by omega) (bts s)
  have hVw := text_word (n := 2) (m := 12) (by omega) (by omega) (bts t)
  have hUl := text_len 2 12 (bts s)
  have hVl := text_len 2 12 (bts t)
  generalize textL 2 12 (bts s) = U at *
  generalize textL 2 12 (bts t) = V at *
  have hp1 := fun W => rPower_any (strB U) ((rx : Int) - 3) W hUw (by omega) (by rw [size_str]; omega)
  have hp2 := fun W => rPower_any (strB U) ((ry : Int) - 3) W hUw (by omega) (by rw [size_str]; omega)
  simp only [bts_str] at hp1 hp2
  have hl1 := powZ_len U ((rx : Int) - 3)
  have hl2 := powZ_len U ((ry : Int) - 3)
  have hm1 : ((rx : Int) - 3).natAbs * U.length ≤ 3 * 12 := Nat.mul_le_mul (by omega) hUl
  have hm2 : ((ry : Int) - 3).natAbs * U.length ≤ 3 * 12 := Nat.mul_le_mul (by omega) hUl
  have hw2 := powZ_word hUw ((ry : Int) - 3)
  generalize powZ U ((rx : Int) - 3) = Q1 at *
  generalize powZ U ((ry : Int) - 3) = Q2 at *
  have hiy := fun W => rInverse_any (strB V) W hVw (by rw [size_str]; omega)
  simp only [bts_str] at hiy
  have hil : (invL V).length = V.length := invL_len V
  have hrb := fun W => rReduce_any (strB V ++ strB Q2 ++ strB (invL V)) W (by rw [bts_add, bts_add]; exact isWord_app (isWord_app hVw hw2) (invL_word hVw)) (by rw [ByteArray.size_append, ByteArray.size_append, size_str, size_str, size_str]; omega)
  have hrl := redW_len (bts (strB V ++ strB Q2 ++ strB (invL V)))
  rw [bts_len, ByteArray.size_append, ByteArray.size_append, size_str, size_str, size_str] at hrl
  generalize redW (bts (strB V ++ strB Q2 ++ strB (invL V))) = Rb at *
  have zU : (strB U).size ≤ 500 := by rw [size_str]; omega
  have zV : (strB V).size ≤ 500 := by rw [size_str]; omega
  have z1 : (strB Q1).size ≤ 500 := by rw [size_str]; omega
  have z2 : (strB Q2).size ≤ 500 := by rw [size_str]; omega
  have z3 : (strB (invL V)).size ≤ 500 := by rw [size_str]; omega
  have z4 : (strB Rb).size ≤ 500 := by rw [size_str]; omega
  generalize strB Rb = RB at *
  generalize strB U = TX at *
  generalize strB (invL V) = IY at *
  generalize strB V = TY at *
  generalize strB Q1 = P1 at *
  generalize strB Q2 = P2 at *
  have n1 : ¬ 9223372036854775807 < TY.size + P2.size := by omega
  have n2 : ¬ 9223372036854775807 < TY.size + P2.size + IY.size := by omega
  have HTX := Lib.hid hrU
  have HTY := Lib.hid hrV
  have HP1 := Lib.hid hp1
  have HP2 := Lib.hid hp2
  have HIY := Lib.hid hiy
  have HRB := Lib.hid hrb
  have HZ := Lib.hid (show (TX.size ≤ 500 ∧ TY.size ≤ 500) ∧ P1.size ≤ 500 ∧ P2.size ≤ 500 ∧ RB.size ≤ 500 from ⟨⟨zU, zV⟩, z1, z2, z4⟩)
  have HAW := Lib.hid awake_any
  clear hrU hrV hUw hVw hUl hVl hp1 hp2 hl1 hl2 hm1 hm2 hw2 hiy hil hrb hrl zU zV z1 z2 z3 z4
  go_enter Try.func7, Try.ntmps7
  go_wp2_with fail
  go_quiet (fail)
  go_wp2_with fail
  have HB1 := Lib.hid (HB0.out.drewN' nq)
  have HBX1 := Lib.hid (HBX.out.keep ((Below.refl _ _).drewN' nq))
  clear HB0 HBX a1 a2 b1 b2
  go_loopw [7, 8, 9] (fun av bv iv wr => ∃ (k : Nat) (A B : ByteArray), k ≤ 3 ∧ iv = .int .i64 k ∧ av = .string A ∧ bv = .string B ∧ Hid (A.size ≤ 500 ∧ B.size ≤ 500) ∧ Hid (Blk wr w.heap.size 48 [.int .i64 x, .int .i64 y]) ∧ Hid (Below w.heap.size w wr)) (fun _ _ iv _ => 3 - (intOf iv).toNat)
  case atStart => exact ⟨0, _, _, by omega, rfl, rfl, rfl, (show Hid _ from ⟨hsz1, hsz2⟩), HBX1, HB1⟩
  case round =>
    clear HB1 HBX1 hsz1 hsz2
    obtain ⟨k, A, B, hk, rfl, rfl, rfl, HAB, HBX, HB⟩ := hrel
    by_cases hlt : k < 3
    · obtain ⟨hA, hB⟩ := HAB.out
      have cha := fun W => rCheck_any A W (by omega)
      have chb := fun W => rCheck_any B W (by omega)
      by_cases hea : wordErr A = 0
      · have hwA := (word_size hea).1
        rw [hea] at cha
        have hred := fun W => rReduce_any A W hwA (by omega)
        by_cases hu : redW (bts A) = []
        · have c24 := fun W => Root_none A W hea hu
          rw [hu, show strB [] = (⟨#[]⟩ : ByteArray) from rfl] at hred
          by_cases heb : wordErr B = 0
          · as_aux_lemma =>
            rw [heb] at chb
            have hwB := (word_size heb).1
            have c29 := fun W => Commute_any A B W hea heb hA hB
            have c30 := fun W => rCommute_any A B W hwA hwB hA hB
            unfold tup5 at c29
            unfold tup4 at c30
            generalize commR (redW (bts A)) (redW (bts B)) = cr at *
            obtain ⟨c1, c2, c3, c4⟩ := cr
            simp only at c29 c30
            generalize strB c1 = CS at *
            have C24 := Lib.hid c24
            have CHA := Lib.hid cha
            have CHB := Lib.hid chb
            have C26 := Lib.hid hred
            have C29 := Lib.hid c29
            have C30 := Lib.hid c30
            clear c24 cha chb hred c29 c30 hea heb hwA hwB hu
            by_cases hk1 : k = 1
            · subst hk1
              by_cases hpar : (t.size : Int) % 2 = 0
              · go_wp2_with (first
                  | (go_at_call 24; ((with_reducible refine (C24.out _).mono ?_); rintro e wn ⟨rfl, hbn⟩; replace HB := Lib.hid (HB.out.trans (hbn.mono HB.out.size)); replace HBX := Lib.hid (HBX.out.keep hbn); clear hbn))
                  | (go_at_call 12; ((with_reducible refine (CHA.out _).mono ?_); rintro e wn ⟨rfl, rfl⟩))
                  | (go_at_call 12; ((with_reducible refine (CHB.out _).mono ?_); rintro e wn ⟨rfl, rfl⟩))
                  | (go_at_call 26; ((with_reducible refine (C26.out _).mono ?_); rintro e wn ⟨rfl, hbn⟩; replace HB := Lib.hid (HB.out.trans (hbn.mono HB.out.size)); replace HBX := Lib.hid (HBX.out.keep hbn); clear hbn))
                  | (go_at_call 29; ((with_reducible refine (C29.out _).mono ?_); rintro e wn ⟨rfl, hbn⟩; replace HB := Lib.hid (HB.out.trans (hbn.mono HB.out.size)); replace HBX := Lib.hid (HBX.out.keep hbn); clear hbn))
                  | (go_at_call 30; ((with_reducible refine (C30.out _).mono ?_); rintro e wn ⟨rfl, hbn⟩; replace HB := Lib.hid (HB.out.trans (hbn.mono HB.out.size)); replace HBX := Lib.hid (HBX.out.keep hbn); clear hbn))
                  | (go_at_call 16; ((with_reducible refine (HTX.out _).mono ?_); rintro e wn ⟨rfl, hbn⟩; replace HB := Lib.hid (HB.out.trans (hbn.mono HB.out.size)); replace HBX := Lib.hid (HBX.out.keep hbn); clear hbn))
                  | (go_at_call 16; ((with_reducible refine (HTY.out _).mono ?_); rintro e wn ⟨rfl, hbn⟩; replace HB := Lib.hid (HB.out.trans (hbn.mono HB.out.size)); replace HBX := Lib.hid (HBX.out.keep hbn); clear hbn; have hcx := HBX.out.cell (j := 0) rfl; have hcy := HBX.out.cell (j := 1) rfl))
                  | (go_at_call 31; ((with_reducible refine (HP1.out _).mono ?_); rintro e wn ⟨rfl, hbn⟩; replace HB := Lib.hid (HB.out.trans (hbn.mono HB.out.size)); replace HBX := Lib.hid (HBX.out.keep hbn); clear hbn; have hcx := HBX.out.cell (j := 0) rfl; have hcy := HBX.out.cell (j := 1) rfl))
                  | (go_at_call 31; ((with_reducible refine (HP2.out _).mono ?_); rintro e wn ⟨rfl, hbn⟩; replace HB := Lib.hid (HB.out.trans (hbn.mono HB.out.size)); replace HBX := Lib.hid (HBX.out.keep hbn); clear hbn; have hcx := HBX.out.cell (j := 0) rfl; have hcy := HBX.out.cell (j := 1) rfl))
                  | (go_at_call 27; ((with_reducible refine (HIY.out _).mono ?_); rintro e wn ⟨rfl, hbn⟩; replace HB := Lib.hid (HB.out.trans (hbn.mono HB.out.size)); replace HBX := Lib.hid (HBX.out.keep hbn); clear hbn; have hcx := HBX.out.cell (j := 0) rfl; have hcy := HBX.out.cell (j := 1) rfl))
                  | (go_at_call 26; ((with_reducible refine (HRB.out _).mono ?_); rintro e wn ⟨rfl, hbn⟩; replace HB := Lib.hid (HB.out.trans (hbn.mono HB.out.size)); replace HBX := Lib.hid (HBX.out.keep hbn); clear hbn; have hcx := HBX.out.cell (j := 0) rfl; have hcy := HBX.out.cell (j := 1) rfl)))
                go_roundw
                case rel => exact ⟨2, P1, P2, by omega, rfl, rfl, rfl, (show Hid _ from ⟨HZ.out.2.1, HZ.out.2.2.1⟩), HBX, HB⟩
                case measure => simp [intOf]
              · go_wp2_with (first
                  | (go_at_call 24; ((with_reducible refine (C24.out _).mono ?_); rintro e wn ⟨rfl, hbn⟩; replace HB := Lib.hid (HB.out.trans (hbn.mono HB.out.size)); replace HBX := Lib.hid (HBX.out.keep hbn); clear hbn))
                  | (go_at_call 12; ((with_reducible refine (CHA.out _).mono ?_); rintro e wn ⟨rfl, rfl⟩))
                  | (go_at_call 12; ((with_reducible refine (CHB.out _).mono ?_); rintro e wn ⟨rfl, rfl⟩))
                  | (go_at_call 26; ((with_reducible refine (C26.out _).mono ?_); rintro e wn ⟨rfl, hbn⟩; replace HB := Lib.hid (HB.out.trans (hbn.mono HB.out.size)); replace HBX := Lib.hid (HBX.out.keep hbn); clear hbn))
                  | (go_at_call 29; ((with_reducible refine (C29.out _).mono ?_); rintro e wn ⟨rfl, hbn⟩; replace HB := Lib.hid (HB.out.trans (hbn.mono HB.out.size)); replace HBX := Lib.hid (HBX.out.keep hbn); clear hbn))
                  | (go_at_call 30; ((with_reducible refine (C30.out _).mono ?_); rintro e wn ⟨rfl, hbn⟩; replace HB := Lib.hid (HB.out.trans (hbn.mono HB.out.size)); replace HBX := Lib.hid (HBX.out.keep hbn); clear hbn))
                  | (go_at_call 16; ((with_reducible refine (HTX.out _).mono ?_); rintro e wn ⟨rfl, hbn⟩; replace HB := Lib.hid (HB.out.trans (hbn.mono HB.out.size)); replace HBX := Lib.hid (HBX.out.keep hbn); clear hbn))
                  | (go_at_call 16; ((with_reducible refine (HTY.out _).mono ?_); rintro e wn ⟨rfl, hbn⟩; replace HB := Lib.hid (HB.out.trans (hbn.mono HB.out.size)); replace HBX := Lib.hid (HBX.out.keep hbn); clear hbn; have hcx := HBX.out.cell (j := 0) rfl; have hcy := HBX.out.cell (j := 1) rfl))
                  | (go_at_call 31; ((with_reducible refine (HP1.out _).mono ?_); rintro e wn ⟨rfl, hbn⟩; replace HB := Lib.hid (HB.out.trans (hbn.mono HB.out.size)); replace HBX := Lib.hid (HBX.out.keep hbn); clear hbn; have hcx := HBX.out.cell (j := 0) rfl; have hcy := HBX.out.cell (j := 1) rfl))
                  | (go_at_call 31; ((with_reducible refine (HP2.out _).mono ?_); rintro e wn ⟨rfl, hbn⟩; replace HB := Lib.hid (HB.out.trans (hbn.mono HB.out.size)); replace HBX := Lib.hid (HBX.out.keep hbn); clear hbn; have hcx := HBX.out.cell (j := 0) rfl; have hcy := HBX.out.cell (j := 1) rfl))
                  | (go_at_call 27; ((with_reducible refine (HIY.out _).mono ?_); rintro e wn ⟨rfl, hbn⟩; replace HB := Lib.hid (HB.out.trans (hbn.mono HB.out.size)); replace HBX := Lib.hid (HBX.out.keep hbn); clear hbn; have hcx := HBX.out.cell (j := 0) rfl; have hcy := HBX.out.cell (j := 1) rfl))
                  | (go_at_call 26; ((with_reducible refine (HRB.out _).mono ?_); rintro e wn ⟨rfl, hbn⟩; replace HB := Lib.hid (HB.out.trans (hbn.mono HB.out.size)); replace HBX := Lib.hid (HBX.out.keep hbn); clear hbn; have hcx := HBX.out.cell (j := 0) rfl; have hcy := HBX.out.cell (j := 1) rfl)))
                go_roundw
                case rel => exact ⟨2, P1, RB, by omega, rfl, rfl, rfl, (show Hid _ from ⟨HZ.out.2.1, HZ.out.2.2.2⟩), HBX, HB⟩
                case measure => simp [intOf]
            · have hk2 : ((k : Int) == 1) = false := by simp; omega
              go_wp2_with (first
                | (go_at_call 24; ((with_reducible refine (C24.out _).mono ?_); rintro e wn ⟨rfl, hbn⟩; replace HB := Lib.hid (HB.out.trans (hbn.mono HB.out.size)); replace HBX := Lib.hid (HBX.out.keep hbn); clear hbn))
                | (go_at_call 12; ((with_reducible refine (CHA.out _).mono ?_); rintro e wn ⟨rfl, rfl⟩))
                | (go_at_call 12; ((with_reducible refine (CHB.out _).mono ?_); rintro e wn ⟨rfl, rfl⟩))
                | (go_at_call 26; ((with_reducible refine (C26.out _).mono ?_); rintro e wn ⟨rfl, hbn⟩; replace HB := Lib.hid (HB.out.trans (hbn.mono HB.out.size)); replace HBX := Lib.hid (HBX.out.keep hbn); clear hbn))
                | (go_at_call 29; ((with_reducible refine (C29.out _).mono ?_); rintro e wn ⟨rfl, hbn⟩; replace HB := Lib.hid (HB.out.trans (hbn.mono HB.out.size)); replace HBX := Lib.hid (HBX.out.keep hbn); clear hbn))
                | (go_at_call 30; ((with_reducible refine (C30.out _).mono ?_); rintro e wn ⟨rfl, hbn⟩; replace HB := Lib.hid (HB.out.trans (hbn.mono HB.out.size)); replace HBX := Lib.hid (HBX.out.keep hbn); clear hbn))
                | (go_at_call 16; ((with_reducible refine (HTX.out _).mono ?_); rintro e wn ⟨rfl, hbn⟩; replace HB := Lib.hid (HB.out.trans (hbn.mono HB.out.size)); replace HBX := Lib.hid (HBX.out.keep hbn); clear hbn))
                | (go_at_call 16; ((with_reducible refine (HTY.out _).mono ?_); rintro e wn ⟨rfl, hbn⟩; replace HB := Lib.hid (HB.out.trans (hbn.mono HB.out.size)); replace HBX := Lib.hid (HBX.out.keep hbn); clear hbn; have hcx := HBX.out.cell (j := 0) rfl; have hcy := HBX.out.cell (j := 1) rfl)))
              go_roundw
              case rel => exact ⟨k + 1, TX, TY, by omega, by go_num, rfl, rfl, (show Hid _ from HZ.out.1), HBX, HB⟩
              case measure => simp [intOf]; omega
          · as_aux_lemma =>
            have he : errTwo A B = wordErr B := by unfold errTwo; rw [if_pos hea]
            have c29 := fun W => Commute_bad A B W (by omega) (by omega) (by rw [he]; exact heb)
            rw [he] at c29
            have t1 : (wordErr B != 0) = true := by simpa using heb
            have t2 : (wordErr B == 0) = false := by simpa using heb
            generalize wordErr B = E at *
            have C24 := Lib.hid c24
            have CHA := Lib.hid cha
            have CHB := Lib.hid chb
            have C26 := Lib.hid hred
            have C29 := Lib.hid c29
            clear c24 cha chb hred c29 he hea hwA hu
            by_cases hk1 : k = 1
            · subst hk1
              by_cases hpar : (t.size : Int) % 2 = 0
              · go_wp2_with (first
                  | (go_at_call 24; ((with_reducible refine (C24.out _).mono ?_); rintro e wn ⟨rfl, hbn⟩; replace HB := Lib.hid (HB.out.trans (hbn.mono HB.out.size)); replace HBX := Lib.hid (HBX.out.keep hbn); clear hbn))
                  | (go_at_call 12; ((with_reducible refine (CHA.out _).mono ?_); rintro e wn ⟨rfl, rfl⟩))
                  | (go_at_call 12; ((with_reducible refine (CHB.out _).mono ?_); rintro e wn ⟨rfl, rfl⟩))
                  | (go_at_call 26; ((with_reducible refine (C26.out _).mono ?_); rintro e wn ⟨rfl, hbn⟩; replace HB := Lib.hid (HB.out.trans (hbn.mono HB.out.size)); replace HBX := Lib.hid (HBX.out.keep hbn); clear hbn))
                  | (go_at_call 29; ((with_reducible refine (C29.out _).mono ?_); rintro e wn ⟨rfl, hbn⟩; replace HB := Lib.hid (HB.out.trans (hbn.mono HB.out.size)); replace HBX := Lib.hid (HBX.out.keep hbn); clear hbn))
                  | (go_at_call 16; ((with_reducible refine (HTX.out _).mono ?_); rintro e wn ⟨rfl, hbn⟩; replace HB := Lib.hid (HB.out.trans (hbn.mono HB.out.size)); replace HBX := Lib.hid (HBX.out.keep hbn); clear hbn))
                  | (go_at_call 16; ((with_reducible refine (HTY.out _).mono ?_); rintro e wn ⟨rfl, hbn⟩; replace HB := Lib.hid (HB.out.trans (hbn.mono HB.out.size)); replace HBX := Lib.hid (HBX.out.keep hbn); clear hbn; have hcx := HBX.out.cell (j := 0) rfl; have hcy := HBX.out.cell (j := 1) rfl))
                  | (go_at_call 31; ((with_reducible refine (HP1.out _).mono ?_); rintro e wn ⟨rfl, hbn⟩; replace HB := Lib.hid (HB.out.trans (hbn.mono HB.out.size)); replace HBX := Lib.hid (HBX.out.keep hbn); clear hbn; have hcx := HBX.out.cell (j := 0) rfl; have hcy := HBX.out.cell (j := 1) rfl))
                  | (go_at_call 31; ((with_reducible refine (HP2.out _).mono ?_); rintro e wn ⟨rfl, hbn⟩; replace HB := Lib.hid (HB.out.trans (hbn.mono HB.out.size)); replace HBX := Lib.hid (HBX.out.keep hbn); clear hbn; have hcx := HBX.out.cell (j := 0) rfl; have hcy := HBX.out.cell (j := 1) rfl))
                  | (go_at_call 27; ((with_reducible refine (HIY.out _).mono ?_); rintro e wn ⟨rfl, hbn⟩; replace HB := Lib.hid (HB.out.trans (hbn.mono HB.out.size)); replace HBX := Lib.hid (HBX.out.keep hbn); clear hbn; have hcx := HBX.out.cell (j := 0) rfl; have hcy := HBX.out.cell (j := 1) rfl))
                  | (go_at_call 26; ((with_reducible refine (HRB.out _).mono ?_); rintro e wn ⟨rfl, hbn⟩; replace HB := Lib.hid (HB.out.trans (hbn.mono HB.out.size)); replace HBX := Lib.hid (HBX.out.keep hbn); clear hbn; have hcx := HBX.out.cell (j := 0) rfl; have hcy := HBX.out.cell (j := 1) rfl)))
                go_roundw
                case rel => exact ⟨2, P1, P2, by omega, rfl, rfl, rfl, (show Hid _ from ⟨HZ.out.2.1, HZ.out.2.2.1⟩), HBX, HB⟩
                case measure => simp [intOf]
              · go_wp2_with (first
                  | (go_at_call 24; ((with_reducible refine (C24.out _).mono ?_); rintro e wn ⟨rfl, hbn⟩; replace HB := Lib.hid (HB.out.trans (hbn.mono HB.out.size)); replace HBX := Lib.hid (HBX.out.keep hbn); clear hbn))
                  | (go_at_call 12; ((with_reducible refine (CHA.out _).mono ?_); rintro e wn ⟨rfl, rfl⟩))
                  | (go_at_call 12; ((with_reducible refine (CHB.out _).mono ?_); rintro e wn ⟨rfl, rfl⟩))
                  | (go_at_call 26; ((with_reducible refine (C26.out _).mono ?_); rintro e wn ⟨rfl, hbn⟩; replace HB := Lib.hid (HB.out.trans (hbn.mono HB.out.size)); replace HBX := Lib.hid (HBX.out.keep hbn); clear hbn))
                  | (go_at_call 29; ((with_reducible refine (C29.out _).mono ?_); rintro e wn ⟨rfl, hbn⟩; replace HB := Lib.hid (HB.out.trans (hbn.mono HB.out.size)); replace HBX := Lib.hid (HBX.out.keep hbn); clear hbn))
                  | (go_at_call 16; ((with_reducible refine (HTX.out _).mono ?_); rintro e wn ⟨rfl, hbn⟩; replace HB := Lib.hid (HB.out.trans (hbn.mono HB.out.size)); replace HBX := Lib.hid (HBX.out.keep hbn); clear hbn))
                  | (go_at_call 16; ((with_reducible refine (HTY.out _).mono ?_); rintro e wn ⟨rfl, hbn⟩; replace HB := Lib.hid (HB.out.trans (hbn.mono HB.out.size)); replace HBX := Lib.hid (HBX.out.keep hbn); clear hbn; have hcx := HBX.out.cell (j := 0) rfl; have hcy := HBX.out.cell (j := 1) rfl))
                  | (go_at_call 31; ((with_reducible refine (HP1.out _).mono ?_); rintro e wn ⟨rfl, hbn⟩; replace HB := Lib.hid (HB.out.trans (hbn.mono HB.out.size)); replace HBX := Lib.hid (HBX.out.keep hbn); clear hbn; have hcx := HBX.out.cell (j := 0) rfl; have hcy := HBX.out.cell (j := 1) rfl))
                  | (go_at_call 31; ((with_reducible refine (HP2.out _).mono ?_); rintro e wn ⟨rfl, hbn⟩; replace HB := Lib.hid (HB.out.trans (hbn.mono HB.out.size)); replace HBX := Lib.hid (HBX.out.keep hbn); clear hbn; have hcx := HBX.out.cell (j := 0) rfl; have hcy := HBX.out.cell (j := 1) rfl))
                  | (go_at_call 27; ((with_reducible refine (HIY.out _).mono ?_); rintro e wn ⟨rfl, hbn⟩; replace HB := Lib.hid (HB.out.trans (hbn.mono HB.out.size)); replace HBX := Lib.hid (HBX.out.keep hbn); clear hbn; have hcx := HBX.out.cell (j := 0) rfl; have hcy := HBX.out.cell (j := 1) rfl))
                  | (go_at_call 26; ((with_reducible refine (HRB.out _).mono ?_); rintro e wn ⟨rfl, hbn⟩; replace HB := Lib.hid (HB.out.trans (hbn.mono HB.out.size)); replace HBX := Lib.hid (HBX.out.keep hbn); clear hbn; have hcx := HBX.out.cell (j := 0) rfl; have hcy := HBX.out.cell (j := 1) rfl)))
                go_roundw
                case rel => exact ⟨2, P1, RB, by omega, rfl, rfl, rfl, (show Hid _ from ⟨HZ.out.2.1, HZ.out.2.2.2⟩), HBX, HB⟩
                case measure => simp [intOf]
            · have hk2 : ((k : Int) == 1) = false := by simp; omega
              go_wp2_with (first
                | (go_at_call 24; ((with_reducible refine (C24.out _).mono ?_); rintro e wn ⟨rfl, hbn⟩; replace HB := Lib.hid (HB.out.trans (hbn.mono HB.out.size)); replace HBX := Lib.hid (HBX.out.keep hbn); clear hbn))
                | (go_at_call 12; ((with_reducible refine (CHA.out _).mono ?_); rintro e wn ⟨rfl, rfl⟩))
                | (go_at_call 12; ((with_reducible refine (CHB.out _).mono ?_); rintro e wn ⟨rfl, rfl⟩))
                | (go_at_call 26; ((with_reducible refine (C26.out _).mono ?_); rintro e wn ⟨rfl, hbn⟩; replace HB := Lib.hid (HB.out.trans (hbn.mono HB.out.size)); replace HBX := Lib.hid (HBX.out.keep hbn); clear hbn))
                | (go_at_call 29; ((with_reducible refine (C29.out _).mono ?_); rintro e wn ⟨rfl, hbn⟩; replace HB := Lib.hid (HB.out.trans (hbn.mono HB.out.size)); replace HBX := Lib.hid (HBX.out.keep hbn); clear hbn))
                | (go_at_call 16; ((with_reducible refine (HTX.out _).mono ?_); rintro e wn ⟨rfl, hbn⟩; replace HB := Lib.hid (HB.out.trans (hbn.mono HB.out.size)); replace HBX := Lib.hid (HBX.out.keep hbn); clear hbn))
                | (go_at_call 16; ((with_reducible refine (HTY.out _).mono ?_); rintro e wn ⟨rfl, hbn⟩; replace HB := Lib.hid (HB.out.trans (hbn.mono HB.out.size)); replace HBX := Lib.hid (HBX.out.keep hbn); clear hbn; have hcx := HBX.out.cell (j := 0) rfl; have hcy := HBX.out.cell (j := 1) rfl)))
              go_roundw
              case rel => exact ⟨k + 1, TX, TY, by omega, by go_num, rfl, rfl, (show Hid _ from HZ.out.1), HBX, HB⟩
              case measure => simp [intOf]; omega
        · have c24 := fun W => Root_any A W hea hu
          have c28 := fun W => rRoot_any A W (by omega) hwA hu
          obtain ⟨hne1, hne2⟩ := str_ne hu
          generalize strB (rootW (redW (bts A))) = RW at *
          generalize (rootN (redW (bts A)) : Int) = RN at *
          generalize strB (redW (bts A)) = UA at *
          by_cases heb : wordErr B = 0
          · as_aux_lemma =>
            rw [heb] at chb
            have hwB := (word_size heb).1
            have c29 := fun W => Commute_any A B W hea heb hA hB
            have c30 := fun W => rCommute_any A B W hwA hwB hA hB
            unfold tup5 at c29
            unfold tup4 at c30
            generalize commR (redW (bts A)) (redW (bts B)) = cr at *
            obtain ⟨c1, c2, c3, c4⟩ := cr
            simp only at c29 c30
            generalize strB c1 = CS at *
            have C24 := Lib.hid c24
            have CHA := Lib.hid cha
            have CHB := Lib.hid chb
            have C26 := Lib.hid hred
            have C28 := Lib.hid c28
            have C29 := Lib.hid c29
            have C30 := Lib.hid c30
            clear c24 cha chb hred c28 c29 c30 hea heb hwA hwB hu
            by_cases hk1 : k = 1
            · subst hk1
              by_cases hpar : (t.size : Int) % 2 = 0
              · go_wp2_with (first
                  | (go_at_call 24; ((with_reducible refine (C24.out _).mono ?_); rintro e wn ⟨rfl, hbn⟩; replace HB := Lib.hid (HB.out.trans (hbn.mono HB.out.size)); replace HBX := Lib.hid (HBX.out.keep hbn); clear hbn))
                  | (go_at_call 12; ((with_reducible refine (CHA.out _).mono ?_); rintro e wn ⟨rfl, rfl⟩))
                  | (go_at_call 12; ((with_reducible refine (CHB.out _).mono ?_); rintro e wn ⟨rfl, rfl⟩))
                  | (go_at_call 26; ((with_reducible refine (C26.out _).mono ?_); rintro e wn ⟨rfl, hbn⟩; replace HB := Lib.hid (HB.out.trans (hbn.mono HB.out.size)); replace HBX := Lib.hid (HBX.out.keep hbn); clear hbn))
                  | (go_at_call 28; ((with_reducible refine (C28.out _).mono ?_); rintro e wn ⟨rfl, hbn⟩; replace HB := Lib.hid (HB.out.trans (hbn.mono HB.out.size)); replace HBX := Lib.hid (HBX.out.keep hbn); clear hbn))
                  | (go_at_call 29; ((with_reducible refine (C29.out _).mono ?_); rintro e wn ⟨rfl, hbn⟩; replace HB := Lib.hid (HB.out.trans (hbn.mono HB.out.size)); replace HBX := Lib.hid (HBX.out.keep hbn); clear hbn))
                  | (go_at_call 30; ((with_reducible refine (C30.out _).mono ?_); rintro e wn ⟨rfl, hbn⟩; replace HB := Lib.hid (HB.out.trans (hbn.mono HB.out.size)); replace HBX := Lib.hid (HBX.out.keep hbn); clear hbn))
                  | (go_at_call 16; ((with_reducible refine (HTX.out _).mono ?_); rintro e wn ⟨rfl, hbn⟩; replace HB := Lib.hid (HB.out.trans (hbn.mono HB.out.size)); replace HBX := Lib.hid (HBX.out.keep hbn); clear hbn))
                  | (go_at_call 16; ((with_reducible refine (HTY.out _).mono ?_); rintro e wn ⟨rfl, hbn⟩; replace HB := Lib.hid (HB.out.trans (hbn.mono HB.out.size)); replace HBX := Lib.hid (HBX.out.keep hbn); clear hbn; have hcx := HBX.out.cell (j := 0) rfl; have hcy := HBX.out.cell (j := 1) rfl))
                  | (go_at_call 31; ((with_reducible refine (HP1.out _).mono ?_); rintro e wn ⟨rfl, hbn⟩; replace HB := Lib.hid (HB.out.trans (hbn.mono HB.out.size)); replace HBX := Lib.hid (HBX.out.keep hbn); clear hbn; have hcx := HBX.out.cell (j := 0) rfl; have hcy := HBX.out.cell (j := 1) rfl))
                  | (go_at_call 31; ((with_reducible refine (HP2.out _).mono ?_); rintro e wn ⟨rfl, hbn⟩; replace HB := Lib.hid (HB.out.trans (hbn.mono HB.out.size)); replace HBX := Lib.hid (HBX.out.keep hbn); clear hbn; have hcx := HBX.out.cell (j := 0) rfl; have hcy := HBX.out.cell (j := 1) rfl))
                  | (go_at_call 27; ((with_reducible refine (HIY.out _).mono ?_); rintro e wn ⟨rfl, hbn⟩; replace HB := Lib.hid (HB.out.trans (hbn.mono HB.out.size)); replace HBX := Lib.hid (HBX.out.keep hbn); clear hbn; have hcx := HBX.out.cell (j := 0) rfl; have hcy := HBX.out.cell (j := 1) rfl))
                  | (go_at_call 26; ((with_reducible refine (HRB.out _).mono ?_); rintro e wn ⟨rfl, hbn⟩; replace HB := Lib.hid (HB.out.trans (hbn.mono HB.out.size)); replace HBX := Lib.hid (HBX.out.keep hbn); clear hbn; have hcx := HBX.out.cell (j := 0) rfl; have hcy := HBX.out.cell (j := 1) rfl)))
                go_roundw
                case rel => exact ⟨2, P1, P2, by omega, rfl, rfl, rfl, (show Hid _ from ⟨HZ.out.2.1, HZ.out.2.2.1⟩), HBX, HB⟩
                case measure => simp [intOf]
              · go_wp2_with (first
                  | (go_at_call 24; ((with_reducible refine (C24.out _).mono ?_); rintro e wn ⟨rfl, hbn⟩; replace HB := Lib.hid (HB.out.trans (hbn.mono HB.out.size)); replace HBX := Lib.hid (HBX.out.keep hbn); clear hbn))
                  | (go_at_call 12; ((with_reducible refine (CHA.out _).mono ?_); rintro e wn ⟨rfl, rfl⟩))
                  | (go_at_call 12; ((with_reducible refine (CHB.out _).mono ?_); rintro e wn ⟨rfl, rfl⟩))
                  | (go_at_call 26; ((with_reducible refine (C26.out _).mono ?_); rintro e wn ⟨rfl, hbn⟩; replace HB := Lib.hid (HB.out.trans (hbn.mono HB.out.size)); replace HBX := Lib.hid (HBX.out.keep hbn); clear hbn))
                  | (go_at_call 28; ((with_reducible refine (C28.out _).mono ?_); rintro e wn ⟨rfl, hbn⟩; replace HB := Lib.hid (HB.out.trans (hbn.mono HB.out.size)); replace HBX := Lib.hid (HBX.out.keep hbn); clear hbn))
                  | (go_at_call 29; ((with_reducible refine (C29.out _).mono ?_); rintro e wn ⟨rfl, hbn⟩; replace HB := Lib.hid (HB.out.trans (hbn.mono HB.out.size)); replace HBX := Lib.hid (HBX.out.keep hbn); clear hbn))
                  | (go_at_call 30; ((with_reducible refine (C30.out _).mono ?_); rintro e wn ⟨rfl, hbn⟩; replace HB := Lib.hid (HB.out.trans (hbn.mono HB.out.size)); replace HBX := Lib.hid (HBX.out.keep hbn); clear hbn))
                  | (go_at_call 16; ((with_reducible refine (HTX.out _).mono ?_); rintro e wn ⟨rfl, hbn⟩; replace HB := Lib.hid (HB.out.trans (hbn.mono HB.out.size)); replace HBX := Lib.hid (HBX.out.keep hbn); clear hbn))
                  | (go_at_call 16; ((with_reducible refine (HTY.out _).mono ?_); rintro e wn ⟨rfl, hbn⟩; replace HB := Lib.hid (HB.out.trans (hbn.mono HB.out.size)); replace HBX := Lib.hid (HBX.out.keep hbn); clear hbn; have hcx := HBX.out.cell (j := 0) rfl; have hcy := HBX.out.cell (j := 1) rfl))
                  | (go_at_call 31; ((with_reducible refine (HP1.out _).mono ?_); rintro e wn ⟨rfl, hbn⟩; replace HB := Lib.hid (HB.out.trans (hbn.mono HB.out.size)); replace HBX := Lib.hid (HBX.out.keep hbn); clear hbn; have hcx := HBX.out.cell (j := 0) rfl; have hcy := HBX.out.cell (j := 1) rfl))
                  | (go_at_call 31; ((with_reducible refine (HP2.out _).mono ?_); rintro e wn ⟨rfl, hbn⟩; replace HB := Lib.hid (HB.out.trans (hbn.mono HB.out.size)); replace HBX := Lib.hid (HBX.out.keep hbn); clear hbn; have hcx := HBX.out.cell (j := 0) rfl; have hcy := HBX.out.cell (j := 1) rfl))
                  | (go_at_call 27; ((with_reducible refine (HIY.out _).mono ?_); rintro e wn ⟨rfl, hbn⟩; replace HB := Lib.hid (HB.out.trans (hbn.mono HB.out.size)); replace HBX := Lib.hid (HBX.out.keep hbn); clear hbn; have hcx := HBX.out.cell (j := 0) rfl; have hcy := HBX.out.cell (j := 1) rfl))
                  | (go_at_call 26; ((with_reducible refine (HRB.out _).mono ?_); rintro e wn ⟨rfl, hbn⟩; replace HB := Lib.hid (HB.out.trans (hbn.mono HB.out.size)); replace HBX := Lib.hid (HBX.out.keep hbn); clear hbn; have hcx := HBX.out.cell (j := 0) rfl; have hcy := HBX.out.cell (j := 1) rfl)))
                go_roundw
                case rel => exact ⟨2, P1, RB, by omega, rfl, rfl, rfl, (show Hid _ from ⟨HZ.out.2.1, HZ.out.2.2.2⟩), HBX, HB⟩
                case measure => simp [intOf]
            · have hk2 : ((k : Int) == 1) = false := by simp; omega
              go_wp2_with (first
                | (go_at_call 24; ((with_reducible refine (C24.out _).mono ?_); rintro e wn ⟨rfl, hbn⟩; replace HB := Lib.hid (HB.out.trans (hbn.mono HB.out.size)); replace HBX := Lib.hid (HBX.out.keep hbn); clear hbn))
                | (go_at_call 12; ((with_reducible refine (CHA.out _).mono ?_); rintro e wn ⟨rfl, rfl⟩))
                | (go_at_call 12; ((with_reducible refine (CHB.out _).mono ?_); rintro e wn ⟨rfl, rfl⟩))
                | (go_at_call 26; ((with_reducible refine (C26.out _).mono ?_); rintro e wn ⟨rfl, hbn⟩; replace HB := Lib.hid (HB.out.trans (hbn.mono HB.out.size)); replace HBX := Lib.hid (HBX.out.keep hbn); clear hbn))
                | (go_at_call 28; ((with_reducible refine (C28.out _).mono ?_); rintro e wn ⟨rfl, hbn⟩; replace HB := Lib.hid (HB.out.trans (hbn.mono HB.out.size)); replace HBX := Lib.hid (HBX.out.keep hbn); clear hbn))
                | (go_at_call 29; ((with_reducible refine (C29.out _).mono ?_); rintro e wn ⟨rfl, hbn⟩; replace HB := Lib.hid (HB.out.trans (hbn.mono HB.out.size)); replace HBX := Lib.hid (HBX.out.keep hbn); clear hbn))
                | (go_at_call 30; ((with_reducible refine (C30.out _).mono ?_); rintro e wn ⟨rfl, hbn⟩; replace HB := Lib.hid (HB.out.trans (hbn.mono HB.out.size)); replace HBX := Lib.hid (HBX.out.keep hbn); clear hbn))
                | (go_at_call 16; ((with_reducible refine (HTX.out _).mono ?_); rintro e wn ⟨rfl, hbn⟩; replace HB := Lib.hid (HB.out.trans (hbn.mono HB.out.size)); replace HBX := Lib.hid (HBX.out.keep hbn); clear hbn))
                | (go_at_call 16; ((with_reducible refine (HTY.out _).mono ?_); rintro e wn ⟨rfl, hbn⟩; replace HB := Lib.hid (HB.out.trans (hbn.mono HB.out.size)); replace HBX := Lib.hid (HBX.out.keep hbn); clear hbn; have hcx := HBX.out.cell (j := 0) rfl; have hcy := HBX.out.cell (j := 1) rfl)))
              go_roundw
              case rel => exact ⟨k + 1, TX, TY, by omega, by go_num, rfl, rfl, (show Hid _ from HZ.out.1), HBX, HB⟩
              case measure => simp [intOf]; omega
          · as_aux_lemma =>
            have he : errTwo A B = wordErr B := by unfold errTwo; rw [if_pos hea]
            have c29 := fun W => Commute_bad A B W (by omega) (by omega) (by rw [he]; exact heb)
            rw [he] at c29
            have t1 : (wordErr B != 0) = true := by simpa using heb
            have t2 : (wordErr B == 0) = false := by simpa using heb
            generalize wordErr B = E at *
            have C24 := Lib.hid c24
            have CHA := Lib.hid cha
            have CHB := Lib.hid chb
            have C26 := Lib.hid hred
            have C28 := Lib.hid c28
            have C29 := Lib.hid c29
            clear c24 cha chb hred c28 c29 he hea hwA hu
            by_cases hk1 : k = 1
            · subst hk1
              by_cases hpar : (t.size : Int) % 2 = 0
              · go_wp2_with (first
                  | (go_at_call 24; ((with_reducible refine (C24.out _).mono ?_); rintro e wn ⟨rfl, hbn⟩; replace HB := Lib.hid (HB.out.trans (hbn.mono HB.out.size)); replace HBX := Lib.hid (HBX.out.keep hbn); clear hbn))
                  | (go_at_call 12; ((with_reducible refine (CHA.out _).mono ?_); rintro e wn ⟨rfl, rfl⟩))
                  | (go_at_call 12; ((with_reducible refine (CHB.out _).mono ?_); rintro e wn ⟨rfl, rfl⟩))
                  | (go_at_call 26; ((with_reducible refine (C26.out _).mono ?_); rintro e wn ⟨rfl, hbn⟩; replace HB := Lib.hid (HB.out.trans (hbn.mono HB.out.size)); replace HBX := Lib.hid (HBX.out.keep hbn); clear hbn))
                  | (go_at_call 28; ((with_reducible refine (C28.out _).mono ?_); rintro e wn ⟨rfl, hbn⟩; replace HB := Lib.hid (HB.out.trans (hbn.mono HB.out.size)); replace HBX := Lib.hid (HBX.out.keep hbn); clear hbn))
                  | (go_at_call 29; ((with_reducible refine (C29.out _).mono ?_); rintro e wn ⟨rfl, hbn⟩; replace HB := Lib.hid (HB.out.trans (hbn.mono HB.out.size)); replace HBX := Lib.hid (HBX.out.keep hbn); clear hbn))
                  | (go_at_call 16; ((with_reducible refine (HTX.out _).mono ?_); rintro e wn ⟨rfl, hbn⟩; replace HB := Lib.hid (HB.out.trans (hbn.mono HB.out.size)); replace HBX := Lib.hid (HBX.out.keep hbn); clear hbn))
                  | (go_at_call 16; ((with_reducible refine (HTY.out _).mono ?_); rintro e wn ⟨rfl, hbn⟩; replace HB := Lib.hid (HB.out.trans (hbn.mono HB.out.size)); replace HBX := Lib.hid (HBX.out.keep hbn); clear hbn; have hcx := HBX.out.cell (j := 0) rfl; have hcy := HBX.out.cell (j := 1) rfl))
                  | (go_at_call 31; ((with_reducible refine (HP1.out _).mono ?_); rintro e wn ⟨rfl, hbn⟩; replace HB := Lib.hid (HB.out.trans (hbn.mono HB.out.size)); replace HBX := Lib.hid (HBX.out.keep hbn); clear hbn; have hcx := HBX.out.cell (j := 0) rfl; have hcy := HBX.out.cell (j := 1) rfl))
                  | (go_at_call 31; ((with_reducible refine (HP2.out _).mono ?_); rintro e wn ⟨rfl, hbn⟩; replace HB := Lib.hid (HB.out.trans (hbn.mono HB.out.size)); replace HBX := Lib.hid (HBX.out.keep hbn); clear hbn; have hcx := HBX.out.cell (j := 0) rfl; have hcy := HBX.out.cell (j := 1) rfl))
                  | (go_at_call 27; ((with_reducible refine (HIY.out _).mono ?_); rintro e wn ⟨rfl, hbn⟩; replace HB := Lib.hid (HB.out.trans (hbn.mono HB.out.size)); replace HBX := Lib.hid (HBX.out.keep hbn); clear hbn; have hcx := HBX.out.cell (j := 0) rfl; have hcy := HBX.out.cell (j := 1) rfl))
                  | (go_at_call 26; ((with_reducible refine (HRB.out _).mono ?_); rintro e wn ⟨rfl, hbn⟩; replace HB := Lib.hid (HB.out.trans (hbn.mono HB.out.size)); replace HBX := Lib.hid (HBX.out.keep hbn); clear hbn; have hcx := HBX.out.cell (j := 0) rfl; have hcy := HBX.out.cell (j := 1) rfl)))
                go_roundw
                case rel => exact ⟨2, P1, P2, by omega, rfl, rfl, rfl, (show Hid _ from ⟨HZ.out.2.1, HZ.out.2.2.1⟩), HBX, HB⟩
                case measure => simp [intOf]
              · go_wp2_with (first
                  | (go_at_call 24; ((with_reducible refine (C24.out _).mono ?_); rintro e wn ⟨rfl, hbn⟩; replace HB := Lib.hid (HB.out.trans (hbn.mono HB.out.size)); replace HBX := Lib.hid (HBX.out.keep hbn); clear hbn))
                  | (go_at_call 12; ((with_reducible refine (CHA.out _).mono ?_); rintro e wn ⟨rfl, rfl⟩))
                  | (go_at_call 12; ((with_reducible refine (CHB.out _).mono ?_); rintro e wn ⟨rfl, rfl⟩))
                  | (go_at_call 26; ((with_reducible refine (C26.out _).mono ?_); rintro e wn ⟨rfl, hbn⟩; replace HB := Lib.hid (HB.out.trans (hbn.mono HB.out.size)); replace HBX := Lib.hid (HBX.out.keep hbn); clear hbn))
                  | (go_at_call 28; ((with_reducible refine (C28.out _).mono ?_); rintro e wn ⟨rfl, hbn⟩; replace HB := Lib.hid (HB.out.trans (hbn.mono HB.out.size)); replace HBX := Lib.hid (HBX.out.keep hbn); clear hbn))
                  | (go_at_call 29; ((with_reducible refine (C29.out _).mono ?_); rintro e wn ⟨rfl, hbn⟩; replace HB := Lib.hid (HB.out.trans (hbn.mono HB.out.size)); replace HBX := Lib.hid (HBX.out.keep hbn); clear hbn))
                  | (go_at_call 16; ((with_reducible refine (HTX.out _).mono ?_); rintro e wn ⟨rfl, hbn⟩; replace HB := Lib.hid (HB.out.trans (hbn.mono HB.out.size)); replace HBX := Lib.hid (HBX.out.keep hbn); clear hbn))
                  | (go_at_call 16; ((with_reducible refine (HTY.out _).mono ?_); rintro e wn ⟨rfl, hbn⟩; replace HB := Lib.hid (HB.out.trans (hbn.mono HB.out.size)); replace HBX := Lib.hid (HBX.out.keep hbn); clear hbn; have hcx := HBX.out.cell (j := 0) rfl; have hcy := HBX.out.cell (j := 1) rfl))
                  | (go_at_call 31; ((with_reducible refine (HP1.out _).mono ?_); rintro e wn ⟨rfl, hbn⟩; replace HB := Lib.hid (HB.out.trans (hbn.mono HB.out.size)); replace HBX := Lib.hid (HBX.out.keep hbn); clear hbn; have hcx := HBX.out.cell (j := 0) rfl; have hcy := HBX.out.cell (j := 1) rfl))
                  | (go_at_call 31; ((with_reducible refine (HP2.out _).mono ?_); rintro e wn ⟨rfl, hbn⟩; replace HB := Lib.hid (HB.out.trans (hbn.mono HB.out.size)); replace HBX := Lib.hid (HBX.out.keep hbn); clear hbn; have hcx := HBX.out.cell (j := 0) rfl; have hcy := HBX.out.cell (j := 1) rfl))
                  | (go_at_call 27; ((with_reducible refine (HIY.out _).mono ?_); rintro e wn ⟨rfl, hbn⟩; replace HB := Lib.hid (HB.out.trans (hbn.mono HB.out.size)); replace HBX := Lib.hid (HBX.out.keep hbn); clear hbn; have hcx := HBX.out.cell (j := 0) rfl; have hcy := HBX.out.cell (j := 1) rfl))
                  | (go_at_call 26; ((with_reducible refine (HRB.out _).mono ?_); rintro e wn ⟨rfl, hbn⟩; replace HB := Lib.hid (HB.out.trans (hbn.mono HB.out.size)); replace HBX := Lib.hid (HBX.out.keep hbn); clear hbn; have hcx := HBX.out.cell (j := 0) rfl; have hcy := HBX.out.cell (j := 1) rfl)))
                go_roundw
                case rel => exact ⟨2, P1, RB, by omega, rfl, rfl, rfl, (show Hid _ from ⟨HZ.out.2.1, HZ.out.2.2.2⟩), HBX, HB⟩
                case measure => simp [intOf]
            · have hk2 : ((k : Int) == 1) = false := by simp; omega
              go_wp2_with (first
                | (go_at_call 24; ((with_reducible refine (C24.out _).mono ?_); rintro e wn ⟨rfl, hbn⟩; replace HB := Lib.hid (HB.out.trans (hbn.mono HB.out.size)); replace HBX := Lib.hid (HBX.out.keep hbn); clear hbn))
                | (go_at_call 12; ((with_reducible refine (CHA.out _).mono ?_); rintro e wn ⟨rfl, rfl⟩))
                | (go_at_call 12; ((with_reducible refine (CHB.out _).mono ?_); rintro e wn ⟨rfl, rfl⟩))
                | (go_at_call 26; ((with_reducible refine (C26.out _).mono ?_); rintro e wn ⟨rfl, hbn⟩; replace HB := Lib.hid (HB.out.trans (hbn.mono HB.out.size)); replace HBX := Lib.hid (HBX.out.keep hbn); clear hbn))
                | (go_at_call 28; ((with_reducible refine (C28.out _).mono ?_); rintro e wn ⟨rfl, hbn⟩; replace HB := Lib.hid (HB.out.trans (hbn.mono HB.out.size)); replace HBX := Lib.hid (HBX.out.keep hbn); clear hbn))
                | (go_at_call 29; ((with_reducible refine (C29.out _).mono ?_); rintro e wn ⟨rfl, hbn⟩; replace HB := Lib.hid (HB.out.trans (hbn.mono HB.out.size)); replace HBX := Lib.hid (HBX.out.keep hbn); clear hbn))
                | (go_at_call 16; ((with_reducible refine (HTX.out _).mono ?_); rintro e wn ⟨rfl, hbn⟩; replace HB := Lib.hid (HB.out.trans (hbn.mono HB.out.size)); replace HBX := Lib.hid (HBX.out.keep hbn); clear hbn))
                | (go_at_call 16; ((with_reducible refine (HTY.out _).mono ?_); rintro e wn ⟨rfl, hbn⟩; replace HB := Lib.hid (HB.out.trans (hbn.mono HB.out.size)); replace HBX := Lib.hid (HBX.out.keep hbn); clear hbn; have hcx := HBX.out.cell (j := 0) rfl; have hcy := HBX.out.cell (j := 1) rfl)))
              go_roundw
              case rel => exact ⟨k + 1, TX, TY, by omega, by go_num, rfl, rfl, (show Hid _ from HZ.out.1), HBX, HB⟩
              case measure => simp [intOf]; omega
      · as_aux_lemma =>
        have c24 := fun W => Root_bad A W (by omega) hea
        have he : errTwo A B = wordErr A := by unfold errTwo; rw [if_neg hea]
        have c29 := fun W => Commute_bad A B W (by omega) (by omega) (by rw [he]; exact hea)
        rw [he] at c29
        have t1 : (wordErr A != 0) = true := by simpa using hea
        have t2 : (wordErr A == 0) = false := by simpa using hea
        generalize wordErr A = E at *
        have C24 := Lib.hid c24
        have CHA := Lib.hid cha
        have C29 := Lib.hid c29
        clear c24 cha chb c29 he
        by_cases hk1 : k = 1
        · subst hk1
          by_cases hpar : (t.size : Int) % 2 = 0
          · go_wp2_with (first
              | (go_at_call 24; ((with_reducible refine (C24.out _).mono ?_); rintro e wn ⟨rfl, hbn⟩; replace HB := Lib.hid (HB.out.trans (hbn.mono HB.out.size)); replace HBX := Lib.hid (HBX.out.keep hbn); clear hbn))
              | (go_at_call 12; ((with_reducible refine (CHA.out _).mono ?_); rintro e wn ⟨rfl, rfl⟩))
              | (go_at_call 29; ((with_reducible refine (C29.out _).mono ?_); rintro e wn ⟨rfl, hbn⟩; replace HB := Lib.hid (HB.out.trans (hbn.mono HB.out.size)); replace HBX := Lib.hid (HBX.out.keep hbn); clear hbn))
              | (go_at_call 16; ((with_reducible refine (HTX.out _).mono ?_); rintro e wn ⟨rfl, hbn⟩; replace HB := Lib.hid (HB.out.trans (hbn.mono HB.out.size)); replace HBX := Lib.hid (HBX.out.keep hbn); clear hbn))
              | (go_at_call 16; ((with_reducible refine (HTY.out _).mono ?_); rintro e wn ⟨rfl, hbn⟩; replace HB := Lib.hid (HB.out.trans (hbn.mono HB.out.size)); replace HBX := Lib.hid (HBX.out.keep hbn); clear hbn; have hcx := HBX.out.cell (j := 0) rfl; have hcy := HBX.out.cell (j := 1) rfl))
              | (go_at_call 31; ((with_reducible refine (HP1.out _).mono ?_); rintro e wn ⟨rfl, hbn⟩; replace HB := Lib.hid (HB.out.trans (hbn.mono HB.out.size)); replace HBX := Lib.hid (HBX.out.keep hbn); clear hbn; have hcx := HBX.out.cell (j := 0) rfl; have hcy := HBX.out.cell (j := 1) rfl))
              | (go_at_call 31; ((with_reducible refine (HP2.out _).mono ?_); rintro e wn ⟨rfl, hbn⟩; replace HB := Lib.hid (HB.out.trans (hbn.mono HB.out.size)); replace HBX := Lib.hid (HBX.out.keep hbn); clear hbn; have hcx := HBX.out.cell (j := 0) rfl; have hcy := HBX.out.cell (j := 1) rfl))
              | (go_at_call 27; ((with_reducible refine (HIY.out _).mono ?_); rintro e wn ⟨rfl, hbn⟩; replace HB := Lib.hid (HB.out.trans (hbn.mono HB.out.size)); replace HBX := Lib.hid (HBX.out.keep hbn); clear hbn; have hcx := HBX.out.cell (j := 0) rfl; have hcy := HBX.out.cell (j := 1) rfl))
              | (go_at_call 26; ((with_reducible refine (HRB.out _).mono ?_); rintro e wn ⟨rfl, hbn⟩; replace HB := Lib.hid (HB.out.trans (hbn.mono HB.out.size)); replace HBX := Lib.hid (HBX.out.keep hbn); clear hbn; have hcx := HBX.out.cell (j := 0) rfl; have hcy := HBX.out.cell (j := 1) rfl)))
            go_roundw
            case rel => exact ⟨2, P1, P2, by omega, rfl, rfl, rfl, (show Hid _ from ⟨HZ.out.2.1, HZ.out.2.2.1⟩), HBX, HB⟩
            case measure => simp [intOf]
          · go_wp2_with (first
              | (go_at_call 24; ((with_reducible refine (C24.out _).mono ?_); rintro e wn ⟨rfl, hbn⟩; replace HB := Lib.hid (HB.out.trans (hbn.mono HB.out.size)); replace HBX := Lib.hid (HBX.out.keep hbn); clear hbn))
              | (go_at_call 12; ((with_reducible refine (CHA.out _).mono ?_); rintro e wn ⟨rfl, rfl⟩))
              | (go_at_call 29; ((with_reducible refine (C29.out _).mono ?_); rintro e wn ⟨rfl, hbn⟩; replace HB := Lib.hid (HB.out.trans (hbn.mono HB.out.size)); replace HBX := Lib.hid (HBX.out.keep hbn); clear hbn))
              | (go_at_call 16; ((with_reducible refine (HTX.out _).mono ?_); rintro e wn ⟨rfl, hbn⟩; replace HB := Lib.hid (HB.out.trans (hbn.mono HB.out.size)); replace HBX := Lib.hid (HBX.out.keep hbn); clear hbn))
              | (go_at_call 16; ((with_reducible refine (HTY.out _).mono ?_); rintro e wn ⟨rfl, hbn⟩; replace HB := Lib.hid (HB.out.trans (hbn.mono HB.out.size)); replace HBX := Lib.hid (HBX.out.keep hbn); clear hbn; have hcx := HBX.out.cell (j := 0) rfl; have hcy := HBX.out.cell (j := 1) rfl))
              | (go_at_call 31; ((with_reducible refine (HP1.out _).mono ?_); rintro e wn ⟨rfl, hbn⟩; replace HB := Lib.hid (HB.out.trans (hbn.mono HB.out.size)); replace HBX := Lib.hid (HBX.out.keep hbn); clear hbn; have hcx := HBX.out.cell (j := 0) rfl; have hcy := HBX.out.cell (j := 1) rfl))
              | (go_at_call 31; ((with_reducible refine (HP2.out _).mono ?_); rintro e wn ⟨rfl, hbn⟩; replace HB := Lib.hid (HB.out.trans (hbn.mono HB.out.size)); replace HBX := Lib.hid (HBX.out.keep hbn); clear hbn; have hcx := HBX.out.cell (j := 0) rfl; have hcy := HBX.out.cell (j := 1) rfl))
              | (go_at_call 27; ((with_reducible refine (HIY.out _).mono ?_); rintro e wn ⟨rfl, hbn⟩; replace HB := Lib.hid (HB.out.trans (hbn.mono HB.out.size)); replace HBX := Lib.hid (HBX.out.keep hbn); clear hbn; have hcx := HBX.out.cell (j := 0) rfl; have hcy := HBX.out.cell (j := 1) rfl))
              | (go_at_call 26; ((with_reducible refine (HRB.out _).mono ?_); rintro e wn ⟨rfl, hbn⟩; replace HB := Lib.hid (HB.out.trans (hbn.mono HB.out.size)); replace HBX := Lib.hid (HBX.out.keep hbn); clear hbn; have hcx := HBX.out.cell (j := 0) rfl; have hcy := HBX.out.cell (j := 1) rfl)))
            go_roundw
            case rel => exact ⟨2, P1, RB, by omega, rfl, rfl, rfl, (show Hid _ from ⟨HZ.out.2.1, HZ.out.2.2.2⟩), HBX, HB⟩
            case measure => simp [intOf]
        · have hk2 : ((k : Int) == 1) = false := by simp; omega
          go_wp2_with (first
            | (go_at_call 24; ((with_reducible refine (C24.out _).mono ?_); rintro e wn ⟨rfl, hbn⟩; replace HB := Lib.hid (HB.out.trans (hbn.mono HB.out.size)); replace HBX := Lib.hid (HBX.out.keep hbn); clear hbn))
            | (go_at_call 12; ((with_reducible refine (CHA.out _).mono ?_); rintro e wn ⟨rfl, rfl⟩))
            | (go_at_call 29; ((with_reducible refine (C29.out _).mono ?_); rintro e wn ⟨rfl, hbn⟩; replace HB := Lib.hid (HB.out.trans (hbn.mono HB.out.size)); replace HBX := Lib.hid (HBX.out.keep hbn); clear hbn))
            | (go_at_call 16; ((with_reducible refine (HTX.out _).mono ?_); rintro e wn ⟨rfl, hbn⟩; replace HB := Lib.hid (HB.out.trans (hbn.mono HB.out.size)); replace HBX := Lib.hid (HBX.out.keep hbn); clear hbn))
            | (go_at_call 16; ((with_reducible refine (HTY.out _).mono ?_); rintro e wn ⟨rfl, hbn⟩; replace HB := Lib.hid (HB.out.trans (hbn.mono HB.out.size)); replace HBX := Lib.hid (HBX.out.keep hbn); clear hbn; have hcx := HBX.out.cell (j := 0) rfl; have hcy := HBX.out.cell (j := 1) rfl)))
          go_roundw
          case rel => exact ⟨k + 1, TX, TY, by omega, by go_num, rfl, rfl, (show Hid _ from HZ.out.1), HBX, HB⟩
          case measure => simp [intOf]; omega
    · obtain rfl : k = 3 := by omega
      go_wp2_with (go_at_call 17; refine (HAW.out _).mono ?_; rintro e w9 ⟨rfl, hb9⟩)
      go_ret
      exact ⟨rfl, HB.out.trans (hb9.mono HB.out.size)⟩
end Go.Proofs.Ytjdmmgaddbleeaa
