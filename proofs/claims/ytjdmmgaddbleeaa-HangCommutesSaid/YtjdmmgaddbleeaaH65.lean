/- HangCommutes: the walk. -/
import Derived.Test.YtjdmmgaddbleeaaH64
namespace Go.Proofs.Ytjdmmgaddbleeaa
open Go.RowKit

set_option maxRecDepth 100000 in
set_option maxHeartbeats 8000000 in
theorem HangCommutes_any (s t : ByteArray) (x y z : Int) (w : World) (hs : s.size ≤ 9223372036854775807) (ht : t.size ≤ 9223372036854775807) :
    Calls Try.prog 8 #[.string s, .string t, .agg #[.int .i64 x, .int .i64 y, .int .i64 z]] w fun e w' => e = .returned (.bool true) ∧ Below w.heap.size w w' := by
  obtain ⟨mx, hmx⟩ : ∃ m : Nat, IntKind.u64.wrap x = (m : Int) := ⟨(x % 2 ^ 64).toNat, by simp only [IntKind.wrap, IntKind.bits, IntKind.signed, Bool.false_and, Bool.false_eq_true, if_false]; omega⟩
  obtain ⟨my, hmy⟩ : ∃ m : Nat, IntKind.u64.wrap y = (m : Int) := ⟨(y % 2 ^ 64).toNat, by simp only [IntKind.wrap, IntKind.bits, IntKind.signed, Bool.false_and, Bool.false_eq_true, if_false]; omega⟩
  have hbx := Blk.new w 57 [.int .i64 x, .int .i64 y, .int .i64 z]
  have cx := hbx.cell (j := 0) rfl
  have cy := hbx.cell (j := 1) rfl
  have cz := hbx.cell (j := 2) rfl
  have hb2 := Blk.new (w.alloc (.cells #[.int .i64 x, .int .i64 y, .int .i64 z] 57)) 48 [.int .i64 x, .int .i64 y]
  have hb0 : Below w.heap.size w ((w.alloc (.cells #[.int .i64 x, .int .i64 y, .int .i64 z] 57)).alloc (.cells #[.int .i64 x, .int .i64 y] 48)) := ((Below.refl _ _).alloc (Nat.le_refl _) _).alloc (by simp) _
  rw [show (w.alloc (.cells #[.int .i64 x, .int .i64 y, .int .i64 z] 57)).heap.size = w.heap.size + 1 by simp] at hb2
  have HBX := Lib.hid hb2
  have HB := Lib.hid hb0
  clear hb2 hb0
  obtain ⟨rx, hrx⟩ : ∃ r : Nat, Int.tmod (mx : Int) 3 = (r : Int) := ⟨mx % 3, rfl⟩
  obtain ⟨ry, hry⟩ : ∃ r : Nat, Int.tmod (my : Int) 3 = (r : Int) := ⟨my % 3, rfl⟩
  have hrx2 : rx ≤ 2 := by have h : Int.tmod (mx : Int) 3 = ((mx % 3 : Nat) : Int) := rfl; omega
  have hry2 : ry ≤ 2 := by have h : Int.tmod (my : Int) 3 = ((my % 3 : Nat) : Int) := rfl; omega
  have hrx3 : (mx : Int) % 3 = (rx : Int) := by have h : Int.tmod (mx : Int) 3 = ((mx % 3 : Nat) : Int) := rfl; omega
  have hry3 : (my : Int) % 3 = (ry : Int) := by have h : Int.tmod (my : Int) 3 = ((my % 3 : Nat) : Int) := rfl; omega
  have hrU : ∀ W, Calls Try.prog 16 #[.string s, .int .i64 2, .int .i64 8] W fun e w' => e = .returned (.string (strB (textL 2 8 (bts s)))) ∧ Below W.heap.size W w' := fun W => text_any s 2 8 W hs (by omega) (by omega) (by omega)
  have hrV : ∀ W, Calls Try.prog 16 #[.string t, .int .i64 2, .int .i64 8] W fun e w' => e = .returned (.string (strB (textL 2 8 (bts t)))) ∧ Below W.heap.size W w' := fun W => text_any t 2 8 W ht (by omega) (by omega) (by omega)
  have hUw := text_word (n := 2) (m := 8) (by omega) (by omega) (bts s)
  have hVw := text_word (n := 2) (m := 8) (by omega) (by omega) (bts t)
  have hUl := text_len 2 8 (bts s)
  have hVl := text_len 2 8 (bts t)
  generalize textL 2 8 (bts s) = U at *
  generalize textL 2 8 (bts t) = V at *
  have HTX := Lib.hid hrU
  have HTY := Lib.hid hrV
  have HW0 := Lib.hid (show isWord U = true ∧ isWord V = true from ⟨hUw, hVw⟩)
  have HL0 := Lib.hid (show U.length ≤ 8 * 3 ^ 0 ∧ V.length ≤ 8 * 3 ^ 0 from ⟨hUl, hVl⟩)
  have HAW := Lib.hid awake_any
  clear hrU hrV hUw hVw hUl hVl hbx
  go_enter Try.func8, Try.ntmps8
  go_wp2_with fail
  go_region
  replace HB := Lib.hid (HB.out.drewN' 1)
  replace HBX := Lib.hid (HBX.out.keep ((Below.refl _ _).drewN' 1))
  clear cx cy cz
  go_wp2_with (first
    | (go_at_call 16; ((with_reducible refine (HTX.out _).mono ?_); rintro e wn ⟨rfl, hbn⟩; replace HB := Lib.hid (HB.out.trans (hbn.mono HB.out.size)); replace HBX := Lib.hid (HBX.out.keep hbn); clear hbn))
    | (go_at_call 16; ((with_reducible refine (HTY.out _).mono ?_); rintro e wn ⟨rfl, hbn⟩; replace HB := Lib.hid (HB.out.trans (hbn.mono HB.out.size)); replace HBX := Lib.hid (HBX.out.keep hbn); clear hbn)))
  go_loopw [9, 10, 11] (fun av bv iv wr => ∃ (k : Nat) (a b : List UInt8), k ≤ 2 ∧ iv = .int .i64 k ∧ av = .string (strB a) ∧ bv = .string (strB b) ∧ Hid (isWord a = true ∧ isWord b = true) ∧ Hid (a.length ≤ 8 * 3 ^ k ∧ b.length ≤ 8 * 3 ^ k) ∧ Hid (Blk wr (w.heap.size + 1) 48 [.int .i64 x, .int .i64 y]) ∧ Hid (Below w.heap.size w wr)) (fun _ _ iv _ => 2 - (intOf iv).toNat)
  case atStart => exact ⟨0, U, V, by omega, rfl, rfl, rfl, HW0, HL0, HBX, HB⟩
  case round =>
    clear HB HBX HW0 HL0 HTX HTY
    obtain ⟨k, a, b, hk, rfl, rfl, rfl, HWW, HLL, HBX, HB⟩ := hrel
    by_cases hlt : k < 2
    · obtain ⟨hwa, hwb⟩ := HWW.out
      obtain ⟨hla, hlb⟩ := HLL.out
      have h3k : 8 * 3 ^ k ≤ 24 := by
        obtain rfl | rfl : k = 0 ∨ k = 1 := by omega
        · decide
        · decide
      obtain ⟨R, m, p, ok, h29, h32, hok⟩ := comm_facts hwa hwb (by omega) (by omega)
      obtain ⟨N, IA, IB, c, d, y9, hcd, hia, hib, h27a, h27b, h18, h25a, h25b, h25x⟩ := comm_fall3 z hwa hwb (by omega) (by omega)
      obtain ⟨hw1, hl1, h31a⟩ := comm_next hwa (by omega) (1 + (rx : Int)) (by omega)
      obtain ⟨hw2, hl2, h31b⟩ := comm_next hwa (by omega) (-1 - (ry : Int)) (by omega)
      have HNL := Lib.hid (show (powZ a (1 + (rx : Int))).length ≤ 8 * 3 ^ (k + 1) ∧ (powZ a (-1 - (ry : Int))).length ≤ 8 * 3 ^ (k + 1) by rw [Nat.pow_succ]; omega)
      have HNW := Lib.hid (show isWord (powZ a (1 + (rx : Int))) = true ∧ isWord (powZ a (-1 - (ry : Int))) = true from ⟨hw1, hw2⟩)
      generalize powZ a (1 + (rx : Int)) = a1 at *
      generalize powZ a (-1 - (ry : Int)) = b1 at *
      have sA : (strB a).size ≤ 24 := by rw [size_str]; omega
      have sB : (strB b).size ≤ 24 := by rw [size_str]; omega
      clear hwa hwb hla hlb h3k hw1 hw2 hl1 hl2 HWW HLL
      generalize strB a = TA at *
      generalize strB b = TB at *
      have n1 : ¬ 9223372036854775807 < TA.size + TB.size := by omega
      have n2 : ¬ 9223372036854775807 < TB.size + TA.size := by omega
      have n3 : ¬ 9223372036854775807 < TA.size + TB.size + IA.size := by omega
      have n4 : ¬ 9223372036854775807 < TA.size + TB.size + IA.size + IB.size := by omega
      have C29 := Lib.hid h29
      have C32 := Lib.hid h32
      have C27a := Lib.hid h27a
      have C27b := Lib.hid h27b
      have C18 := Lib.hid h18
      have C25a := Lib.hid h25a
      have C25b := Lib.hid h25b
      have C25x := Lib.hid h25x
      have C31a := Lib.hid h31a
      have C31b := Lib.hid h31b
      clear h29 h32 h27a h27b h18 h25a h25b h25x h31a h31b
      cases ok
      · clear hok
        as_aux_lemma =>
        go_wp2_with (first
          | (go_at_call 29; ((with_reducible refine (C29.out _).mono ?_); rintro e wn ⟨rfl, hbn⟩; replace HB := Lib.hid (HB.out.trans (hbn.mono HB.out.size)); replace HBX := Lib.hid (HBX.out.keep hbn); clear hbn))
          | (go_at_call 32; ((with_reducible refine (C32.out _).mono ?_); rintro e wn ⟨rfl, hbn⟩; replace HB := Lib.hid (HB.out.trans (hbn.mono HB.out.size)); replace HBX := Lib.hid (HBX.out.keep hbn); clear hbn))
          | (go_at_call 27; ((with_reducible refine (C27a.out _).mono ?_); rintro e wn ⟨rfl, hbn⟩; replace HB := Lib.hid (HB.out.trans (hbn.mono HB.out.size)); replace HBX := Lib.hid (HBX.out.keep hbn); clear hbn))
          | (go_at_call 27; ((with_reducible refine (C27b.out _).mono ?_); rintro e wn ⟨rfl, hbn⟩; replace HB := Lib.hid (HB.out.trans (hbn.mono HB.out.size)); replace HBX := Lib.hid (HBX.out.keep hbn); clear hbn)))
        go_at_call 18
        refine (C18.out _).mono ?_
        rintro e wn ⟨bq, oq, cq, rfl, hc1, hc2, hlq, hcq, hbn⟩
        replace HB := Lib.hid (HB.out.trans (hbn.mono HB.out.size)); replace HBX := Lib.hid (HBX.out.keep hbn); clear hbn
        cases c
        · cases d
          · clear hcd
            go_wp2_with (first
              | (go_at_call 25; ((with_reducible refine (C25a.out _).mono ?_); rintro e wn ⟨rfl, hbn⟩; replace HB := Lib.hid (HB.out.trans (hbn.mono HB.out.size)); replace HBX := Lib.hid (HBX.out.keep hbn); clear hbn))
              | (go_at_call 25; ((with_reducible refine (C25b.out _).mono ?_); rintro e wn ⟨rfl, hbn⟩; replace HB := Lib.hid (HB.out.trans (hbn.mono HB.out.size)); replace HBX := Lib.hid (HBX.out.keep hbn); clear hbn))
              | (go_at_call 25; ((with_reducible refine (C25x.out _).mono ?_); rintro e wn ⟨rfl, hbn⟩; replace HB := Lib.hid (HB.out.trans (hbn.mono HB.out.size)); replace HBX := Lib.hid (HBX.out.keep hbn); clear hbn)))
            have hcx := HBX.out.cell (j := 0) rfl
            have hcy := HBX.out.cell (j := 1) rfl
            have hltb := HBX.out.lt
            have hm1 : IntKind.i64.wrap (1 + (rx : Int)) = 1 + (rx : Int) := by rw [IntKind.wrap_i64]; omega
            have hm2 : IntKind.i64.wrap (-1 - (ry : Int)) = -1 - (ry : Int) := by rw [IntKind.wrap_i64]; omega
            have hm3 : IntKind.i64.wrap (rx : Int) = (rx : Int) := by rw [IntKind.wrap_i64]; omega
            have hm4 : IntKind.i64.wrap (ry : Int) = (ry : Int) := by rw [IntKind.wrap_i64]; omega
            obtain ⟨w2, rfl⟩ : ∃ w2, w2 = wn := ⟨_, rfl⟩
            have hrefl : Below w2.heap.size w2 w2 := Below.refl _ _
            go_region_held3 (fun w' => w'.cell? ⟨w.heap.size + 1, 0, none⟩ = some (.int .i64 x) ∧ w'.cell? ⟨w.heap.size + 1, 1, none⟩ = some (.int .i64 y) ∧ Below w2.heap.size w2 w') (first | (refine ⟨?_, ?_, ?_⟩ <;> first | assumption | (refine Below.drew ?_; assumption)) | (go_split_ands; exact keep61 (by assumption) (by assumption) (by assumption) hltb hb')) (first | (go_at_call 31; ((with_reducible refine (C31a.out _).mono ?_); rintro e w' ⟨rfl, hb'⟩)) | (go_at_call 31; ((with_reducible refine (C31b.out _).mono ?_); rintro e w' ⟨rfl, hb'⟩)))
            go_split_ands
            have hbz := Lib.hid (p := Below w2.heap.size w2 w') (by assumption)
            go_wp2_with fail
            go_roundw
            case rel => exact ⟨k + 1, a1, b1, by omega, by go_num, rfl, rfl, HNW, HNL, HBX.out.keep hbz.out, HB.out.trans (hbz.out.mono HB.out.size)⟩
            case measure => simp [intOf]; omega
          · obtain rfl := hcd rfl
            go_wp2_with (first
              | (go_at_call 25; ((with_reducible refine (C25a.out _).mono ?_); rintro e wn ⟨rfl, hbn⟩; replace HB := Lib.hid (HB.out.trans (hbn.mono HB.out.size)); replace HBX := Lib.hid (HBX.out.keep hbn); clear hbn))
              | (go_at_call 25; ((with_reducible refine (C25b.out _).mono ?_); rintro e wn ⟨rfl, hbn⟩; replace HB := Lib.hid (HB.out.trans (hbn.mono HB.out.size)); replace HBX := Lib.hid (HBX.out.keep hbn); clear hbn))
              | (go_at_call 25; ((with_reducible refine (C25x.out _).mono ?_); rintro e wn ⟨rfl, hbn⟩; replace HB := Lib.hid (HB.out.trans (hbn.mono HB.out.size)); replace HBX := Lib.hid (HBX.out.keep hbn); clear hbn)))
            have hcx := HBX.out.cell (j := 0) rfl
            have hcy := HBX.out.cell (j := 1) rfl
            have hltb := HBX.out.lt
            have hm1 : IntKind.i64.wrap (1 + (rx : Int)) = 1 + (rx : Int) := by rw [IntKind.wrap_i64]; omega
            have hm2 : IntKind.i64.wrap (-1 - (ry : Int)) = -1 - (ry : Int) := by rw [IntKind.wrap_i64]; omega
            have hm3 : IntKind.i64.wrap (rx : Int) = (rx : Int) := by rw [IntKind.wrap_i64]; omega
            have hm4 : IntKind.i64.wrap (ry : Int) = (ry : Int) := by rw [IntKind.wrap_i64]; omega
            obtain ⟨w2, rfl⟩ : ∃ w2, w2 = wn := ⟨_, rfl⟩
            have hrefl : Below w2.heap.size w2 w2 := Below.refl _ _
            go_region_held3 (fun w' => w'.cell? ⟨w.heap.size + 1, 0, none⟩ = some (.int .i64 x) ∧ w'.cell? ⟨w.heap.size + 1, 1, none⟩ = some (.int .i64 y) ∧ Below w2.heap.size w2 w') (first | (refine ⟨?_, ?_, ?_⟩ <;> first | assumption | (refine Below.drew ?_; assumption)) | (go_split_ands; exact keep61 (by assumption) (by assumption) (by assumption) hltb hb')) (first | (go_at_call 31; ((with_reducible refine (C31a.out _).mono ?_); rintro e w' ⟨rfl, hb'⟩)) | (go_at_call 31; ((with_reducible refine (C31b.out _).mono ?_); rintro e w' ⟨rfl, hb'⟩)))
            go_split_ands
            have hbz := Lib.hid (p := Below w2.heap.size w2 w') (by assumption)
            go_wp2_with fail
            go_roundw
            case rel => exact ⟨k + 1, a1, b1, by omega, by go_num, rfl, rfl, HNW, HNL, HBX.out.keep hbz.out, HB.out.trans (hbz.out.mono HB.out.size)⟩
            case measure => simp [intOf]; omega
        · obtain rfl := hcd rfl
          go_wp2_with (first
            | (go_at_call 25; ((with_reducible refine (C25a.out _).mono ?_); rintro e wn ⟨rfl, hbn⟩; replace HB := Lib.hid (HB.out.trans (hbn.mono HB.out.size)); replace HBX := Lib.hid (HBX.out.keep hbn); clear hbn))
            | (go_at_call 25; ((with_reducible refine (C25b.out _).mono ?_); rintro e wn ⟨rfl, hbn⟩; replace HB := Lib.hid (HB.out.trans (hbn.mono HB.out.size)); replace HBX := Lib.hid (HBX.out.keep hbn); clear hbn))
            | (go_at_call 25; ((with_reducible refine (C25x.out _).mono ?_); rintro e wn ⟨rfl, hbn⟩; replace HB := Lib.hid (HB.out.trans (hbn.mono HB.out.size)); replace HBX := Lib.hid (HBX.out.keep hbn); clear hbn)))
          have hcx := HBX.out.cell (j := 0) rfl
          have hcy := HBX.out.cell (j := 1) rfl
          have hltb := HBX.out.lt
          have hm1 : IntKind.i64.wrap (1 + (rx : Int)) = 1 + (rx : Int) := by rw [IntKind.wrap_i64]; omega
          have hm2 : IntKind.i64.wrap (-1 - (ry : Int)) = -1 - (ry : Int) := by rw [IntKind.wrap_i64]; omega
          have hm3 : IntKind.i64.wrap (rx : Int) = (rx : Int) := by rw [IntKind.wrap_i64]; omega
          have hm4 : IntKind.i64.wrap (ry : Int) = (ry : Int) := by rw [IntKind.wrap_i64]; omega
          obtain ⟨w2, rfl⟩ : ∃ w2, w2 = wn := ⟨_, rfl⟩
          have hrefl : Below w2.heap.size w2 w2 := Below.refl _ _
          go_region_held3 (fun w' => w'.cell? ⟨w.heap.size + 1, 0, none⟩ = some (.int .i64 x) ∧ w'.cell? ⟨w.heap.size + 1, 1, none⟩ = some (.int .i64 y) ∧ Below w2.heap.size w2 w') (first | (refine ⟨?_, ?_, ?_⟩ <;> first | assumption | (refine Below.drew ?_; assumption)) | (go_split_ands; exact keep61 (by assumption) (by assumption) (by assumption) hltb hb')) (first | (go_at_call 31; ((with_reducible refine (C31a.out _).mono ?_); rintro e w' ⟨rfl, hb'⟩)) | (go_at_call 31; ((with_reducible refine (C31b.out _).mono ?_); rintro e w' ⟨rfl, hb'⟩)))
          go_split_ands
          have hbz := Lib.hid (p := Below w2.heap.size w2 w') (by assumption)
          go_wp2_with fail
          go_roundw
          case rel => exact ⟨k + 1, a1, b1, by omega, by go_num, rfl, rfl, HNW, HNL, HBX.out.keep hbz.out, HB.out.trans (hbz.out.mono HB.out.size)⟩
          case measure => simp [intOf]; omega
      · obtain ⟨PA, PB, g1, g2, g3, g4, g5⟩ := hok rfl
        have D1 := Lib.hid g1
        have D2 := Lib.hid g2
        have D3 := Lib.hid g3
        have D4 := Lib.hid g4
        clear g1 g2 g3 g4 hok
        rcases g5 with rfl | ⟨⟨hne1, hne2⟩, g5⟩
        · as_aux_lemma =>
          go_wp2_with (first
            | (go_at_call 29; ((with_reducible refine (C29.out _).mono ?_); rintro e wn ⟨rfl, hbn⟩; replace HB := Lib.hid (HB.out.trans (hbn.mono HB.out.size)); replace HBX := Lib.hid (HBX.out.keep hbn); clear hbn))
            | (go_at_call 32; ((with_reducible refine (C32.out _).mono ?_); rintro e wn ⟨rfl, hbn⟩; replace HB := Lib.hid (HB.out.trans (hbn.mono HB.out.size)); replace HBX := Lib.hid (HBX.out.keep hbn); clear hbn))
            | (go_at_call 31; ((with_reducible refine (D1.out _).mono ?_); rintro e wn ⟨rfl, hbn⟩; replace HB := Lib.hid (HB.out.trans (hbn.mono HB.out.size)); replace HBX := Lib.hid (HBX.out.keep hbn); clear hbn))
            | (go_at_call 32; ((with_reducible refine (D2.out _).mono ?_); rintro e wn ⟨rfl, hbn⟩; replace HB := Lib.hid (HB.out.trans (hbn.mono HB.out.size)); replace HBX := Lib.hid (HBX.out.keep hbn); clear hbn))
            | (go_at_call 31; ((with_reducible refine (D3.out _).mono ?_); rintro e wn ⟨rfl, hbn⟩; replace HB := Lib.hid (HB.out.trans (hbn.mono HB.out.size)); replace HBX := Lib.hid (HBX.out.keep hbn); clear hbn))
            | (go_at_call 32; ((with_reducible refine (D4.out _).mono ?_); rintro e wn ⟨rfl, hbn⟩; replace HB := Lib.hid (HB.out.trans (hbn.mono HB.out.size)); replace HBX := Lib.hid (HBX.out.keep hbn); clear hbn))
            | (go_at_call 27; ((with_reducible refine (C27a.out _).mono ?_); rintro e wn ⟨rfl, hbn⟩; replace HB := Lib.hid (HB.out.trans (hbn.mono HB.out.size)); replace HBX := Lib.hid (HBX.out.keep hbn); clear hbn))
            | (go_at_call 27; ((with_reducible refine (C27b.out _).mono ?_); rintro e wn ⟨rfl, hbn⟩; replace HB := Lib.hid (HB.out.trans (hbn.mono HB.out.size)); replace HBX := Lib.hid (HBX.out.keep hbn); clear hbn)))
          go_at_call 18
          refine (C18.out _).mono ?_
          rintro e wn ⟨bq, oq, cq, rfl, hc1, hc2, hlq, hcq, hbn⟩
          replace HB := Lib.hid (HB.out.trans (hbn.mono HB.out.size)); replace HBX := Lib.hid (HBX.out.keep hbn); clear hbn
          cases c
          · cases d
            · clear hcd
              go_wp2_with (first
                | (go_at_call 25; ((with_reducible refine (C25a.out _).mono ?_); rintro e wn ⟨rfl, hbn⟩; replace HB := Lib.hid (HB.out.trans (hbn.mono HB.out.size)); replace HBX := Lib.hid (HBX.out.keep hbn); clear hbn))
                | (go_at_call 25; ((with_reducible refine (C25b.out _).mono ?_); rintro e wn ⟨rfl, hbn⟩; replace HB := Lib.hid (HB.out.trans (hbn.mono HB.out.size)); replace HBX := Lib.hid (HBX.out.keep hbn); clear hbn))
                | (go_at_call 25; ((with_reducible refine (C25x.out _).mono ?_); rintro e wn ⟨rfl, hbn⟩; replace HB := Lib.hid (HB.out.trans (hbn.mono HB.out.size)); replace HBX := Lib.hid (HBX.out.keep hbn); clear hbn)))
              have hcx := HBX.out.cell (j := 0) rfl
              have hcy := HBX.out.cell (j := 1) rfl
              have hltb := HBX.out.lt
              have hm1 : IntKind.i64.wrap (1 + (rx : Int)) = 1 + (rx : Int) := by rw [IntKind.wrap_i64]; omega
              have hm2 : IntKind.i64.wrap (-1 - (ry : Int)) = -1 - (ry : Int) := by rw [IntKind.wrap_i64]; omega
              have hm3 : IntKind.i64.wrap (rx : Int) = (rx : Int) := by rw [IntKind.wrap_i64]; omega
              have hm4 : IntKind.i64.wrap (ry : Int) = (ry : Int) := by rw [IntKind.wrap_i64]; omega
              obtain ⟨w2, rfl⟩ : ∃ w2, w2 = wn := ⟨_, rfl⟩
              have hrefl : Below w2.heap.size w2 w2 := Below.refl _ _
              go_region_held3 (fun w' => w'.cell? ⟨w.heap.size + 1, 0, none⟩ = some (.int .i64 x) ∧ w'.cell? ⟨w.heap.size + 1, 1, none⟩ = some (.int .i64 y) ∧ Below w2.heap.size w2 w') (first | (refine ⟨?_, ?_, ?_⟩ <;> first | assumption | (refine Below.drew ?_; assumption)) | (go_split_ands; exact keep61 (by assumption) (by assumption) (by assumption) hltb hb')) (first | (go_at_call 31; ((with_reducible refine (C31a.out _).mono ?_); rintro e w' ⟨rfl, hb'⟩)) | (go_at_call 31; ((with_reducible refine (C31b.out _).mono ?_); rintro e w' ⟨rfl, hb'⟩)))
              go_split_ands
              have hbz := Lib.hid (p := Below w2.heap.size w2 w') (by assumption)
              go_wp2_with fail
              go_roundw
              case rel => exact ⟨k + 1, a1, b1, by omega, by go_num, rfl, rfl, HNW, HNL, HBX.out.keep hbz.out, HB.out.trans (hbz.out.mono HB.out.size)⟩
              case measure => simp [intOf]; omega
            · obtain rfl := hcd rfl
              go_wp2_with (first
                | (go_at_call 25; ((with_reducible refine (C25a.out _).mono ?_); rintro e wn ⟨rfl, hbn⟩; replace HB := Lib.hid (HB.out.trans (hbn.mono HB.out.size)); replace HBX := Lib.hid (HBX.out.keep hbn); clear hbn))
                | (go_at_call 25; ((with_reducible refine (C25b.out _).mono ?_); rintro e wn ⟨rfl, hbn⟩; replace HB := Lib.hid (HB.out.trans (hbn.mono HB.out.size)); replace HBX := Lib.hid (HBX.out.keep hbn); clear hbn))
                | (go_at_call 25; ((with_reducible refine (C25x.out _).mono ?_); rintro e wn ⟨rfl, hbn⟩; replace HB := Lib.hid (HB.out.trans (hbn.mono HB.out.size)); replace HBX := Lib.hid (HBX.out.keep hbn); clear hbn)))
              have hcx := HBX.out.cell (j := 0) rfl
              have hcy := HBX.out.cell (j := 1) rfl
              have hltb := HBX.out.lt
              have hm1 : IntKind.i64.wrap (1 + (rx : Int)) = 1 + (rx : Int) := by rw [IntKind.wrap_i64]; omega
              have hm2 : IntKind.i64.wrap (-1 - (ry : Int)) = -1 - (ry : Int) := by rw [IntKind.wrap_i64]; omega
              have hm3 : IntKind.i64.wrap (rx : Int) = (rx : Int) := by rw [IntKind.wrap_i64]; omega
              have hm4 : IntKind.i64.wrap (ry : Int) = (ry : Int) := by rw [IntKind.wrap_i64]; omega
              obtain ⟨w2, rfl⟩ : ∃ w2, w2 = wn := ⟨_, rfl⟩
              have hrefl : Below w2.heap.size w2 w2 := Below.refl _ _
              go_region_held3 (fun w' => w'.cell? ⟨w.heap.size + 1, 0, none⟩ = some (.int .i64 x) ∧ w'.cell? ⟨w.heap.size + 1, 1, none⟩ = some (.int .i64 y) ∧ Below w2.heap.size w2 w') (first | (refine ⟨?_, ?_, ?_⟩ <;> first | assumption | (refine Below.drew ?_; assumption)) | (go_split_ands; exact keep61 (by assumption) (by assumption) (by assumption) hltb hb')) (first | (go_at_call 31; ((with_reducible refine (C31a.out _).mono ?_); rintro e w' ⟨rfl, hb'⟩)) | (go_at_call 31; ((with_reducible refine (C31b.out _).mono ?_); rintro e w' ⟨rfl, hb'⟩)))
              go_split_ands
              have hbz := Lib.hid (p := Below w2.heap.size w2 w') (by assumption)
              go_wp2_with fail
              go_roundw
              case rel => exact ⟨k + 1, a1, b1, by omega, by go_num, rfl, rfl, HNW, HNL, HBX.out.keep hbz.out, HB.out.trans (hbz.out.mono HB.out.size)⟩
              case measure => simp [intOf]; omega
          · obtain rfl := hcd rfl
            go_wp2_with (first
              | (go_at_call 25; ((with_reducible refine (C25a.out _).mono ?_); rintro e wn ⟨rfl, hbn⟩; replace HB := Lib.hid (HB.out.trans (hbn.mono HB.out.size)); replace HBX := Lib.hid (HBX.out.keep hbn); clear hbn))
              | (go_at_call 25; ((with_reducible refine (C25b.out _).mono ?_); rintro e wn ⟨rfl, hbn⟩; replace HB := Lib.hid (HB.out.trans (hbn.mono HB.out.size)); replace HBX := Lib.hid (HBX.out.keep hbn); clear hbn))
              | (go_at_call 25; ((with_reducible refine (C25x.out _).mono ?_); rintro e wn ⟨rfl, hbn⟩; replace HB := Lib.hid (HB.out.trans (hbn.mono HB.out.size)); replace HBX := Lib.hid (HBX.out.keep hbn); clear hbn)))
            have hcx := HBX.out.cell (j := 0) rfl
            have hcy := HBX.out.cell (j := 1) rfl
            have hltb := HBX.out.lt
            have hm1 : IntKind.i64.wrap (1 + (rx : Int)) = 1 + (rx : Int) := by rw [IntKind.wrap_i64]; omega
            have hm2 : IntKind.i64.wrap (-1 - (ry : Int)) = -1 - (ry : Int) := by rw [IntKind.wrap_i64]; omega
            have hm3 : IntKind.i64.wrap (rx : Int) = (rx : Int) := by rw [IntKind.wrap_i64]; omega
            have hm4 : IntKind.i64.wrap (ry : Int) = (ry : Int) := by rw [IntKind.wrap_i64]; omega
            obtain ⟨w2, rfl⟩ : ∃ w2, w2 = wn := ⟨_, rfl⟩
            have hrefl : Below w2.heap.size w2 w2 := Below.refl _ _
            go_region_held3 (fun w' => w'.cell? ⟨w.heap.size + 1, 0, none⟩ = some (.int .i64 x) ∧ w'.cell? ⟨w.heap.size + 1, 1, none⟩ = some (.int .i64 y) ∧ Below w2.heap.size w2 w') (first | (refine ⟨?_, ?_, ?_⟩ <;> first | assumption | (refine Below.drew ?_; assumption)) | (go_split_ands; exact keep61 (by assumption) (by assumption) (by assumption) hltb hb')) (first | (go_at_call 31; ((with_reducible refine (C31a.out _).mono ?_); rintro e w' ⟨rfl, hb'⟩)) | (go_at_call 31; ((with_reducible refine (C31b.out _).mono ?_); rintro e w' ⟨rfl, hb'⟩)))
            go_split_ands
            have hbz := Lib.hid (p := Below w2.heap.size w2 w') (by assumption)
            go_wp2_with fail
            go_roundw
            case rel => exact ⟨k + 1, a1, b1, by omega, by go_num, rfl, rfl, HNW, HNL, HBX.out.keep hbz.out, HB.out.trans (hbz.out.mono HB.out.size)⟩
            case measure => simp [intOf]; omega
        · have D5 := Lib.hid g5
          clear g5
          as_aux_lemma =>
          go_wp2_with (first
            | (go_at_call 29; ((with_reducible refine (C29.out _).mono ?_); rintro e wn ⟨rfl, hbn⟩; replace HB := Lib.hid (HB.out.trans (hbn.mono HB.out.size)); replace HBX := Lib.hid (HBX.out.keep hbn); clear hbn))
            | (go_at_call 32; ((with_reducible refine (C32.out _).mono ?_); rintro e wn ⟨rfl, hbn⟩; replace HB := Lib.hid (HB.out.trans (hbn.mono HB.out.size)); replace HBX := Lib.hid (HBX.out.keep hbn); clear hbn))
            | (go_at_call 31; ((with_reducible refine (D1.out _).mono ?_); rintro e wn ⟨rfl, hbn⟩; replace HB := Lib.hid (HB.out.trans (hbn.mono HB.out.size)); replace HBX := Lib.hid (HBX.out.keep hbn); clear hbn))
            | (go_at_call 32; ((with_reducible refine (D2.out _).mono ?_); rintro e wn ⟨rfl, hbn⟩; replace HB := Lib.hid (HB.out.trans (hbn.mono HB.out.size)); replace HBX := Lib.hid (HBX.out.keep hbn); clear hbn))
            | (go_at_call 31; ((with_reducible refine (D3.out _).mono ?_); rintro e wn ⟨rfl, hbn⟩; replace HB := Lib.hid (HB.out.trans (hbn.mono HB.out.size)); replace HBX := Lib.hid (HBX.out.keep hbn); clear hbn))
            | (go_at_call 32; ((with_reducible refine (D4.out _).mono ?_); rintro e wn ⟨rfl, hbn⟩; replace HB := Lib.hid (HB.out.trans (hbn.mono HB.out.size)); replace HBX := Lib.hid (HBX.out.keep hbn); clear hbn))
            | (go_at_call 24; ((with_reducible refine (D5.out _).mono ?_); rintro e wn ⟨rfl, hbn⟩; replace HB := Lib.hid (HB.out.trans (hbn.mono HB.out.size)); replace HBX := Lib.hid (HBX.out.keep hbn); clear hbn))
            | (go_at_call 27; ((with_reducible refine (C27a.out _).mono ?_); rintro e wn ⟨rfl, hbn⟩; replace HB := Lib.hid (HB.out.trans (hbn.mono HB.out.size)); replace HBX := Lib.hid (HBX.out.keep hbn); clear hbn))
            | (go_at_call 27; ((with_reducible refine (C27b.out _).mono ?_); rintro e wn ⟨rfl, hbn⟩; replace HB := Lib.hid (HB.out.trans (hbn.mono HB.out.size)); replace HBX := Lib.hid (HBX.out.keep hbn); clear hbn)))
          go_at_call 18
          refine (C18.out _).mono ?_
          rintro e wn ⟨bq, oq, cq, rfl, hc1, hc2, hlq, hcq, hbn⟩
          replace HB := Lib.hid (HB.out.trans (hbn.mono HB.out.size)); replace HBX := Lib.hid (HBX.out.keep hbn); clear hbn
          cases c
          · cases d
            · clear hcd
              go_wp2_with (first
                | (go_at_call 25; ((with_reducible refine (C25a.out _).mono ?_); rintro e wn ⟨rfl, hbn⟩; replace HB := Lib.hid (HB.out.trans (hbn.mono HB.out.size)); replace HBX := Lib.hid (HBX.out.keep hbn); clear hbn))
                | (go_at_call 25; ((with_reducible refine (C25b.out _).mono ?_); rintro e wn ⟨rfl, hbn⟩; replace HB := Lib.hid (HB.out.trans (hbn.mono HB.out.size)); replace HBX := Lib.hid (HBX.out.keep hbn); clear hbn))
                | (go_at_call 25; ((with_reducible refine (C25x.out _).mono ?_); rintro e wn ⟨rfl, hbn⟩; replace HB := Lib.hid (HB.out.trans (hbn.mono HB.out.size)); replace HBX := Lib.hid (HBX.out.keep hbn); clear hbn)))
              have hcx := HBX.out.cell (j := 0) rfl
              have hcy := HBX.out.cell (j := 1) rfl
              have hltb := HBX.out.lt
              have hm1 : IntKind.i64.wrap (1 + (rx : Int)) = 1 + (rx : Int) := by rw [IntKind.wrap_i64]; omega
              have hm2 : IntKind.i64.wrap (-1 - (ry : Int)) = -1 - (ry : Int) := by rw [IntKind.wrap_i64]; omega
              have hm3 : IntKind.i64.wrap (rx : Int) = (rx : Int) := by rw [IntKind.wrap_i64]; omega
              have hm4 : IntKind.i64.wrap (ry : Int) = (ry : Int) := by rw [IntKind.wrap_i64]; omega
              obtain ⟨w2, rfl⟩ : ∃ w2, w2 = wn := ⟨_, rfl⟩
              have hrefl : Below w2.heap.size w2 w2 := Below.refl _ _
              go_region_held3 (fun w' => w'.cell? ⟨w.heap.size + 1, 0, none⟩ = some (.int .i64 x) ∧ w'.cell? ⟨w.heap.size + 1, 1, none⟩ = some (.int .i64 y) ∧ Below w2.heap.size w2 w') (first | (refine ⟨?_, ?_, ?_⟩ <;> first | assumption | (refine Below.drew ?_; assumption)) | (go_split_ands; exact keep61 (by assumption) (by assumption) (by assumption) hltb hb')) (first | (go_at_call 31; ((with_reducible refine (C31a.out _).mono ?_); rintro e w' ⟨rfl, hb'⟩)) | (go_at_call 31; ((with_reducible refine (C31b.out _).mono ?_); rintro e w' ⟨rfl, hb'⟩)))
              go_split_ands
              have hbz := Lib.hid (p := Below w2.heap.size w2 w') (by assumption)
              go_wp2_with fail
              go_roundw
              case rel => exact ⟨k + 1, a1, b1, by omega, by go_num, rfl, rfl, HNW, HNL, HBX.out.keep hbz.out, HB.out.trans (hbz.out.mono HB.out.size)⟩
              case measure => simp [intOf]; omega
            · obtain rfl := hcd rfl
              go_wp2_with (first
                | (go_at_call 25; ((with_reducible refine (C25a.out _).mono ?_); rintro e wn ⟨rfl, hbn⟩; replace HB := Lib.hid (HB.out.trans (hbn.mono HB.out.size)); replace HBX := Lib.hid (HBX.out.keep hbn); clear hbn))
                | (go_at_call 25; ((with_reducible refine (C25b.out _).mono ?_); rintro e wn ⟨rfl, hbn⟩; replace HB := Lib.hid (HB.out.trans (hbn.mono HB.out.size)); replace HBX := Lib.hid (HBX.out.keep hbn); clear hbn))
                | (go_at_call 25; ((with_reducible refine (C25x.out _).mono ?_); rintro e wn ⟨rfl, hbn⟩; replace HB := Lib.hid (HB.out.trans (hbn.mono HB.out.size)); replace HBX := Lib.hid (HBX.out.keep hbn); clear hbn)))
              have hcx := HBX.out.cell (j := 0) rfl
              have hcy := HBX.out.cell (j := 1) rfl
              have hltb := HBX.out.lt
              have hm1 : IntKind.i64.wrap (1 + (rx : Int)) = 1 + (rx : Int) := by rw [IntKind.wrap_i64]; omega
              have hm2 : IntKind.i64.wrap (-1 - (ry : Int)) = -1 - (ry : Int) := by rw [IntKind.wrap_i64]; omega
              have hm3 : IntKind.i64.wrap (rx : Int) = (rx : Int) := by rw [IntKind.wrap_i64]; omega
              have hm4 : IntKind.i64.wrap (ry : Int) = (ry : Int) := by rw [IntKind.wrap_i64]; omega
              obtain ⟨w2, rfl⟩ : ∃ w2, w2 = wn := ⟨_, rfl⟩
              have hrefl : Below w2.heap.size w2 w2 := Below.refl _ _
              go_region_held3 (fun w' => w'.cell? ⟨w.heap.size + 1, 0, none⟩ = some (.int .i64 x) ∧ w'.cell? ⟨w.heap.size + 1, 1, none⟩ = some (.int .i64 y) ∧ Below w2.heap.size w2 w') (first | (refine ⟨?_, ?_, ?_⟩ <;> first | assumption | (refine Below.drew ?_; assumption)) | (go_split_ands; exact keep61 (by assumption) (by assumption) (by assumption) hltb hb')) (first | (go_at_call 31; ((with_reducible refine (C31a.out _).mono ?_); rintro e w' ⟨rfl, hb'⟩)) | (go_at_call 31; ((with_reducible refine (C31b.out _).mono ?_); rintro e w' ⟨rfl, hb'⟩)))
              go_split_ands
              have hbz := Lib.hid (p := Below w2.heap.size w2 w') (by assumption)
              go_wp2_with fail
              go_roundw
              case rel => exact ⟨k + 1, a1, b1, by omega, by go_num, rfl, rfl, HNW, HNL, HBX.out.keep hbz.out, HB.out.trans (hbz.out.mono HB.out.size)⟩
              case measure => simp [intOf]; omega
          · obtain rfl := hcd rfl
            go_wp2_with (first
              | (go_at_call 25; ((with_reducible refine (C25a.out _).mono ?_); rintro e wn ⟨rfl, hbn⟩; replace HB := Lib.hid (HB.out.trans (hbn.mono HB.out.size)); replace HBX := Lib.hid (HBX.out.keep hbn); clear hbn))
              | (go_at_call 25; ((with_reducible refine (C25b.out _).mono ?_); rintro e wn ⟨rfl, hbn⟩; replace HB := Lib.hid (HB.out.trans (hbn.mono HB.out.size)); replace HBX := Lib.hid (HBX.out.keep hbn); clear hbn))
              | (go_at_call 25; ((with_reducible refine (C25x.out _).mono ?_); rintro e wn ⟨rfl, hbn⟩; replace HB := Lib.hid (HB.out.trans (hbn.mono HB.out.size)); replace HBX := Lib.hid (HBX.out.keep hbn); clear hbn)))
            have hcx := HBX.out.cell (j := 0) rfl
            have hcy := HBX.out.cell (j := 1) rfl
            have hltb := HBX.out.lt
            have hm1 : IntKind.i64.wrap (1 + (rx : Int)) = 1 + (rx : Int) := by rw [IntKind.wrap_i64]; omega
            have hm2 : IntKind.i64.wrap (-1 - (ry : Int)) = -1 - (ry : Int) := by rw [IntKind.wrap_i64]; omega
            have hm3 : IntKind.i64.wrap (rx : Int) = (rx : Int) := by rw [IntKind.wrap_i64]; omega
            have hm4 : IntKind.i64.wrap (ry : Int) = (ry : Int) := by rw [IntKind.wrap_i64]; omega
            obtain ⟨w2, rfl⟩ : ∃ w2, w2 = wn := ⟨_, rfl⟩
            have hrefl : Below w2.heap.size w2 w2 := Below.refl _ _
            go_region_held3 (fun w' => w'.cell? ⟨w.heap.size + 1, 0, none⟩ = some (.int .i64 x) ∧ w'.cell? ⟨w.heap.size + 1, 1, none⟩ = some (.int .i64 y) ∧ Below w2.heap.size w2 w') (first | (refine ⟨?_, ?_, ?_⟩ <;> first | assumption | (refine Below.drew ?_; assumption)) | (go_split_ands; exact keep61 (by assumption) (by assumption) (by assumption) hltb hb')) (first | (go_at_call 31; ((with_reducible refine (C31a.out _).mono ?_); rintro e w' ⟨rfl, hb'⟩)) | (go_at_call 31; ((with_reducible refine (C31b.out _).mono ?_); rintro e w' ⟨rfl, hb'⟩)))
            go_split_ands
            have hbz := Lib.hid (p := Below w2.heap.size w2 w') (by assumption)
            go_wp2_with fail
            go_roundw
            case rel => exact ⟨k + 1, a1, b1, by omega, by go_num, rfl, rfl, HNW, HNL, HBX.out.keep hbz.out, HB.out.trans (hbz.out.mono HB.out.size)⟩
            case measure => simp [intOf]; omega
    · obtain rfl : k = 2 := by omega
      go_wp2_with (go_at_call 17; refine (HAW.out _).mono ?_; rintro e w9 ⟨rfl, hb9⟩)
      go_ret
      exact ⟨rfl, HB.out.trans (hb9.mono HB.out.size)⟩
end Go.Proofs.Ytjdmmgaddbleeaa
