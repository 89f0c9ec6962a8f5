/- HangWires: the walk. -/
import Derived.Test.YtjdmmgaddbleeaaMH
import Derived.Test.YtjdmmgaddbleeaaMF
namespace Go.Proofs.Ytjdmmgaddbleeaa
open Go.RowKit

/-- one set of a number, as the law makes it -/
theorem sets_one (x : Int) (n : Nat) (emp : Bool) (W : World) (hn : n ≤ 26) :
    Calls Try.prog 18 #[.slice (some ⟨W.heap.size, 0, none⟩) 1 1, .int .i64 1, .int .i64 n, .bool emp] (W.alloc (.cells #[.int .i64 x] 3)) fun e w' =>
      ∃ b o c, e = .returned (.slice (some ⟨b, o, none⟩) 1 c) ∧ 1 ≤ c ∧ c ≤ 9223372036854775807 ∧ b < w'.heap.size ∧ w'.cell? ⟨b, o, none⟩ = some (.string (strB (setI n emp x))) ∧ Below W.heap.size W w' := by
  refine (sets_any _ [x] n 1 emp _ (Ints.lit W 3 [x] (by simp)) hn (by omega)).mono ?_
  rintro e w' ⟨u, rfl, hl, hb⟩
  have hb2 : Below W.heap.size W w' := ((Below.refl _ _).alloc (Nat.le_refl _) _).trans (hb.mono (by simp))
  have hs := OwnT.strs hl.1
  have e1 : setsI n 1 emp [x] = [setI n emp x] := rfl
  rw [e1] at hs
  obtain ⟨a, cap, rfl, ⟨h1, h2⟩, h⟩ := hs
  obtain ⟨b, o, rfl, hlt, hc⟩ := h (by simp)
  exact ⟨b, o, cap, rfl, by simpa using h1, h2, hlt, hc 0 _ rfl, hb2⟩

theorem strB_app (a b : List UInt8) : strB a ++ strB b = strB (a ++ b) := by apply str_eq; rw [bts_add]

set_option maxRecDepth 100000 in
set_option maxHeartbeats 4000000 in
theorem HangWires_any (s t : ByteArray) (x y : Int) (w : World) (hs : s.size ≤ 9223372036854775807) (ht : t.size ≤ 9223372036854775807) :
    Calls Try.prog 6 #[.string s, .string t, .agg #[.int .i64 x, .int .i64 y]] w fun e w' => e = .returned (.bool true) ∧ Below w.heap.size w w' := by
  have hrU : ∀ W, Calls Try.prog 16 #[.string s, .int .i64 4, .int .i64 40] W fun e w' => e = .returned (.string (strB (textL 4 40 (bts s)))) ∧ Below W.heap.size W w' := fun W => text_any s 4 40 W hs (by omega) (by omega) (by omega)
  have hrV : ∀ W, Calls Try.prog 16 #[.string t, .int .i64 4, .int .i64 12] W fun e w' => e = .returned (.string (strB (textL 4 12 (bts t)))) ∧ Below W.heap.size W w' := fun W => text_any t 4 12 W ht (by omega) (by omega) (by omega)
  have hUw := text_word (n := 4) (m := 40) (by omega) (by omega) (bts s)
  have hVw := text_word (n := 4) (m := 12) (by omega) (by omega) (bts t)
  have hUn := fun c => text_nail (n := 4) (m := 40) (l := bts s) (c := c) (by omega) (by omega)
  have hVn := fun c => text_nail (n := 4) (m := 12) (l := bts t) (c := c) (by omega) (by omega)
  have hUl := text_len 4 40 (bts s)
  have hVl := text_len 4 12 (bts t)
  generalize textL 4 40 (bts s) = U at *
  generalize textL 4 12 (bts t) = V at *
  have few : ∀ l : List UInt8, (∀ c ∈ l, nailB c < 4) → (strN (nailsOf l)).length ≤ 10 := fun l h => by have := nails_few h; omega
  have inv4 : ∀ l : List UInt8, (∀ c ∈ l, nailB c < 4) → ∀ c ∈ invL l, nailB c < 4 := by
    intro l h c hc
    unfold invL at hc
    obtain ⟨d, hd, rfl⟩ := List.mem_map.1 (List.mem_reverse.1 hc)
    rw [nail_inv]; exact h d hd
  have app4 : ∀ l k : List UInt8, (∀ c ∈ l, nailB c < 4) → (∀ c ∈ k, nailB c < 4) → ∀ c ∈ l ++ k, nailB c < 4 := by
    intro l k h1 h2 c hc
    rcases List.mem_append.1 hc with h | h
    · exact h1 c h
    · exact h2 c h
  have hil : ∀ l : List UInt8, (invL l).length = l.length := fun l => by unfold invL; simp
  have zU := word_zero hUw (by omega)
  have zV := word_zero hVw (by omega)
  have zUi := word_zero (invL_word hUw) (by rw [hil]; omega)
  have zC := word_zero (isWord_app (isWord_app hVw hUw) (invL_word hVw)) (by simp only [List.length_append, hil]; omega)
  have zR := word_zero (isWord_app hUw (invL_word hUw)) (by simp only [List.length_append, hil]; omega)
  have hiU := fun W => Inverse_any (strB U) W (by rw [size_str]; omega)
  have hiV := fun W => Inverse_any (strB V) W (by rw [size_str]; omega)
  have hsU : ∀ W, Calls Try.prog 11 #[.string (strB U)] W fun e w' => ∃ u, e = .returned (.tuple #[u, .int .i64 0]) ∧ Strs w' u ((setsL U).map strB) ∧ Below W.heap.size W w' := fun W => Sets_any (strB U) W zU (few _ hUn)
  have hsI : ∀ W, Calls Try.prog 11 #[.string (strB (invL U))] W fun e w' => ∃ u, e = .returned (.tuple #[u, .int .i64 0]) ∧ Strs w' u ((setsL U).map strB) ∧ Below W.heap.size W w' := fun W => by
    rw [← sets_inv U]; exact Sets_any (strB (invL U)) W zUi (few _ (inv4 _ hUn))
  have hsC : ∀ W, Calls Try.prog 11 #[.string (strB (V ++ U ++ invL V))] W fun e w' => ∃ u, e = .returned (.tuple #[u, .int .i64 0]) ∧ Strs w' u ((setsL U).map strB) ∧ Below W.heap.size W w' := fun W => by
    rw [← sets_conj V U]; exact Sets_any (strB (V ++ U ++ invL V)) W zC (few _ (app4 _ _ (app4 _ _ hVn hUn) (inv4 _ hVn)))
  have hrd := fun W => Reduce_any (strB (U ++ invL U)) W (by rw [size_str]; simp only [List.length_append, hil]; omega)
  rw [zU, if_pos rfl] at hiU
  rw [zV, if_pos rfl] at hiV
  rw [zR, if_pos rfl] at hrd
  simp only [bts_str] at hiU hiV hrd
  rw [red_back, show strB [] = (⟨#[]⟩ : ByteArray) from rfl] at hrd
  have hf1 := fun W => Falls_any (strB U) (strB (setI 4 true x)) W (by rw [size_str]; have := setI_len 4 true x; omega) zU (setI_set (by omega) true x)
  obtain ⟨z, hz⟩ : ∃ z, z = bits BinOp.or IntKind.i64 x y := ⟨_, rfl⟩
  have hf2 := fun W => Falls_any (strB U) (strB (setI 4 true z)) W (by rw [size_str]; have := setI_len 4 true z; omega) zU (setI_set (by omega) true z)
  have hf3 := fun W => Falls_any (strB U) ⟨#[97, 98, 99, 100]⟩ W (by decide) zU (by decide)
  have hall : (redL (marksOf (bts ⟨#[97, 98, 99, 100]⟩)) U).isEmpty = true := by
    refine falls_all (t := [97, 98, 99, 100]) fun c hc => ?_
    have h4 := hUn c hc
    rw [mem_marks]
    obtain h | h | h | h : nailB c = 0 ∨ nailB c = 1 ∨ nailB c = 2 ∨ nailB c = 3 := by omega
    · exact ⟨97, by simp, by rw [h]; rfl⟩
    · exact ⟨98, by simp, by rw [h]; rfl⟩
    · exact ⟨99, by simp, by rw [h]; rfl⟩
    · exact ⟨100, by simp, by rw [h]; rfl⟩
  have hmono : fallsP U (setI 4 true x) = true → fallsP U (setI 4 true z) = true := falls_mono (setI_more (by omega) fun k hk hb => by rw [hz]; show bitI (IntKind.i64.wrap ((BitVec.ofInt 64 x ||| BitVec.ofInt 64 y).toNat : Int)) k = true; rw [bitI_or x y (by omega), hb]; rfl)
  simp only [bts_str] at hf1 hf2 hf3
  change ∀ W, Calls _ _ _ W fun e w' => e = .returned (.tuple #[.bool (fallsP U (setI 4 true x)), .int .i64 0]) ∧ _ at hf1
  change ∀ W, Calls _ _ _ W fun e w' => e = .returned (.tuple #[.bool (fallsP U (setI 4 true z)), .int .i64 0]) ∧ _ at hf2
  rw [hall] at hf3
  have hset1 : ∀ W : World, Calls Try.prog 18 #[.slice (some ⟨W.heap.size, 0, none⟩) 1 1, .int .i64 1, .int .i64 4, .bool true] (W.alloc (.cells #[.int .i64 x] 3)) fun e w' =>
      ∃ b o c, e = .returned (.slice (some ⟨b, o, none⟩) 1 c) ∧ 1 ≤ c ∧ c ≤ 9223372036854775807 ∧ b < w'.heap.size ∧ w'.cell? ⟨b, o, none⟩ = some (.string (strB (setI 4 true x))) ∧ Below W.heap.size W w' := fun W => sets_one x 4 true W (by omega)
  have hset2 : ∀ W : World, Calls Try.prog 18 #[.slice (some ⟨W.heap.size, 0, none⟩) 1 1, .int .i64 1, .int .i64 4, .bool true] (W.alloc (.cells #[.int .i64 z] 3)) fun e w' =>
      ∃ b o c, e = .returned (.slice (some ⟨b, o, none⟩) 1 c) ∧ 1 ≤ c ∧ c ≤ 9223372036854775807 ∧ b < w'.heap.size ∧ w'.cell? ⟨b, o, none⟩ = some (.string (strB (setI 4 true z))) ∧ Below W.heap.size W w' := fun W => sets_one z 4 true W (by omega)
  generalize fallsP U (setI 4 true x) = p at *
  generalize fallsP U (setI 4 true z) = q at *
  generalize strB (setI 4 true x) = P1 at *
  generalize strB (setI 4 true z) = P2 at *
  have eC : strB (V ++ U ++ invL V) = strB V ++ strB U ++ strB (invL V) := by rw [strB_app, strB_app]
  have eR : strB (U ++ invL U) = strB U ++ strB (invL U) := by rw [strB_app]
  rw [eC] at hsC
  rw [eR] at hrd
  have sU : (strB U).size ≤ 40 := by rw [size_str]; omega
  have sUi : (strB (invL U)).size ≤ 40 := by rw [size_str, hil]; omega
  have sV : (strB V).size ≤ 12 := by rw [size_str]; omega
  have sVi : (strB (invL V)).size ≤ 12 := by rw [size_str, hil]; omega
  generalize (setsL U).map strB = L at *
  generalize strB U = SU at *
  generalize strB (invL U) = SUi at *
  generalize strB V = SV at *
  generalize strB (invL V) = SVi at *
  have n1 : ¬ 9223372036854775807 < SV.size + SU.size := by omega
  have n2 : ¬ 9223372036854775807 < SV.size + SU.size + SVi.size := by omega
  have n3 : ¬ 9223372036854775807 < SU.size + SUi.size := by omega
  have HRU := Lib.hid hrU
  have HRV := Lib.hid hrV
  have HIU := Lib.hid hiU
  have HIV := Lib.hid hiV
  have HSU := Lib.hid hsU
  have HSI := Lib.hid hsI
  have HSC := Lib.hid hsC
  have HRD := Lib.hid hrd
  have HF1 := Lib.hid hf1
  have HF2 := Lib.hid hf2
  have HF3 := Lib.hid hf3
  have HS1 := Lib.hid hset1
  have HS2 := Lib.hid hset2
  have HM := Lib.hid hmono
  have HZ := Lib.hid hz
  clear hrU hrV hiU hiV hsU hsI hsC hrd hf1 hf2 hf3 hset1 hset2 hmono hz hall few inv4 app4 hil zU zV zUi zC zR hUw hVw hUn hVn hUl hVl eC eR
  have hb0 : Below w.heap.size w (w.alloc (.cells #[.int .i64 x, .int .i64 y] 48)) := (Below.refl _ _).alloc (Nat.le_refl _) _
  have HB0 := Lib.hid hb0
  have hbx := Blk.new w 48 [.int .i64 x, .int .i64 y]
  have HBX := Lib.hid hbx
  clear hb0 hbx
  go_enter Try.func6, Try.ntmps6
  go_wp2_with (first
    | (go_at_call 16; ((with_reducible refine (HRU.out _).mono ?_); rintro e w1 ⟨rfl, hb1⟩))
    | (go_at_call 16; ((with_reducible refine (HRV.out _).mono ?_); rintro e w2 ⟨rfl, hb2⟩))
    | (go_at_call 23; ((with_reducible refine (HIU.out _).mono ?_); rintro e w3 ⟨rfl, hb3⟩))
    | (go_at_call 23; ((with_reducible refine (HIV.out _).mono ?_); rintro e w4 ⟨rfl, hb4⟩)))
  refine (HSU.out _).mono ?_
  rintro e w5 ⟨u5, rfl, hst5, hb5⟩
  go_wp2_with (go_at_call 11; ((with_reducible refine (HSI.out _).mono ?_)))
  rintro e w6 ⟨u6, rfl, hst6, hb6⟩
  go_wp2_with (go_at_call 11; ((with_reducible refine (HSC.out _).mono ?_)))
  rintro e w7 ⟨u7, rfl, hst7, hb7⟩
  go_wp2_with (go_at_call 22; ((with_reducible refine (HRD.out _).mono ?_); rintro e w8 ⟨rfl, hb8⟩))
  have hb38 := hb3.trans ((hb4.trans ((hb5.trans ((hb6.trans ((hb7.trans (hb8.mono hb7.size)).mono hb6.size)).mono hb5.size)).mono hb4.size)).mono hb3.size)
  have hb18 := hb1.trans ((hb2.trans (hb38.mono hb2.size)).mono hb1.size)
  have hb68 := hb6.trans ((hb7.trans (hb8.mono hb7.size)).mono hb6.size)
  have hb78 := hb7.trans (hb8.mono hb7.size)
  have hm56 := same_any u5 u6 _ _ w8 (hst5.keep hb68) (hst6.keep hb78)
  have hm57 := fun n => same_any u5 u7 _ _ (w8.drewN n) ((hst5.keep hb68).keep ((Below.refl _ _).drewN' n)) ((hst7.keep hb8).keep ((Below.refl _ _).drewN' n))
  rw [decide_eq_true rfl] at hm56
  simp only [decide_true] at hm57
  have HM56 := Lib.hid hm56
  have HM57 := Lib.hid hm57
  have HB18 := Lib.hid hb18
  clear hb1 hb2 hb3 hb4 hb5 hb6 hb7 hb8 hb38 hb18 hb68 hb78 hm56 hm57 hst5 hst6 hst7
  refine HM56.out.mono ?_
  rintro e w9 ⟨rfl, n9, rfl⟩
  go_wp2_with (go_at_call 14; refine (HM57.out _).mono ?_)
  rintro e w10 ⟨rfl, n10, rfl⟩
  have hb19 := (HB18.out.drewN' n9).drewN' n10
  generalize (w8.drewN n9).drewN n10 = W9 at *
  have hcx := (hb19.cell (p := ⟨w.heap.size, 0, none⟩) (by simp)).trans (HBX.out.cell (j := 0) rfl)
  have hcy := (hb19.cell (p := ⟨w.heap.size, 1, none⟩) (by simp)).trans (HBX.out.cell (j := 1) rfl)
  have hbW := HB0.out.trans (hb19.mono (by simp))
  have hlW : w.heap.size < W9.heap.size := by have := hb19.size; simp at this; omega
  have HBW := Lib.hid hbW
  have HLW := Lib.hid hlW
  have HCX := Lib.hid hcx
  have HCY := Lib.hid hcy
  clear hb19 hbW hlW hcy HB18 HM56 HM57
  go_wp2_with (go_at_call 18; (refine (HS1.out _).mono ?_))
  rintro e w11 ⟨b1, o1, c1, rfl, hc11, hc12, hl1, hcl1, hb11⟩
  have hcx1 := (hb11.cell (p := ⟨w.heap.size, 0, none⟩) HLW.out).trans HCX.out
  have hcy1 := (hb11.cell (p := ⟨w.heap.size, 1, none⟩) HLW.out).trans HCY.out
  clear hcx
  have HB11 := Lib.hid (HBW.out.trans (hb11.mono HBW.out.size))
  clear hb11
  go_wp2_with fail
  rw [← HZ.out]
  refine (HS2.out _).mono ?_
  rintro e w12 ⟨b2, o2, c2, rfl, hc21, hc22, hl2, hcl2, hb12⟩
  have HB12 := Lib.hid (HB11.out.trans (hb12.mono HB11.out.size))
  clear hb12 hcx1 hcy1
  have hpq := HM.out
  have HAW := Lib.hid awake_any
  cases p
  · go_wp2_with (first
      | (go_at_call 25; ((with_reducible refine (HF1.out _).mono ?_); rintro e w13 ⟨rfl, hb13⟩))
      | (go_at_call 25; ((with_reducible refine (HF2.out _).mono ?_); rintro e w14 ⟨rfl, hb14⟩))
      | (go_at_call 25; ((with_reducible refine (HF3.out _).mono ?_); rintro e w15 ⟨rfl, hb15⟩))
      | (go_at_call 17; refine (HAW.out _).mono ?_; rintro e w16 ⟨rfl, hb16⟩))
    go_ret
    have h1 := HB12.out.trans (hb13.mono HB12.out.size)
    have h2 := h1.trans (hb14.mono h1.size)
    have h3 := h2.trans (hb15.mono h2.size)
    exact ⟨rfl, h3.trans (hb16.mono h3.size)⟩
  · obtain rfl := hpq rfl
    go_wp2_with (first
      | (go_at_call 25; ((with_reducible refine (HF1.out _).mono ?_); rintro e w13 ⟨rfl, hb13⟩))
      | (go_at_call 25; ((with_reducible refine (HF2.out _).mono ?_); rintro e w14 ⟨rfl, hb14⟩))
      | (go_at_call 25; ((with_reducible refine (HF3.out _).mono ?_); rintro e w15 ⟨rfl, hb15⟩))
      | (go_at_call 17; refine (HAW.out _).mono ?_; rintro e w16 ⟨rfl, hb16⟩))
    go_ret
    have h1 := HB12.out.trans (hb13.mono HB12.out.size)
    have h2 := h1.trans (hb14.mono h1.size)
    have h3 := h2.trans (hb15.mono h2.size)
    exact ⟨rfl, h3.trans (hb16.mono h3.size)⟩
end Go.Proofs.Ytjdmmgaddbleeaa
