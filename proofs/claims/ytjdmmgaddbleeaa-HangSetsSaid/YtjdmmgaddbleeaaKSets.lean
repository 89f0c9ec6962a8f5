/- HangSets: the walk. -/
import Derived.Test.YtjdmmgaddbleeaaMG
namespace Go.Proofs.Ytjdmmgaddbleeaa
open Go.RowKit

set_option maxRecDepth 100000 in
set_option maxHeartbeats 4000000 in
theorem HangSets_any (s : ByteArray) (w : World) (hs : s.size ≤ 9223372036854775807) :
    Calls Try.prog 3 #[.string s] w fun e w' => e = .returned (.bool true) ∧ Below w.heap.size w w' := by
  have htx := fun W => text_any s 4 60 W hs (by omega) (by omega) (by omega)
  have htl : (strB (textL 4 60 (bts s))).size ≤ 300 := by unfold textL; rw [size_str, List.length_map, List.length_take]; omega
  generalize strB (textL 4 60 (bts s)) = TX at *
  have HTX := Lib.hid htx
  have HTL := Lib.hid htl
  clear htx htl
  go_enter Try.func3, Try.ntmps3
  go_wp2_with fail
  go_loopw [3, 4] (fun ov iv wr => ∃ (k : Nat) (T : ByteArray), k ≤ 2 ∧ iv = .int .i64 k ∧ ov = .string T ∧ Hid (T.size ≤ 300) ∧ Hid (Below w.heap.size w wr)) (fun _ iv _ => 2 - (intOf iv).toNat)
  case atStart => exact ⟨0, _, by omega, rfl, rfl, (show Hid ((s.extract 0 (min (s.size : Int) 300).toNat).size ≤ 300) from by show _ ≤ _; rw [ByteArray.size_extract]; omega), (show Hid _ from Below.refl _ _)⟩
  case round =>
    obtain ⟨k, T, hk, rfl, rfl, HT, HB⟩ := hrel
    by_cases hlt : k < 2
    · by_cases hE : wordErr T = 0
      · obtain ⟨hw, _⟩ := word_size hE
        have hrc := fun W => rCheck_any T W (by have := HT.out; omega)
        rw [hE] at hrc
        have hna := fun W => Nails_one T W hw (by have := HT.out; omega)
        have HRC := Lib.hid hrc
        have HNA := Lib.hid hna
        clear hrc hna
        by_cases hten : 10 < (strN (nailsOf (bts T))).length
        · have hsl := fun W => Sets_long T W hE hten
          have hd1 : decide ((10 : Int) < ((strB (strN (nailsOf (bts T)))).size : Int)) = true := decide_eq_true (by rw [size_str]; omega)
          generalize strB (strN (nailsOf (bts T))) = NS at *
          have HSL := Lib.hid hsl
          clear hsl hten hE hw
          go_wp2_with (first
            | (go_at_call 11; refine (HSL.out _).mono ?_; rintro e w2 ⟨rfl, hb2⟩)
            | (go_at_call 12; refine (HRC.out _).mono ?_; rintro e w3 ⟨rfl, rfl⟩)
            | (go_at_call 13; ((with_reducible refine (HNA.out _).mono ?_); rintro e w4 ⟨rfl, hb4⟩))
            | (go_at_call 16; refine (HTX.out _).mono ?_; rintro e w5 ⟨rfl, hb5⟩))
          have hb := HB.out.trans (hb2.mono HB.out.size)
          have hb' := hb.trans (hb4.mono hb.size)
          go_roundw
          case rel => exact ⟨k + 1, _, by omega, by go_num, rfl, HTL, hb'.trans (hb5.mono hb'.size)⟩
          case measure => simp [intOf]; omega
        · have hsa := fun W => Sets_any T W hE (by omega)
          have hrs := fun W => rSets_any T W hw (by have := HT.out; omega)
          have hd1 : decide ((10 : Int) < ((strB (strN (nailsOf (bts T)))).size : Int)) = false := decide_eq_false (by rw [size_str]; omega)
          generalize strB (strN (nailsOf (bts T))) = NS at *
          have HSA := Lib.hid hsa
          have HRS := Lib.hid hrs
          clear hsa hrs hten hE hw
          go_wp2_with (first
            | (go_at_call 11; refine (HSA.out _).mono ?_; rintro e w2 ⟨u2, rfl, hst2, hb2⟩)
            | (go_at_call 12; refine (HRC.out _).mono ?_; rintro e w3 ⟨rfl, rfl⟩)
            | (go_at_call 13; ((with_reducible refine (HNA.out _).mono ?_); rintro e w4 ⟨rfl, hb4⟩))
            | (go_at_call 15; refine (HRS.out _).mono ?_))
          rintro e w6 ⟨u6, rfl, hst6, hb6⟩
          have hb26 := hb4.trans (hb6.mono hb4.size)
          have hsm := same_any u2 u6 _ _ w6 (hst2.keep hb26) hst6
          rw [decide_eq_true rfl] at hsm
          have HSM := Lib.hid hsm
          have hb := HB.out.trans (hb2.mono HB.out.size)
          have HB6 := Lib.hid (hb.trans (hb26.mono hb.size))
          clear hsm hb hb26 hb2 hb4 hb6 hst2 hst6
          go_wp2_with (first
            | (go_at_call 14; refine HSM.out.mono ?_; rintro e w7 ⟨rfl, nq, rfl⟩)
            | (go_at_call 16; refine (HTX.out _).mono ?_; rintro e w5 ⟨rfl, hb5⟩))
          have hb7 := HB6.out.drewN' nq
          go_roundw
          case rel => exact ⟨k + 1, _, by omega, by go_num, rfl, HTL, hb7.trans (hb5.mono hb7.size)⟩
          case measure => simp [intOf]; omega
      · have hsb := fun W => Sets_bad T W (by have := HT.out; omega) hE
        have hrc := fun W => rCheck_any T W (by have := HT.out; omega)
        have t1 : ((wordErr T : Int) == 0) = false := by simpa using hE
        have t2 : (wordErr T != 0) = true := by simpa using hE
        generalize wordErr T = E at *
        have HSB := Lib.hid hsb
        have HRC := Lib.hid hrc
        clear hsb hrc hE
        go_wp2_with (first
          | (go_at_call 11; refine (HSB.out _).mono ?_; rintro e w2 ⟨rfl, hb2⟩)
          | (go_at_call 12; refine (HRC.out _).mono ?_; rintro e w3 ⟨rfl, rfl⟩)
          | (go_at_call 16; refine (HTX.out _).mono ?_; rintro e w5 ⟨rfl, hb5⟩))
        have hb := HB.out.trans (hb2.mono HB.out.size)
        go_roundw
        case rel => exact ⟨k + 1, _, by omega, by go_num, rfl, HTL, hb.trans (hb5.mono hb.size)⟩
        case measure => simp [intOf]; omega
    · obtain rfl : k = 2 := by omega
      have HAW := Lib.hid awake_any
      go_wp2_with (go_at_call 17; refine (HAW.out _).mono ?_; rintro e w2 ⟨rfl, hb2⟩)
      go_ret
      exact ⟨rfl, HB.out.trans (hb2.mono HB.out.size)⟩
end Go.Proofs.Ytjdmmgaddbleeaa
