/- HangWords: sums of letters, and sets of nails: the walks. -/
import Derived.Test.YtjdmmgaddbleeaaGreatMG
namespace Go.Proofs.YtjdmmgaddbleeaaGreat
open Go.RowKit

/-- how many more of a letter than of its inverse there are -/
def sumL (c : UInt8) (l : List UInt8) : Int := (l.count c : Int) - (l.count (invB c) : Int)
theorem sumL_snoc (c x : UInt8) (l : List UInt8) : sumL c (l ++ [x]) = if x = c then sumL c l + 1 else if x = invB c then sumL c l - 1 else sumL c l := by
  unfold sumL
  rw [List.count_append, List.count_append]
  have hne := inv_ne c
  by_cases h1 : x = c
  · subst h1
    rw [if_pos rfl, List.count_singleton_self, List.count_singleton, if_neg (by simpa using fun h => hne h.symm)]
    push_cast
    omega
  · rw [if_neg h1, List.count_singleton, if_neg (by simpa using h1)]
    by_cases h2 : x = invB c
    · subst h2
      rw [if_pos rfl, List.count_singleton_self]
      push_cast
      omega
    · rw [if_neg h2, List.count_singleton, if_neg (by simpa using h2)]
      push_cast
      omega
theorem sumL_le (c : UInt8) (l : List UInt8) : -(l.length : Int) ≤ sumL c l ∧ sumL c l ≤ l.length := by
  unfold sumL
  have h1 := List.count_le_length (a := c) (l := l)
  have h2 := List.count_le_length (a := invB c) (l := l)
  omega

set_option maxRecDepth 100000 in
set_option maxHeartbeats 1000000 in
theorem rSum_any (s : ByteArray) (c : UInt8) (w : World) (hc : letter c.toNat = true) (hs : s.size ≤ 1000000) :
    Calls Tryz.prog 14 #[.string s, .int .u8 c.toNat] w fun e w' => e = .returned (.int .i64 (sumL c (bts s))) ∧ ∃ q, w' = w.drewN q := by
  have hot := fun W => other_any c W hc
  have hfin : sumL c ((bts s).take s.size) = sumL c (bts s) := by rw [← bts_len s, List.take_length]
  generalize sumL c (bts s) = F at *
  have HOT := Lib.hid hot
  have HF := Lib.hid hfin
  clear hot hfin hc
  go_enter Tryz.func14, Tryz.ntmps14
  go_wp2_with fail
  go_loopw [5, 6] (fun nv iv wr => ∃ (k q : Nat) (n : Int), k ≤ s.size ∧ iv = .int .i64 k ∧ nv = .int .i64 n ∧ Hid (sumL c ((bts s).take k) = n) ∧ -(k : Int) ≤ n ∧ n ≤ k ∧ Hid (wr = w.drewN q)) (fun _ iv _ => s.size - (intOf iv).toNat)
  case atStart => exact ⟨0, 0, 0, by omega, rfl, rfl, (show Hid (_ = _) from rfl), by omega, by omega, (show Hid (_ = _) from rfl)⟩
  case round =>
    obtain ⟨k, q, n, hk, rfl, rfl, HN, hn1, hn2, HQ⟩ := hrel
    by_cases hlt : k < s.size
    · have hst : sumL c ((bts s).take (k + 1)) = if s[k]'hlt = c then n + 1 else if s[k]'hlt = invB c then n - 1 else n := by
        rw [List.take_add_one, bts_get hlt, Option.toList, sumL_snoc, HN.out]
      by_cases h1 : s[k]'hlt = c
      · rw [if_pos h1] at hst
        have t1 : (((s[k]'hlt).toNat : Int) == (c.toNat : Int)) = true := by rw [h1]; simp
        have HST := Lib.hid hst
        clear hst h1
        go_wp2_with fail
        go_roundw
        case rel => exact ⟨k + 1, q, n + 1, by omega, by go_num, by go_num, HST, by omega, by omega, HQ⟩
        case measure => simp [intOf]; omega
      · rw [if_neg h1] at hst
        have t1 : (((s[k]'hlt).toNat : Int) == (c.toNat : Int)) = false := by
          simp
          exact fun h => h1 (UInt8.toNat_inj.1 (by omega))
        by_cases h2 : s[k]'hlt = invB c
        · rw [if_pos h2] at hst
          have t2 : (((s[k]'hlt).toNat : Int) == ((invB c).toNat : Int)) = true := by rw [h2]; simp
          have HST := Lib.hid hst
          clear hst h1 h2
          go_wp2_with fail
          go_quiet ((go_at_call 25; exact Calls.quiet_of_same (HOT.out _)))
          go_wp2_with fail
          go_roundw
          case rel => exact ⟨k + 1, q + nq, n - 1, by omega, by go_num, by go_num, HST, by omega, by omega, by show _ = _; rw [HQ.out, World.drewN_drewN]⟩
          case measure => simp [intOf]; omega
        · rw [if_neg h2] at hst
          have t2 : (((s[k]'hlt).toNat : Int) == ((invB c).toNat : Int)) = false := by
            simp
            exact fun h => h2 (UInt8.toNat_inj.1 (by omega))
          have HST := Lib.hid hst
          clear hst h1 h2
          go_wp2_with fail
          go_quiet ((go_at_call 25; exact Calls.quiet_of_same (HOT.out _)))
          go_wp2_with fail
          go_roundw
          case rel => exact ⟨k + 1, q + nq, n, by omega, by go_num, rfl, HST, by omega, by omega, by show _ = _; rw [HQ.out, World.drewN_drewN]⟩
          case measure => simp [intOf]; omega
    · obtain rfl : k = s.size := by omega
      have hF : n = F := by rw [← HF.out, HN.out]
      subst hF
      go_wp2_with fail
      go_ret
      exact ⟨rfl, q, HQ.out⟩

set_option maxRecDepth 100000 in
set_option maxHeartbeats 1000000 in
theorem rIsSet_any (s : ByteArray) (w : World) (hs : s.size ≤ 9223372036854775807) :
    Calls Tryz.prog 12 #[.string s] w fun e w' => e = .returned (.bool (isSet 0 (bts s))) ∧ ∃ q, w' = w.drewN q := by
  generalize hF : isSet 0 (bts s) = F at *
  have HF := Lib.hid hF
  clear hF
  go_enter Tryz.func12, Tryz.ntmps12
  go_wp2_with fail
  go_loopw [3] (fun iv wr => ∃ (k q : Nat) (last : Int), k ≤ s.size ∧ iv = .int .i64 k ∧ Hid (isSet last ((bts s).drop k) = F) ∧ Hid ((k = 0 ∧ last = 0) ∨ ∃ (m : Nat) (h : m < s.size), k = m + 1 ∧ last = (s[m]'h).toNat) ∧ Hid (wr = w.drewN q)) (fun iv _ => s.size - (intOf iv).toNat)
  case atStart => exact ⟨0, 0, 0, by omega, rfl, HF, (show Hid (_ ∨ _) from .inl ⟨rfl, rfl⟩), (show Hid (_ = _) from rfl)⟩
  case round =>
    clear HF
    obtain ⟨k, q, last, hk, rfl, HA, HL, HQ⟩ := hrel
    by_cases hlt : k < s.size
    · have hst := isSet_at hlt last
      rw [HA.out] at hst
      have HNX : Hid ((k + 1 = 0 ∧ ((s[k]'hlt).toNat : Int) = 0) ∨ ∃ (m : Nat) (h : m < s.size), k + 1 = m + 1 ∧ ((s[k]'hlt).toNat : Int) = (s[m]'h).toNat) := .inr ⟨k, hlt, rfl, rfl⟩
      by_cases h1 : ((s[k]'hlt).toNat : Int) < 97
      · have d1 : decide (((s[k]'hlt).toNat : Int) < 97) = true := by simpa using h1
        have hF : F = false := by rw [hst, decide_eq_false (by omega : ¬ 97 ≤ ((s[k]'hlt).toNat : Int))]; rfl
        subst hF
        clear hst HL HA HNX
        go_wp2_with fail
        go_quiet (fail)
        go_wp2_with fail
        go_ret
        exact ⟨rfl, q + nq, by rw [HQ.out, World.drewN_drewN]⟩
      · have d1 : decide (((s[k]'hlt).toNat : Int) < 97) = false := by simpa using h1
        by_cases h2 : ((s[k]'hlt).toNat : Int) > 122
        · have d2 : decide (((s[k]'hlt).toNat : Int) > 122) = true := by simpa using h2
          have hF : F = false := by rw [hst, decide_eq_false (by omega : ¬ ((s[k]'hlt).toNat : Int) ≤ 122)]; simp
          subst hF
          clear hst HL HA HNX
          go_wp2_with fail
          go_quiet (fail)
          go_wp2_with fail
          go_ret
          exact ⟨rfl, q + nq, by rw [HQ.out, World.drewN_drewN]⟩
        · have d2 : decide (((s[k]'hlt).toNat : Int) > 122) = false := by simpa using h2
          rw [decide_eq_true (by omega : 97 ≤ ((s[k]'hlt).toNat : Int)), decide_eq_true (by omega : ((s[k]'hlt).toNat : Int) ≤ 122), Bool.true_and, Bool.true_and] at hst
          rcases HL.out with ⟨rfl, rfl⟩ | ⟨m, hm, hkm, rfl⟩
          · rw [decide_eq_true (by omega : (0 : Int) < ((s[0]'hlt).toNat : Int)), Bool.true_and] at hst
            have HST := Lib.hid hst.symm
            clear hst HL HA
            go_wp2_with fail
            go_quiet (fail)
            go_wp2_with fail
            go_roundw
            case rel => exact ⟨1, q + nq, _, by omega, by go_num, HST, HNX, by show _ = _; rw [HQ.out, World.drewN_drewN]⟩
            case measure => simp [intOf]; omega
          · have hk0 : decide ((k : Int) > 0) = true := by simp; omega
            have i0 : 0 < k := by omega
            have i1 : (0 : Int) ≤ k := by omega
            have i2 : (k : Int) < s.size := by omega
            have i3 : (0 : Int) ≤ m := by omega
            have i4 : (m : Int) < s.size := by omega
            have hw1 : IntKind.i64.wrap ((k : Int) - 1) = (m : Int) := by rw [IntKind.wrap_i64]; omega
            by_cases h3 : ((s[m]'hm).toNat : Int) ≥ ((s[k]'hlt).toNat : Int)
            · have d3 : decide (((s[m]'hm).toNat : Int) ≥ ((s[k]'hlt).toNat : Int)) = true := by simpa using h3
              have hF : F = false := by rw [hst, decide_eq_false (by omega : ¬ ((s[m]'hm).toNat : Int) < ((s[k]'hlt).toNat : Int))]; rfl
              subst hF
              clear hst HL HA HNX hkm
              go_wp2_with fail
              go_quiet (fail)
              go_wp2_with fail
              go_ret
              exact ⟨rfl, q + nq, by rw [HQ.out, World.drewN_drewN]⟩
            · have d3 : decide (((s[m]'hm).toNat : Int) ≥ ((s[k]'hlt).toNat : Int)) = false := by simpa using h3
              rw [decide_eq_true (by omega : ((s[m]'hm).toNat : Int) < ((s[k]'hlt).toNat : Int)), Bool.true_and] at hst
              have HST := Lib.hid hst.symm
              clear hst HL HA hkm
              go_wp2_with fail
              go_quiet (fail)
              go_wp2_with fail
              go_roundw
              case rel => exact ⟨k + 1, q + nq, _, by omega, by go_num, HST, HNX, by show _ = _; rw [HQ.out, World.drewN_drewN]⟩
              case measure => simp [intOf]; omega
    · obtain rfl : k = s.size := by omega
      have hF : F = true := by rw [← HA.out, List.drop_of_length_le (by rw [bts_len]; exact Nat.le_refl _)]; rfl
      subst hF
      go_wp2_with fail
      go_ret
      exact ⟨rfl, q, HQ.out⟩
end Go.Proofs.YtjdmmgaddbleeaaGreat

/- HangWords: the program's sums: the walk. -/
namespace Go.Proofs.YtjdmmgaddbleeaaGreat
open Go.RowKit

/-- how the nail of a sum may be: of no one letter, below a, above z, a nail -/
inductive NailCase (N : ByteArray) : Prop
  | long (h : N.size ≠ 1)
  | low (h : N.size = 1) (h2 : (N[0]'(by omega)).toNat < 97)
  | high (h : N.size = 1) (h2 : 122 < (N[0]'(by omega)).toNat)
  | good (h : N.size = 1) (h2 : 97 ≤ (N[0]'(by omega)).toNat) (h3 : (N[0]'(by omega)).toNat ≤ 122)
theorem nail_cases (N : ByteArray) : NailCase N := by
  by_cases h : N.size = 1
  · by_cases h2 : (N[0]'(by omega)).toNat < 97
    · exact .low h h2
    · by_cases h3 : 122 < (N[0]'(by omega)).toNat
      · exact .high h h3
      · exact .good h (by omega) (by omega)
  · exact .long h
theorem nail_one {N : ByteArray} (h : N.size = 1) : N = ⟨#[N[0]'(by omega)]⟩ := by
  apply str_eq
  apply List.ext_getElem?
  intro i
  by_cases hi : i < 1
  · obtain rfl : i = 0 := by omega
    rw [bts_get (by omega)]
    rfl
  · rw [List.getElem?_eq_none (by rw [bts_len]; omega), List.getElem?_eq_none (by simp [bts]; omega)]

set_option maxRecDepth 100000 in
set_option maxHeartbeats 1000000 in
theorem Sum_bad (s N : ByteArray) (w : World) (hs : s.size ≤ 9223372036854775807) (h : wordErr s ≠ 0) :
    Calls Tryz.prog 9 #[.string s, .string N] w fun e w' => e = .returned (.tuple #[.int .i64 0, .int .i64 (wordErr s)]) ∧ Below w.heap.size w w' := by
  have hck := check_any s w hs
  have t0 : (wordErr s != 0) = true := by simpa using h
  generalize wordErr s = E at *
  have HCK := Lib.hid hck
  clear hck h
  go_enter Tryz.func9, Tryz.ntmps9
  go_wp2_with (go_at_call 5; refine HCK.out.mono ?_; rintro e w1 ⟨rfl, hb1⟩)
  go_ret2
  exact ⟨rfl, hb1⟩

set_option maxRecDepth 100000 in
set_option maxHeartbeats 1000000 in
theorem Sum_arg (s N : ByteArray) (w : World) (h : wordErr s = 0) (hN : N.size ≠ 1 ∨ ∃ h1 : N.size = 1, (N[0]'(by omega)).toNat < 97 ∨ 122 < (N[0]'(by omega)).toNat) :
    Calls Tryz.prog 9 #[.string s, .string N] w fun e w' => e = .returned (.tuple #[.int .i64 0, .int .i64 1]) ∧ Below w.heap.size w w' := by
  obtain ⟨hw, hl⟩ := word_size h
  have hck := check_any s w (by omega)
  rw [h] at hck
  have HCK := Lib.hid hck
  clear hck h hw hl
  rcases hN with hN | ⟨h1, hN⟩
  · have t1 : ((N.size : Int) != 1) = true := by simp; omega
    go_enter Tryz.func9, Tryz.ntmps9
    go_wp2_with (go_at_call 5; refine HCK.out.mono ?_; rintro e w1 ⟨rfl, hb1⟩)
    go_ret2
    exact ⟨rfl, hb1⟩
  · have t1 : ((N.size : Int) != 1) = false := by simp; omega
    have i0 : (0 : Int) < N.size := by omega
    have i1 : 0 < N.size := by omega
    rcases hN with hN | hN
    · have d1 : decide (((N[0]'i1).toNat : Int) < 97) = true := by simp; omega
      clear hN h1
      go_enter Tryz.func9, Tryz.ntmps9
      go_wp2_with (go_at_call 5; refine HCK.out.mono ?_; rintro e w1 ⟨rfl, hb1⟩)
      go_ret2
      exact ⟨rfl, hb1⟩
    · have d1 : decide (((N[0]'i1).toNat : Int) < 97) = false := by simp; omega
      have d2 : decide (((N[0]'i1).toNat : Int) > 122) = true := by simp; omega
      clear hN h1
      go_enter Tryz.func9, Tryz.ntmps9
      go_wp2_with (go_at_call 5; refine HCK.out.mono ?_; rintro e w1 ⟨rfl, hb1⟩)
      go_ret2
      exact ⟨rfl, hb1⟩

set_option maxRecDepth 100000 in
set_option maxHeartbeats 1000000 in
theorem Sum_good (s N : ByteArray) (w : World) (h : wordErr s = 0) (h1 : N.size = 1) (h2 : 97 ≤ (N[0]'(by omega)).toNat) (h3 : (N[0]'(by omega)).toNat ≤ 122) :
    Calls Tryz.prog 9 #[.string s, .string N] w fun e w' => e = .returned (.tuple #[.int .i64 (sumL (N[0]'(by omega)) (bts s)), .int .i64 0]) ∧ Below w.heap.size w w' := by
  obtain ⟨hw, hl⟩ := word_size h
  have hck := check_any s w (by omega)
  rw [h] at hck
  have i0 : (0 : Int) < N.size := by omega
  have i1 : 0 < N.size := by omega
  have e1 := nail_one h1
  have hc1 := fun W => Tryz.strings_Count_one s (N[0]'i1) W
  have hc2 := fun W => Tryz.strings_Count_one s (invB (N[0]'i1)) W
  have htu := fun W => turned_any N W (by omega)
  have e2 : strB (invL (bts N)) = ⟨#[invB (N[0]'i1)]⟩ := by
    conv => lhs; rw [e1]
    rfl
  rw [e2] at htu
  rw [← e1] at hc1
  have t1 : ((N.size : Int) != 1) = false := by simp; omega
  have d1 : decide (((N[0]'i1).toNat : Int) < 97) = false := by simp; omega
  have d2 : decide (((N[0]'i1).toNat : Int) > 122) = false := by simp; omega
  have hsum : sumL (N[0]'i1) (bts s) = (Lib.countByte s.data.toList (N[0]'i1) : Int) - (Lib.countByte s.data.toList (invB (N[0]'i1)) : Int) := rfl
  have hb1 := List.count_le_length (a := N[0]'i1) (l := bts s)
  have hb2 := List.count_le_length (a := invB (N[0]'i1)) (l := bts s)
  rw [bts_len] at hb1 hb2
  have hb1 : Lib.countByte s.data.toList (N[0]'i1) ≤ s.size := hb1
  have hb2 : Lib.countByte s.data.toList (invB (N[0]'i1)) ≤ s.size := hb2
  rw [hsum]
  generalize Lib.countByte s.data.toList (N[0]'i1) = C1 at *
  generalize Lib.countByte s.data.toList (invB (N[0]'i1)) = C2 at *
  generalize (⟨#[invB (N[0]'i1)]⟩ : ByteArray) = T at *
  have HCK := Lib.hid hck
  have HC1 := Lib.hid hc1
  have HC2 := Lib.hid hc2
  have HTU := Lib.hid htu
  clear hck h hw hc1 hc2 htu e1 e2 h2 h3 h1 hsum
  go_enter Tryz.func9, Tryz.ntmps9
  go_wp2_with (first
    | (go_at_call 5; refine HCK.out.mono ?_; rintro e w1 ⟨rfl, hb1⟩)
    | (go_at_call 24; ((with_reducible refine (HC1.out _).mono ?_); rintro e wn ⟨rfl, rfl⟩))
    | (go_at_call 24; ((with_reducible refine (HC2.out _).mono ?_); rintro e wn ⟨rfl, rfl⟩))
    | (go_at_call 21; ((with_reducible refine (HTU.out _).mono ?_); rintro e w2 ⟨rfl, hb2⟩)))
  go_ret2
  exact ⟨rfl, hb1.trans (hb2.mono hb1.size)⟩
end Go.Proofs.YtjdmmgaddbleeaaGreat

/- HangWords: the walk. -/
namespace Go.Proofs.YtjdmmgaddbleeaaGreat
open Go.RowKit

theorem text_len (n m : Nat) (l : List UInt8) : (textL n m l).length ≤ m := by
  unfold textL; rw [List.length_map, List.length_take]; omega
theorem marks_low {t : List UInt8} {c : UInt8} (h : letter (c.toNat : Int) = true) : marksOf t (nailB c) = t.contains (lowB c) := by
  obtain ⟨h1, h2⟩ := letter_low c h
  have hn : nailB c = (lowB c).toNat - 97 := rfl
  rw [Bool.eq_iff_iff, mem_marks, List.contains_iff_mem]
  constructor
  · rintro ⟨d, hd, e⟩
    have : d = lowB c := UInt8.toNat_inj.1 (by omega)
    rwa [← this]
  · intro hm
    exact ⟨_, hm, by omega⟩
theorem falls_eq {l : List UInt8} (hw : isWord l = true) (t : List UInt8) : fallsL t l = fallsP l t := by
  unfold fallsL fallsP
  rw [left_red t l (marksOf t)]
  intro c hc
  exact marks_low (by simpa using List.all_eq_true.1 hw c hc)

set_option maxRecDepth 100000 in
set_option maxHeartbeats 8000000 in
theorem HangWords_any (s t u : ByteArray) (w : World) (hs : s.size ≤ 9223372036854775807) (ht : t.size ≤ 9223372036854775807) (hu : u.size ≤ 9223372036854775807) :
    Calls Tryz.prog 3 #[.string s, .string t, .string u] w fun e w' => e = .returned (.bool true) ∧ Below w.heap.size w w' := by
  have HB := Lib.hid (Below.refl w.heap.size w)
  have HS0 := Lib.hid (show s.size ≤ 9223372036854775807 ∧ t.size ≤ 9223372036854775807 ∧ u.size ≤ 9223372036854775807 from ⟨hs, ht, hu⟩)
  have HAW := Lib.hid awake_any
  clear hs ht hu
  go_enter Tryz.func3, Tryz.ntmps3
  go_wp2_with fail
  go_loopw [0, 1, 2, 7] (fun av pv nv iv wr => ∃ (k : Nat) (A P N : ByteArray), k ≤ 2 ∧ iv = .int .i64 k ∧ av = .string A ∧ pv = .string P ∧ nv = .string N ∧ Hid (A.size ≤ 9223372036854775807 ∧ P.size ≤ 9223372036854775807 ∧ N.size ≤ 9223372036854775807) ∧ Hid (Below w.heap.size w wr)) (fun _ _ _ iv _ => 2 - (intOf iv).toNat)
  case atStart => exact ⟨0, s, t, u, by omega, rfl, rfl, rfl, rfl, HS0, HB⟩
  case round =>
    clear HB HS0
    obtain ⟨k, A, P, N, hk, rfl, rfl, rfl, rfl, HSZ, HB⟩ := hrel
    by_cases hlt : k < 2
    · obtain ⟨hA, hP, hN⟩ := HSZ.out
      obtain ⟨x, hx⟩ : ∃ x, IntKind.i64.wrap ((P.size : Int) + (N.size : Int)) = x := ⟨_, rfl⟩
      have h15 : ∀ W, Calls Tryz.prog 15 #[.string A, .int .i64 3, .int .i64 100] W fun e w' => e = .returned (.string (strB (textL 3 100 (bts A)))) ∧ Below W.heap.size W w' := fun W => text_any A 3 100 W hA (by omega) (by omega) (by omega)
      have hl15 : (strB (textL 3 100 (bts A))).size ≤ 9223372036854775807 := by rw [size_str]; have := text_len 3 100 (bts A); omega
      have hl16 : (strB (setI 3 true x)).size ≤ 9223372036854775807 := by rw [size_str]; have := setI_len 3 true x; omega
      have h16 : ∀ W : World, Calls Tryz.prog 16 #[.slice (some ⟨W.heap.size, 0, none⟩) 1 1, .int .i64 1, .int .i64 3, .bool true] (W.alloc (.cells #[.int .i64 x] 3)) fun e w' =>
          ∃ b o c, e = .returned (.slice (some ⟨b, o, none⟩) 1 c) ∧ 1 ≤ c ∧ c ≤ 9223372036854775807 ∧ b < w'.heap.size ∧ w'.cell? ⟨b, o, none⟩ = some (.string (strB (setI 3 true x))) ∧ Below W.heap.size W w' := fun W => sets_one x 3 true W (by omega)
      generalize strB (textL 3 100 (bts A)) = TX at *
      generalize strB (setI 3 true x) = PX at *
      have HNS := Lib.hid (show TX.size ≤ 9223372036854775807 ∧ PX.size ≤ 9223372036854775807 ∧ (⟨#[98]⟩ : ByteArray).size ≤ 9223372036854775807 from ⟨hl15, hl16, by decide⟩)
      have C15 := Lib.hid h15
      have C16 := Lib.hid h16
      have h4 := fun W => rCheck_any A W hA
      have h5 := fun W => check_any A W hA
      have h6 := fun W => Reduce_any A W hA
      have h7 := fun W => Inverse_any A W hA
      clear h15 h16 hl15 hl16
      by_cases he : wordErr A = 0
      · rw [he] at h4 h5 h6 h7
        rw [if_pos rfl] at h6 h7
        obtain ⟨hwA, hA3⟩ := word_size he
        have h10 := fun W => rReduce_any A W hwA (by omega)
        have h11 := fun W => rInverse_any A W hwA (by omega)
        have h12 := fun W => (rIsSet_any P W hP).mono (R' := fun e w' => e = .returned (.bool (isSet 0 (bts P))) ∧ Below W.heap.size W w') fun e w' ⟨h, q, hq⟩ => ⟨h, by rw [hq]; exact (Below.refl _ _).drewN' q⟩
        generalize strB (redW (bts A)) = RA at *
        generalize strB (invL (bts A)) = IA at *
        have C4 := Lib.hid h4
        have C5 := Lib.hid h5
        have C6 := Lib.hid h6
        have C7 := Lib.hid h7
        have C10 := Lib.hid h10
        have C11 := Lib.hid h11
        clear h4 h5 h6 h7 h10 h11
        by_cases hset : isSet 0 (bts P) = true
        · rw [hset] at h12
          have h8 := fun W => Falls_any A P W hP he hset
          have h13 := fun W => rFalls_any A P W hwA (by omega) hP
          rw [falls_eq hwA] at h13
          unfold fallsP at h13
          generalize (redL (marksOf (bts P)) (bts A)).isEmpty = D at *
          have C8 := Lib.hid h8
          have C12 := Lib.hid h12
          have C13 := Lib.hid h13
          clear h8 h12 h13 hset
          have h14 := fun (c : UInt8) (hc : letter c.toNat = true) W => (rSum_any A c W hc (by omega)).mono (R' := fun e w' => e = .returned (.int .i64 (sumL c (bts A))) ∧ Below W.heap.size W w') fun e w' ⟨h, q, hq⟩ => ⟨h, by rw [hq]; exact (Below.refl _ _).drewN' q⟩
          rcases nail_cases N with hn | ⟨hn, hn2⟩ | ⟨hn, hn2⟩ | ⟨hn, hn2, hn3⟩
          · have h9 := fun W => Sum_arg A N W he (.inl hn)
            have t1 : ((N.size : Int) != 1) = true := by simp; omega
            have C9 := Lib.hid h9
            clear h9 h14 he hwA hA3 HSZ hA hP hN hn
            as_aux_lemma =>
            go_wp2_with (first
              | (go_at_call 4; ((with_reducible refine (C4.out _).mono ?_); rintro e wn ⟨rfl, rfl⟩))
              | (go_at_call 5; ((with_reducible refine (C5.out _).mono ?_); rintro e wn ⟨rfl, hbn⟩; replace HB := Lib.hid (HB.out.trans (hbn.mono HB.out.size)); clear hbn))
              | (go_at_call 6; ((with_reducible refine (C6.out _).mono ?_); rintro e wn ⟨rfl, hbn⟩; replace HB := Lib.hid (HB.out.trans (hbn.mono HB.out.size)); clear hbn))
              | (go_at_call 7; ((with_reducible refine (C7.out _).mono ?_); rintro e wn ⟨rfl, hbn⟩; replace HB := Lib.hid (HB.out.trans (hbn.mono HB.out.size)); clear hbn))
              | (go_at_call 8; ((with_reducible refine (C8.out _).mono ?_); rintro e wn ⟨rfl, hbn⟩; replace HB := Lib.hid (HB.out.trans (hbn.mono HB.out.size)); clear hbn))
              | (go_at_call 10; ((with_reducible refine (C10.out _).mono ?_); rintro e wn ⟨rfl, hbn⟩; replace HB := Lib.hid (HB.out.trans (hbn.mono HB.out.size)); clear hbn))
              | (go_at_call 11; ((with_reducible refine (C11.out _).mono ?_); rintro e wn ⟨rfl, hbn⟩; replace HB := Lib.hid (HB.out.trans (hbn.mono HB.out.size)); clear hbn))
              | (go_at_call 12; ((with_reducible refine (C12.out _).mono ?_); rintro e wn ⟨rfl, hbn⟩; replace HB := Lib.hid (HB.out.trans (hbn.mono HB.out.size)); clear hbn))
              | (go_at_call 13; ((with_reducible refine (C13.out _).mono ?_); rintro e wn ⟨rfl, hbn⟩; replace HB := Lib.hid (HB.out.trans (hbn.mono HB.out.size)); clear hbn))
              | (go_at_call 9; ((with_reducible refine (C9.out _).mono ?_); rintro e wn ⟨rfl, hbn⟩; replace HB := Lib.hid (HB.out.trans (hbn.mono HB.out.size)); clear hbn))
              | (go_at_call 15; ((with_reducible refine (C15.out _).mono ?_); rintro e wn ⟨rfl, hbn⟩; replace HB := Lib.hid (HB.out.trans (hbn.mono HB.out.size)); clear hbn)))
            refine (C16.out _).mono ?_
            rintro e wn ⟨bq, oq, cq, rfl, hc1, hc2, hlq, hcq, hbn⟩
            replace HB := Lib.hid (HB.out.trans (hbn.mono HB.out.size)); clear hbn
            go_wp2_with fail
            go_roundw
            case rel => exact ⟨k + 1, TX, PX, ⟨#[98]⟩, by omega, by go_num, rfl, rfl, rfl, HNS, HB⟩
            case measure => simp [intOf]; omega
          · have h9 := fun W => Sum_arg A N W he (.inr ⟨hn, .inl hn2⟩)
            have t1 : ((N.size : Int) != 1) = false := by simp; omega
            have i0 : (0 : Int) < N.size := by omega
            have i1 : 0 < N.size := by omega
            have d1 : decide (((N[0]'i1).toNat : Int) < 97) = true := by simp; omega
            have C9 := Lib.hid h9
            clear h9 h14 he hwA hA3 HSZ hA hP hN hn2 hn
            as_aux_lemma =>
            go_wp2_with (first
              | (go_at_call 4; ((with_reducible refine (C4.out _).mono ?_); rintro e wn ⟨rfl, rfl⟩))
              | (go_at_call 5; ((with_reducible refine (C5.out _).mono ?_); rintro e wn ⟨rfl, hbn⟩; replace HB := Lib.hid (HB.out.trans (hbn.mono HB.out.size)); clear hbn))
              | (go_at_call 6; ((with_reducible refine (C6.out _).mono ?_); rintro e wn ⟨rfl, hbn⟩; replace HB := Lib.hid (HB.out.trans (hbn.mono HB.out.size)); clear hbn))
              | (go_at_call 7; ((with_reducible refine (C7.out _).mono ?_); rintro e wn ⟨rfl, hbn⟩; replace HB := Lib.hid (HB.out.trans (hbn.mono HB.out.size)); clear hbn))
              | (go_at_call 8; ((with_reducible refine (C8.out _).mono ?_); rintro e wn ⟨rfl, hbn⟩; replace HB := Lib.hid (HB.out.trans (hbn.mono HB.out.size)); clear hbn))
              | (go_at_call 10; ((with_reducible refine (C10.out _).mono ?_); rintro e wn ⟨rfl, hbn⟩; replace HB := Lib.hid (HB.out.trans (hbn.mono HB.out.size)); clear hbn))
              | (go_at_call 11; ((with_reducible refine (C11.out _).mono ?_); rintro e wn ⟨rfl, hbn⟩; replace HB := Lib.hid (HB.out.trans (hbn.mono HB.out.size)); clear hbn))
              | (go_at_call 12; ((with_reducible refine (C12.out _).mono ?_); rintro e wn ⟨rfl, hbn⟩; replace HB := Lib.hid (HB.out.trans (hbn.mono HB.out.size)); clear hbn))
              | (go_at_call 13; ((with_reducible refine (C13.out _).mono ?_); rintro e wn ⟨rfl, hbn⟩; replace HB := Lib.hid (HB.out.trans (hbn.mono HB.out.size)); clear hbn))
              | (go_at_call 9; ((with_reducible refine (C9.out _).mono ?_); rintro e wn ⟨rfl, hbn⟩; replace HB := Lib.hid (HB.out.trans (hbn.mono HB.out.size)); clear hbn))
              | (go_at_call 15; ((with_reducible refine (C15.out _).mono ?_); rintro e wn ⟨rfl, hbn⟩; replace HB := Lib.hid (HB.out.trans (hbn.mono HB.out.size)); clear hbn)))
            refine (C16.out _).mono ?_
            rintro e wn ⟨bq, oq, cq, rfl, hc1, hc2, hlq, hcq, hbn⟩
            replace HB := Lib.hid (HB.out.trans (hbn.mono HB.out.size)); clear hbn
            go_wp2_with fail
            go_roundw
            case rel => exact ⟨k + 1, TX, PX, ⟨#[98]⟩, by omega, by go_num, rfl, rfl, rfl, HNS, HB⟩
            case measure => simp [intOf]; omega
          · have h9 := fun W => Sum_arg A N W he (.inr ⟨hn, .inr hn2⟩)
            have t1 : ((N.size : Int) != 1) = false := by simp; omega
            have i0 : (0 : Int) < N.size := by omega
            have i1 : 0 < N.size := by omega
            have d1 : decide (((N[0]'i1).toNat : Int) < 97) = false := by simp; omega
            have d2 : decide (((N[0]'i1).toNat : Int) > 122) = true := by simp; omega
            have C9 := Lib.hid h9
            clear h9 h14 he hwA hA3 HSZ hA hP hN hn2 hn
            as_aux_lemma =>
            go_wp2_with (first
              | (go_at_call 4; ((with_reducible refine (C4.out _).mono ?_); rintro e wn ⟨rfl, rfl⟩))
              | (go_at_call 5; ((with_reducible refine (C5.out _).mono ?_); rintro e wn ⟨rfl, hbn⟩; replace HB := Lib.hid (HB.out.trans (hbn.mono HB.out.size)); clear hbn))
              | (go_at_call 6; ((with_reducible refine (C6.out _).mono ?_); rintro e wn ⟨rfl, hbn⟩; replace HB := Lib.hid (HB.out.trans (hbn.mono HB.out.size)); clear hbn))
              | (go_at_call 7; ((with_reducible refine (C7.out _).mono ?_); rintro e wn ⟨rfl, hbn⟩; replace HB := Lib.hid (HB.out.trans (hbn.mono HB.out.size)); clear hbn))
              | (go_at_call 8; ((with_reducible refine (C8.out _).mono ?_); rintro e wn ⟨rfl, hbn⟩; replace HB := Lib.hid (HB.out.trans (hbn.mono HB.out.size)); clear hbn))
              | (go_at_call 10; ((with_reducible refine (C10.out _).mono ?_); rintro e wn ⟨rfl, hbn⟩; replace HB := Lib.hid (HB.out.trans (hbn.mono HB.out.size)); clear hbn))
              | (go_at_call 11; ((with_reducible refine (C11.out _).mono ?_); rintro e wn ⟨rfl, hbn⟩; replace HB := Lib.hid (HB.out.trans (hbn.mono HB.out.size)); clear hbn))
              | (go_at_call 12; ((with_reducible refine (C12.out _).mono ?_); rintro e wn ⟨rfl, hbn⟩; replace HB := Lib.hid (HB.out.trans (hbn.mono HB.out.size)); clear hbn))
              | (go_at_call 13; ((with_reducible refine (C13.out _).mono ?_); rintro e wn ⟨rfl, hbn⟩; replace HB := Lib.hid (HB.out.trans (hbn.mono HB.out.size)); clear hbn))
              | (go_at_call 9; ((with_reducible refine (C9.out _).mono ?_); rintro e wn ⟨rfl, hbn⟩; replace HB := Lib.hid (HB.out.trans (hbn.mono HB.out.size)); clear hbn))
              | (go_at_call 15; ((with_reducible refine (C15.out _).mono ?_); rintro e wn ⟨rfl, hbn⟩; replace HB := Lib.hid (HB.out.trans (hbn.mono HB.out.size)); clear hbn)))
            refine (C16.out _).mono ?_
            rintro e wn ⟨bq, oq, cq, rfl, hc1, hc2, hlq, hcq, hbn⟩
            replace HB := Lib.hid (HB.out.trans (hbn.mono HB.out.size)); clear hbn
            go_wp2_with fail
            go_roundw
            case rel => exact ⟨k + 1, TX, PX, ⟨#[98]⟩, by omega, by go_num, rfl, rfl, rfl, HNS, HB⟩
            case measure => simp [intOf]; omega
          · have h9 := fun W => Sum_good A N W he hn hn2 hn3
            have t1 : ((N.size : Int) != 1) = false := by simp; omega
            have i0 : (0 : Int) < N.size := by omega
            have i1 : 0 < N.size := by omega
            have d1 : decide (((N[0]'i1).toNat : Int) < 97) = false := by simp; omega
            have d2 : decide (((N[0]'i1).toNat : Int) > 122) = false := by simp; omega
            have h14 := h14 (N[0]'i1) (by unfold letter; simp; omega)
            generalize sumL (N[0]'i1) (bts A) = V at *
            have C14 := Lib.hid h14
            have C9 := Lib.hid h9
            clear h9 h14 he hwA hA3 HSZ hA hP hN hn2 hn3 hn
            as_aux_lemma =>
            go_wp2_with (first
              | (go_at_call 4; ((with_reducible refine (C4.out _).mono ?_); rintro e wn ⟨rfl, rfl⟩))
              | (go_at_call 5; ((with_reducible refine (C5.out _).mono ?_); rintro e wn ⟨rfl, hbn⟩; replace HB := Lib.hid (HB.out.trans (hbn.mono HB.out.size)); clear hbn))
              | (go_at_call 6; ((with_reducible refine (C6.out _).mono ?_); rintro e wn ⟨rfl, hbn⟩; replace HB := Lib.hid (HB.out.trans (hbn.mono HB.out.size)); clear hbn))
              | (go_at_call 7; ((with_reducible refine (C7.out _).mono ?_); rintro e wn ⟨rfl, hbn⟩; replace HB := Lib.hid (HB.out.trans (hbn.mono HB.out.size)); clear hbn))
              | (go_at_call 8; ((with_reducible refine (C8.out _).mono ?_); rintro e wn ⟨rfl, hbn⟩; replace HB := Lib.hid (HB.out.trans (hbn.mono HB.out.size)); clear hbn))
              | (go_at_call 10; ((with_reducible refine (C10.out _).mono ?_); rintro e wn ⟨rfl, hbn⟩; replace HB := Lib.hid (HB.out.trans (hbn.mono HB.out.size)); clear hbn))
              | (go_at_call 11; ((with_reducible refine (C11.out _).mono ?_); rintro e wn ⟨rfl, hbn⟩; replace HB := Lib.hid (HB.out.trans (hbn.mono HB.out.size)); clear hbn))
              | (go_at_call 12; ((with_reducible refine (C12.out _).mono ?_); rintro e wn ⟨rfl, hbn⟩; replace HB := Lib.hid (HB.out.trans (hbn.mono HB.out.size)); clear hbn))
              | (go_at_call 13; ((with_reducible refine (C13.out _).mono ?_); rintro e wn ⟨rfl, hbn⟩; replace HB := Lib.hid (HB.out.trans (hbn.mono HB.out.size)); clear hbn))
              | (go_at_call 9; ((with_reducible refine (C9.out _).mono ?_); rintro e wn ⟨rfl, hbn⟩; replace HB := Lib.hid (HB.out.trans (hbn.mono HB.out.size)); clear hbn))
              | (go_at_call 14; ((with_reducible refine (C14.out _).mono ?_); rintro e wn ⟨rfl, hbn⟩; replace HB := Lib.hid (HB.out.trans (hbn.mono HB.out.size)); clear hbn))
              | (go_at_call 15; ((with_reducible refine (C15.out _).mono ?_); rintro e wn ⟨rfl, hbn⟩; replace HB := Lib.hid (HB.out.trans (hbn.mono HB.out.size)); clear hbn)))
            refine (C16.out _).mono ?_
            rintro e wn ⟨bq, oq, cq, rfl, hc1, hc2, hlq, hcq, hbn⟩
            replace HB := Lib.hid (HB.out.trans (hbn.mono HB.out.size)); clear hbn
            go_wp2_with fail
            go_roundw
            case rel => exact ⟨k + 1, TX, PX, ⟨#[98]⟩, by omega, by go_num, rfl, rfl, rfl, HNS, HB⟩
            case measure => simp [intOf]; omega
        · have hset := Bool.eq_false_iff.2 hset
          rw [hset] at h12
          have h8 := fun W => Falls_unset A P W hP he hset
          have C8 := Lib.hid h8
          have C12 := Lib.hid h12
          clear h8 h12 hset
          have h14 := fun (c : UInt8) (hc : letter c.toNat = true) W => (rSum_any A c W hc (by omega)).mono (R' := fun e w' => e = .returned (.int .i64 (sumL c (bts A))) ∧ Below W.heap.size W w') fun e w' ⟨h, q, hq⟩ => ⟨h, by rw [hq]; exact (Below.refl _ _).drewN' q⟩
          rcases nail_cases N with hn | ⟨hn, hn2⟩ | ⟨hn, hn2⟩ | ⟨hn, hn2, hn3⟩
          · have h9 := fun W => Sum_arg A N W he (.inl hn)
            have t1 : ((N.size : Int) != 1) = true := by simp; omega
            have C9 := Lib.hid h9
            clear h9 h14 he hwA hA3 HSZ hA hP hN hn
            as_aux_lemma =>
            go_wp2_with (first
              | (go_at_call 4; ((with_reducible refine (C4.out _).mono ?_); rintro e wn ⟨rfl, rfl⟩))
              | (go_at_call 5; ((with_reducible refine (C5.out _).mono ?_); rintro e wn ⟨rfl, hbn⟩; replace HB := Lib.hid (HB.out.trans (hbn.mono HB.out.size)); clear hbn))
              | (go_at_call 6; ((with_reducible refine (C6.out _).mono ?_); rintro e wn ⟨rfl, hbn⟩; replace HB := Lib.hid (HB.out.trans (hbn.mono HB.out.size)); clear hbn))
              | (go_at_call 7; ((with_reducible refine (C7.out _).mono ?_); rintro e wn ⟨rfl, hbn⟩; replace HB := Lib.hid (HB.out.trans (hbn.mono HB.out.size)); clear hbn))
              | (go_at_call 8; ((with_reducible refine (C8.out _).mono ?_); rintro e wn ⟨rfl, hbn⟩; replace HB := Lib.hid (HB.out.trans (hbn.mono HB.out.size)); clear hbn))
              | (go_at_call 10; ((with_reducible refine (C10.out _).mono ?_); rintro e wn ⟨rfl, hbn⟩; replace HB := Lib.hid (HB.out.trans (hbn.mono HB.out.size)); clear hbn))
              | (go_at_call 11; ((with_reducible refine (C11.out _).mono ?_); rintro e wn ⟨rfl, hbn⟩; replace HB := Lib.hid (HB.out.trans (hbn.mono HB.out.size)); clear hbn))
              | (go_at_call 12; ((with_reducible refine (C12.out _).mono ?_); rintro e wn ⟨rfl, hbn⟩; replace HB := Lib.hid (HB.out.trans (hbn.mono HB.out.size)); clear hbn))
              | (go_at_call 9; ((with_reducible refine (C9.out _).mono ?_); rintro e wn ⟨rfl, hbn⟩; replace HB := Lib.hid (HB.out.trans (hbn.mono HB.out.size)); clear hbn))
              | (go_at_call 15; ((with_reducible refine (C15.out _).mono ?_); rintro e wn ⟨rfl, hbn⟩; replace HB := Lib.hid (HB.out.trans (hbn.mono HB.out.size)); clear hbn)))
            refine (C16.out _).mono ?_
            rintro e wn ⟨bq, oq, cq, rfl, hc1, hc2, hlq, hcq, hbn⟩
            replace HB := Lib.hid (HB.out.trans (hbn.mono HB.out.size)); clear hbn
            go_wp2_with fail
            go_roundw
            case rel => exact ⟨k + 1, TX, PX, ⟨#[98]⟩, by omega, by go_num, rfl, rfl, rfl, HNS, HB⟩
            case measure => simp [intOf]; omega
          · have h9 := fun W => Sum_arg A N W he (.inr ⟨hn, .inl hn2⟩)
            have t1 : ((N.size : Int) != 1) = false := by simp; omega
            have i0 : (0 : Int) < N.size := by omega
            have i1 : 0 < N.size := by omega
            have d1 : decide (((N[0]'i1).toNat : Int) < 97) = true := by simp; omega
            have C9 := Lib.hid h9
            clear h9 h14 he hwA hA3 HSZ hA hP hN hn2 hn
            as_aux_lemma =>
            go_wp2_with (first
              | (go_at_call 4; ((with_reducible refine (C4.out _).mono ?_); rintro e wn ⟨rfl, rfl⟩))
              | (go_at_call 5; ((with_reducible refine (C5.out _).mono ?_); rintro e wn ⟨rfl, hbn⟩; replace HB := Lib.hid (HB.out.trans (hbn.mono HB.out.size)); clear hbn))
              | (go_at_call 6; ((with_reducible refine (C6.out _).mono ?_); rintro e wn ⟨rfl, hbn⟩; replace HB := Lib.hid (HB.out.trans (hbn.mono HB.out.size)); clear hbn))
              | (go_at_call 7; ((with_reducible refine (C7.out _).mono ?_); rintro e wn ⟨rfl, hbn⟩; replace HB := Lib.hid (HB.out.trans (hbn.mono HB.out.size)); clear hbn))
              | (go_at_call 8; ((with_reducible refine (C8.out _).mono ?_); rintro e wn ⟨rfl, hbn⟩; replace HB := Lib.hid (HB.out.trans (hbn.mono HB.out.size)); clear hbn))
              | (go_at_call 10; ((with_reducible refine (C10.out _).mono ?_); rintro e wn ⟨rfl, hbn⟩; replace HB := Lib.hid (HB.out.trans (hbn.mono HB.out.size)); clear hbn))
              | (go_at_call 11; ((with_reducible refine (C11.out _).mono ?_); rintro e wn ⟨rfl, hbn⟩; replace HB := Lib.hid (HB.out.trans (hbn.mono HB.out.size)); clear hbn))
              | (go_at_call 12; ((with_reducible refine (C12.out _).mono ?_); rintro e wn ⟨rfl, hbn⟩; replace HB := Lib.hid (HB.out.trans (hbn.mono HB.out.size)); clear hbn))
              | (go_at_call 9; ((with_reducible refine (C9.out _).mono ?_); rintro e wn ⟨rfl, hbn⟩; replace HB := Lib.hid (HB.out.trans (hbn.mono HB.out.size)); clear hbn))
              | (go_at_call 15; ((with_reducible refine (C15.out _).mono ?_); rintro e wn ⟨rfl, hbn⟩; replace HB := Lib.hid (HB.out.trans (hbn.mono HB.out.size)); clear hbn)))
            refine (C16.out _).mono ?_
            rintro e wn ⟨bq, oq, cq, rfl, hc1, hc2, hlq, hcq, hbn⟩
            replace HB := Lib.hid (HB.out.trans (hbn.mono HB.out.size)); clear hbn
            go_wp2_with fail
            go_roundw
            case rel => exact ⟨k + 1, TX, PX, ⟨#[98]⟩, by omega, by go_num, rfl, rfl, rfl, HNS, HB⟩
            case measure => simp [intOf]; omega
          · have h9 := fun W => Sum_arg A N W he (.inr ⟨hn, .inr hn2⟩)
            have t1 : ((N.size : Int) != 1) = false := by simp; omega
            have i0 : (0 : Int) < N.size := by omega
            have i1 : 0 < N.size := by omega
            have d1 : decide (((N[0]'i1).toNat : Int) < 97) = false := by simp; omega
            have d2 : decide (((N[0]'i1).toNat : Int) > 122) = true := by simp; omega
            have C9 := Lib.hid h9
            clear h9 h14 he hwA hA3 HSZ hA hP hN hn2 hn
            as_aux_lemma =>
            go_wp2_with (first
              | (go_at_call 4; ((with_reducible refine (C4.out _).mono ?_); rintro e wn ⟨rfl, rfl⟩))
              | (go_at_call 5; ((with_reducible refine (C5.out _).mono ?_); rintro e wn ⟨rfl, hbn⟩; replace HB := Lib.hid (HB.out.trans (hbn.mono HB.out.size)); clear hbn))
              | (go_at_call 6; ((with_reducible refine (C6.out _).mono ?_); rintro e wn ⟨rfl, hbn⟩; replace HB := Lib.hid (HB.out.trans (hbn.mono HB.out.size)); clear hbn))
              | (go_at_call 7; ((with_reducible refine (C7.out _).mono ?_); rintro e wn ⟨rfl, hbn⟩; replace HB := Lib.hid (HB.out.trans (hbn.mono HB.out.size)); clear hbn))
              | (go_at_call 8; ((with_reducible refine (C8.out _).mono ?_); rintro e wn ⟨rfl, hbn⟩; replace HB := Lib.hid (HB.out.trans (hbn.mono HB.out.size)); clear hbn))
              | (go_at_call 10; ((with_reducible refine (C10.out _).mono ?_); rintro e wn ⟨rfl, hbn⟩; replace HB := Lib.hid (HB.out.trans (hbn.mono HB.out.size)); clear hbn))
              | (go_at_call 11; ((with_reducible refine (C11.out _).mono ?_); rintro e wn ⟨rfl, hbn⟩; replace HB := Lib.hid (HB.out.trans (hbn.mono HB.out.size)); clear hbn))
              | (go_at_call 12; ((with_reducible refine (C12.out _).mono ?_); rintro e wn ⟨rfl, hbn⟩; replace HB := Lib.hid (HB.out.trans (hbn.mono HB.out.size)); clear hbn))
              | (go_at_call 9; ((with_reducible refine (C9.out _).mono ?_); rintro e wn ⟨rfl, hbn⟩; replace HB := Lib.hid (HB.out.trans (hbn.mono HB.out.size)); clear hbn))
              | (go_at_call 15; ((with_reducible refine (C15.out _).mono ?_); rintro e wn ⟨rfl, hbn⟩; replace HB := Lib.hid (HB.out.trans (hbn.mono HB.out.size)); clear hbn)))
            refine (C16.out _).mono ?_
            rintro e wn ⟨bq, oq, cq, rfl, hc1, hc2, hlq, hcq, hbn⟩
            replace HB := Lib.hid (HB.out.trans (hbn.mono HB.out.size)); clear hbn
            go_wp2_with fail
            go_roundw
            case rel => exact ⟨k + 1, TX, PX, ⟨#[98]⟩, by omega, by go_num, rfl, rfl, rfl, HNS, HB⟩
            case measure => simp [intOf]; omega
          · have h9 := fun W => Sum_good A N W he hn hn2 hn3
            have t1 : ((N.size : Int) != 1) = false := by simp; omega
            have i0 : (0 : Int) < N.size := by omega
            have i1 : 0 < N.size := by omega
            have d1 : decide (((N[0]'i1).toNat : Int) < 97) = false := by simp; omega
            have d2 : decide (((N[0]'i1).toNat : Int) > 122) = false := by simp; omega
            have h14 := h14 (N[0]'i1) (by unfold letter; simp; omega)
            generalize sumL (N[0]'i1) (bts A) = V at *
            have C14 := Lib.hid h14
            have C9 := Lib.hid h9
            clear h9 h14 he hwA hA3 HSZ hA hP hN hn2 hn3 hn
            as_aux_lemma =>
            go_wp2_with (first
              | (go_at_call 4; ((with_reducible refine (C4.out _).mono ?_); rintro e wn ⟨rfl, rfl⟩))
              | (go_at_call 5; ((with_reducible refine (C5.out _).mono ?_); rintro e wn ⟨rfl, hbn⟩; replace HB := Lib.hid (HB.out.trans (hbn.mono HB.out.size)); clear hbn))
              | (go_at_call 6; ((with_reducible refine (C6.out _).mono ?_); rintro e wn ⟨rfl, hbn⟩; replace HB := Lib.hid (HB.out.trans (hbn.mono HB.out.size)); clear hbn))
              | (go_at_call 7; ((with_reducible refine (C7.out _).mono ?_); rintro e wn ⟨rfl, hbn⟩; replace HB := Lib.hid (HB.out.trans (hbn.mono HB.out.size)); clear hbn))
              | (go_at_call 8; ((with_reducible refine (C8.out _).mono ?_); rintro e wn ⟨rfl, hbn⟩; replace HB := Lib.hid (HB.out.trans (hbn.mono HB.out.size)); clear hbn))
              | (go_at_call 10; ((with_reducible refine (C10.out _).mono ?_); rintro e wn ⟨rfl, hbn⟩; replace HB := Lib.hid (HB.out.trans (hbn.mono HB.out.size)); clear hbn))
              | (go_at_call 11; ((with_reducible refine (C11.out _).mono ?_); rintro e wn ⟨rfl, hbn⟩; replace HB := Lib.hid (HB.out.trans (hbn.mono HB.out.size)); clear hbn))
              | (go_at_call 12; ((with_reducible refine (C12.out _).mono ?_); rintro e wn ⟨rfl, hbn⟩; replace HB := Lib.hid (HB.out.trans (hbn.mono HB.out.size)); clear hbn))
              | (go_at_call 9; ((with_reducible refine (C9.out _).mono ?_); rintro e wn ⟨rfl, hbn⟩; replace HB := Lib.hid (HB.out.trans (hbn.mono HB.out.size)); clear hbn))
              | (go_at_call 14; ((with_reducible refine (C14.out _).mono ?_); rintro e wn ⟨rfl, hbn⟩; replace HB := Lib.hid (HB.out.trans (hbn.mono HB.out.size)); clear hbn))
              | (go_at_call 15; ((with_reducible refine (C15.out _).mono ?_); rintro e wn ⟨rfl, hbn⟩; replace HB := Lib.hid (HB.out.trans (hbn.mono HB.out.size)); clear hbn)))
            refine (C16.out _).mono ?_
            rintro e wn ⟨bq, oq, cq, rfl, hc1, hc2, hlq, hcq, hbn⟩
            replace HB := Lib.hid (HB.out.trans (hbn.mono HB.out.size)); clear hbn
            go_wp2_with fail
            go_roundw
            case rel => exact ⟨k + 1, TX, PX, ⟨#[98]⟩, by omega, by go_num, rfl, rfl, rfl, HNS, HB⟩
            case measure => simp [intOf]; omega
      · have h8 := fun W => Falls_bad A P W hA he
        have h9 := fun W => Sum_bad A N W hA he
        rw [if_neg he] at h6 h7
        have t1 : (wordErr A != 0) = true := by simpa using he
        generalize wordErr A = E at *
        have C4 := Lib.hid h4
        have C5 := Lib.hid h5
        have C6 := Lib.hid h6
        have C7 := Lib.hid h7
        have C8 := Lib.hid h8
        have C9 := Lib.hid h9
        clear h4 h5 h6 h7 h8 h9 he HSZ hA hP hN
        as_aux_lemma =>
        go_wp2_with (first
          | (go_at_call 4; ((with_reducible refine (C4.out _).mono ?_); rintro e wn ⟨rfl, rfl⟩))
          | (go_at_call 5; ((with_reducible refine (C5.out _).mono ?_); rintro e wn ⟨rfl, hbn⟩; replace HB := Lib.hid (HB.out.trans (hbn.mono HB.out.size)); clear hbn))
          | (go_at_call 6; ((with_reducible refine (C6.out _).mono ?_); rintro e wn ⟨rfl, hbn⟩; replace HB := Lib.hid (HB.out.trans (hbn.mono HB.out.size)); clear hbn))
          | (go_at_call 7; ((with_reducible refine (C7.out _).mono ?_); rintro e wn ⟨rfl, hbn⟩; replace HB := Lib.hid (HB.out.trans (hbn.mono HB.out.size)); clear hbn))
          | (go_at_call 8; ((with_reducible refine (C8.out _).mono ?_); rintro e wn ⟨rfl, hbn⟩; replace HB := Lib.hid (HB.out.trans (hbn.mono HB.out.size)); clear hbn))
          | (go_at_call 9; ((with_reducible refine (C9.out _).mono ?_); rintro e wn ⟨rfl, hbn⟩; replace HB := Lib.hid (HB.out.trans (hbn.mono HB.out.size)); clear hbn))
          | (go_at_call 15; ((with_reducible refine (C15.out _).mono ?_); rintro e wn ⟨rfl, hbn⟩; replace HB := Lib.hid (HB.out.trans (hbn.mono HB.out.size)); clear hbn)))
        refine (C16.out _).mono ?_
        rintro e wn ⟨bq, oq, cq, rfl, hc1, hc2, hlq, hcq, hbn⟩
        replace HB := Lib.hid (HB.out.trans (hbn.mono HB.out.size)); clear hbn
        go_wp2_with fail
        go_roundw
        case rel => exact ⟨k + 1, TX, PX, ⟨#[98]⟩, by omega, by go_num, rfl, rfl, rfl, HNS, HB⟩
        case measure => simp [intOf]; omega
    · obtain rfl : k = 2 := by omega
      go_wp2_with (go_at_call 17; refine (HAW.out _).mono ?_; rintro e w9 ⟨rfl, hb9⟩)
      go_ret
      exact ⟨rfl, HB.out.trans (hb9.mono HB.out.size)⟩
end Go.Proofs.YtjdmmgaddbleeaaGreat
