/- Whether a word is turned into another one: the reference's and the program's walks. -/
import Derived.Test.YtjdmmgaddbleeaaML
import Derived.Test.YtjdmmgaddbleeaaP18
namespace Go.Proofs.Ytjdmmgaddbleeaa
open Go.RowKit

set_option maxRecDepth 100000 in
set_option maxHeartbeats 1000000 in
theorem rIsTurned_any {a b x : List UInt8} (w : World) (ha : isWord a = true) (hb : isWord b = true) (hx : isWord x = true) (hla : a.length ≤ 1000) (hlb : b.length ≤ 1000) (hlx : x.length ≤ 1000) :
    Calls Try.prog 37 #[.string (strB a), .string (strB b), .string (strB x)] w fun e w' => e = .returned (.bool (decide (redW (x ++ a ++ invL x) = redW b))) ∧ Below w.heap.size w w' := by
  have hin := fun W => rInverse_any (strB x) W hx (by rw [size_str]; omega)
  have hsm := fun W => rSame_any (strB x ++ strB a ++ strB (invL x)) (strB b) W (by rw [bts_add, bts_add]; exact isWord_app (isWord_app hx ha) (invL_word hx)) hb (by rw [ByteArray.size_append, ByteArray.size_append, size_str, size_str, size_str, invL_len]; omega) (by rw [size_str]; omega)
  simp only [bts_add, bts_str] at hin hsm
  have z1 : (strB x).size ≤ 1000 := by rw [size_str]; exact hlx
  have z2 : (strB a).size ≤ 1000 := by rw [size_str]; exact hla
  have z3 : (strB (invL x)).size ≤ 1000 := by rw [size_str, invL_len]; exact hlx
  generalize decide (redW (x ++ a ++ invL x) = redW b) = D at *
  generalize strB (invL x) = IX at *
  generalize strB x = X at *
  generalize strB a = A at *
  generalize strB b = B at *
  have n1 : ¬ 9223372036854775807 < X.size + A.size := by omega
  have n2 : ¬ 9223372036854775807 < X.size + A.size + IX.size := by omega
  have HIN := Lib.hid hin
  have HSM := Lib.hid hsm
  clear hin hsm ha hb hx hla hlb hlx
  go_enter Try.func37, Try.ntmps37
  go_wp2_with (first
    | (go_at_call 27; ((with_reducible refine (HIN.out _).mono ?_); rintro e w1 ⟨rfl, hb1⟩))
    | (go_at_call 32; ((with_reducible refine (HSM.out _).mono ?_); rintro e w2 ⟨rfl, hb2⟩)))
  go_ret
  exact ⟨rfl, hb1.trans (hb2.mono hb1.size)⟩

theorem turns_hit {a b : List UInt8} (h : a.length = b.length) {i : Nat} (hi : i ≤ a.length) (he : a.drop i ++ a.take i = b) : turnsB a b = true := by
  unfold turnsB
  rw [decide_eq_true h, Bool.true_and, List.any_eq_true]
  exact ⟨i, by rw [List.mem_range]; omega, by rw [he]; simp⟩
theorem turns_none {a b : List UInt8} (h : ∀ i, i < a.length + 1 → a.drop i ++ a.take i ≠ b) : turnsB a b = false := by
  unfold turnsB
  rw [Bool.and_eq_false_iff]
  right
  rw [List.any_eq_false]
  intro i hi
  rw [List.mem_range] at hi
  simpa using h i hi
theorem turns_size {a b : List UInt8} (h : a.length ≠ b.length) : turnsB a b = false := by
  unfold turnsB
  rw [decide_eq_false h, Bool.false_and]

set_option maxRecDepth 100000 in
set_option maxHeartbeats 2000000 in
theorem rTurns_any (a b : ByteArray) (w : World) (ha : isWord (bts a) = true) (hb : isWord (bts b) = true) (hla : a.size ≤ 1000) (hlb : b.size ≤ 1000) :
    Calls Try.prog 36 #[.string a, .string b] w fun e w' => e = .returned (.bool (turnsB (midL (redW (bts a))) (midL (redW (bts b))))) ∧ Below w.heap.size w w' := by
  have hra := fun W => rReduce_any a W ha (by omega)
  have hrb := fun W => rReduce_any b W hb (by omega)
  have hwu := redW_word ha
  have hwv := redW_word hb
  have hlu := redW_len (bts a)
  have hlv := redW_len (bts b)
  rw [bts_len] at hlu hlv
  generalize redW (bts a) = u at *
  generalize redW (bts b) = v at *
  have hca := fun W => core_any (strB u) W hwu (by rw [size_str]; omega)
  have hcb := fun W => core_any (strB v) W hwv (by rw [size_str]; omega)
  have hma : bts ((strB u).extract (coreN u) ((strB u).size - coreN u)) = midL u := bts_mid (strB u)
  have hmb : bts ((strB v).extract (coreN v) ((strB v).size - coreN v)) = midL v := bts_mid (strB v)
  simp only [bts_str] at hca hcb
  rw [← hma, ← hmb]
  have l1 := mid_len u
  have l2 := mid_len v
  rw [← hma, bts_len] at l1
  rw [← hmb, bts_len] at l2
  clear hma hmb
  generalize (strB u).extract 0 (coreN u) = BU at *
  generalize (strB v).extract 0 (coreN v) = BV at *
  generalize (strB u).extract (coreN u) ((strB u).size - coreN u) = CU at *
  generalize (strB v).extract (coreN v) ((strB v).size - coreN v) = CV at *
  have s1 : CU.size ≤ 1000 := by omega
  have s2 : CV.size ≤ 1000 := by omega
  have HRA := Lib.hid hra
  have HRB := Lib.hid hrb
  have HCA := Lib.hid hca
  have HCB := Lib.hid hcb
  clear hra hrb hca hcb hwu hwv hlu hlv l1 l2 ha hb hla hlb
  by_cases hl : CU.size = CV.size
  · generalize hF : turnsB (bts CU) (bts CV) = F
    have HF := Lib.hid hF
    clear hF
    have hli : ((CU.size : Int) == (CV.size : Int)) = true := by simp [hl]
    go_enter Try.func36, Try.ntmps36
    go_wp2_with (go_at_call 26; ((with_reducible refine (HRA.out _).mono ?_); rintro e w1 ⟨rfl, hb1⟩))
    go_at_call 63
    refine (HCA.out _).mono ?_
    rintro e w2 ⟨rfl, q, rfl⟩
    replace hb1 := hb1.drewN' q
    generalize w1.drewN q = w1' at *
    go_wp2_with (go_at_call 26; ((with_reducible refine (HRB.out _).mono ?_); rintro e w2 ⟨rfl, hb2⟩))
    go_at_call 63
    refine (HCB.out _).mono ?_
    rintro e w3 ⟨rfl, q2, rfl⟩
    have HB := Lib.hid ((hb1.trans (hb2.mono hb1.size)).drewN' q2)
    generalize w2.drewN q2 = w2' at *
    clear hb1 hb2
    go_wp2_with fail
    go_loopw [9] (fun iv wr => ∃ k : Nat, k ≤ CU.size + 1 ∧ iv = .int .i64 k ∧ Hid (∀ i, i < k → (bts CU).drop i ++ (bts CU).take i ≠ bts CV) ∧ Hid (Below w.heap.size w wr)) (fun iv _ => CU.size + 1 - (intOf iv).toNat)
    case atStart => exact ⟨0, by omega, rfl, (show Hid (∀ _, _ → _) from fun i h => by omega), HB⟩
    case round =>
      clear HB
      obtain ⟨k, hk, rfl, HN, HB⟩ := hrel
      by_cases hlt : k ≤ CU.size
      · have hcat : bts (CU.extract k CU.size ++ CU.extract 0 k) = (bts CU).drop k ++ (bts CU).take k := by
          rw [bts_add]
          congr 1
          · simp only [bts, ByteArray.data_extract, Array.toList_extract, List.extract_eq_take_drop]
            exact List.take_of_length_le (by simp)
          · simp [bts, ByteArray.data_extract]
        have hbe : ((CU.extract k CU.size ++ CU.extract 0 k).toList == CV.toList) = decide ((bts CU).drop k ++ (bts CU).take k = bts CV) := by
          rw [ByteArray.toList_eq, ByteArray.toList_eq, Bool.eq_iff_iff, ← hcat]
          simp [bts]
        have hki : (k : Int) ≤ CU.size := by omega
        have n1 : ¬ 9223372036854775807 < (CU.extract k CU.size).size + (CU.extract 0 k).size := by rw [ByteArray.size_extract, ByteArray.size_extract]; omega
        clear hcat
        by_cases he : (bts CU).drop k ++ (bts CU).take k = bts CV
        · have hT := turns_hit (by rw [bts_len, bts_len]; exact hl) (by rw [bts_len]; exact hlt) he
          have HT := Lib.hid (HF.out.symm.trans hT)
          rw [decide_eq_true he, hl] at hbe
          rw [hl] at hki n1
          clear he hT HN
          go_wp2_with fail
          go_quiet (fail)
          go_wp2_with fail
          go_ret
          exact ⟨by rw [HT.out]; rfl, HB.out.drewN' nq⟩
        · have HN2 : Hid (∀ i, i < k + 1 → (bts CU).drop i ++ (bts CU).take i ≠ bts CV) := by
            show ∀ i, _
            intro i hi
            by_cases hik : i = k
            · rw [hik]; exact he
            · exact HN.out i (by omega)
          rw [decide_eq_false he, hl] at hbe
          rw [hl] at hki n1
          clear he HN
          go_wp2_with fail
          go_quiet (fail)
          go_wp2_with fail
          go_roundw
          case rel => exact ⟨k + 1, by omega, by go_num, HN2, HB.out.drewN' nq⟩
          case measure => simp [intOf]; omega
      · obtain rfl : k = CU.size + 1 := by omega
        have hT := turns_none (a := bts CU) (b := bts CV) (by rw [bts_len]; exact HN.out)
        have HT := Lib.hid (HF.out.symm.trans hT)
        clear hT HN
        go_wp2_with fail
        go_ret
        exact ⟨by rw [HT.out]; rfl, HB.out⟩
  · rw [turns_size (by rw [bts_len, bts_len]; exact hl)]
    have hli : ((CU.size : Int) == (CV.size : Int)) = false := by simp; omega
    go_enter Try.func36, Try.ntmps36
    go_wp2_with (go_at_call 26; ((with_reducible refine (HRA.out _).mono ?_); rintro e w1 ⟨rfl, hb1⟩))
    go_at_call 63
    refine (HCA.out _).mono ?_
    rintro e w2 ⟨rfl, q, rfl⟩
    replace hb1 := hb1.drewN' q
    generalize w1.drewN q = w1' at *
    go_wp2_with (go_at_call 26; ((with_reducible refine (HRB.out _).mono ?_); rintro e w2 ⟨rfl, hb2⟩))
    go_at_call 63
    refine (HCB.out _).mono ?_
    rintro e w3 ⟨rfl, q2, rfl⟩
    have HB := Lib.hid ((hb1.trans (hb2.mono hb1.size)).drewN' q2)
    generalize w2.drewN q2 = w2' at *
    clear hb1 hb2
    go_wp2_with fail
    go_ret
    exact ⟨rfl, HB.out⟩
end Go.Proofs.Ytjdmmgaddbleeaa
