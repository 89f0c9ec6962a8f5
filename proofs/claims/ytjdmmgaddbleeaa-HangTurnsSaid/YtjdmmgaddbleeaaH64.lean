/- HangCommutes: what the calls of one round answer. -/
import Derived.Test.YtjdmmgaddbleeaaML
import Derived.Test.YtjdmmgaddbleeaaMJ
namespace Go.Proofs.Ytjdmmgaddbleeaa
open Go.RowKit

theorem mid_word {l : List UInt8} (h : isWord l = true) : isWord (midL l) = true := isWord_sub h fun _ hc => List.mem_of_mem_drop (List.mem_of_mem_take hc)
theorem by_word {l : List UInt8} (h : isWord l = true) : isWord (byL l) = true := isWord_sub h fun _ hc => List.mem_of_mem_take hc
theorem root_word {l : List UInt8} (h : isWord l = true) : isWord (rootW l) = true := by
  unfold rootW
  exact redW_word (isWord_app (isWord_app (by_word h) (isWord_sub (mid_word h) fun _ hc => List.mem_of_mem_take hc)) (invL_word (by_word h)))
theorem root_len (l : List UInt8) : (rootW l).length ≤ l.length := by
  unfold rootW
  refine Nat.le_trans (redW_len _) ?_
  have h1 := (coreN_ok l).1
  have h2 := mid_len l
  simp only [List.length_append, invL_len, List.length_take]
  unfold byL
  rw [List.length_take]
  omega
theorem commR_root (u v : List UInt8) : ((commR u v).1 = [] ∨ (commR u v).1 = rootW u ∨ (commR u v).1 = rootW v) ∧ ((commR u v).2.1 = 0 ∨ (commR u v).2.1 = rootN u) ∧ ((commR u v).2.2.1 = 0 ∨ (commR u v).2.2.1 = rootN v ∨ (commR u v).2.2.1 = -(rootN v : Int)) := by
  unfold commR
  split
  · exact ⟨.inl rfl, .inl rfl, .inl rfl⟩
  split
  · exact ⟨.inl rfl, .inl rfl, .inl rfl⟩
  split
  · exact ⟨.inr (.inr rfl), .inl rfl, .inr (.inl rfl)⟩
  split
  · exact ⟨.inr (.inl rfl), .inr rfl, .inl rfl⟩
  · refine ⟨.inr (.inl rfl), .inr rfl, ?_⟩
    by_cases h : rootW v = rootW u
    · exact .inr (.inl (by simp [h]))
    · exact .inr (.inr (by simp [h]))
theorem commR_size {u v : List UInt8} (hu : isWord u = true) (hv : isWord v = true) (hlu : u.length ≤ 100) (hlv : v.length ≤ 100) :
    isWord (commR u v).1 = true ∧ (commR u v).1.length ≤ 100 ∧ (commR u v).2.1.natAbs ≤ 1000 ∧ (commR u v).2.2.1.natAbs ≤ 1000 := by
  obtain ⟨h1, h2, h3⟩ := commR_root u v
  have l1 := rootN_le (l := u) (by omega)
  have l2 := rootN_le (l := v) (by omega)
  have r1 := root_len u
  have r2 := root_len v
  refine ⟨?_, ?_, ?_, ?_⟩
  · rcases h1 with h | h | h <;> rw [h]
    · rfl
    · exact root_word hu
    · exact root_word hv
  · rcases h1 with h | h | h <;> rw [h]
    · simp
    · omega
    · omega
  · rcases h2 with h | h <;> rw [h] <;> omega
  · rcases h3 with h | h | h <;> rw [h] <;> omega

/-- one round's calls -/
theorem comm_facts {a b : List UInt8} (ha : isWord a = true) (hb : isWord b = true) (hla : a.length ≤ 100) (hlb : b.length ≤ 100) :
    ∃ (R : ByteArray) (m p : Int) (ok : Bool),
      (∀ W, Calls Try.prog 29 #[.string (strB a), .string (strB b)] W fun e w' => e = .returned (.tuple #[.string R, .int .i64 m, .int .i64 p, .bool ok, .int .i64 0]) ∧ Below W.heap.size W w') ∧
      (∀ W, Calls Try.prog 32 #[.string (strB a ++ strB b), .string (strB b ++ strB a)] W fun e w' => e = .returned (.bool ok) ∧ Below W.heap.size W w') ∧
      (ok = true → ∃ PA PB : ByteArray,
        (∀ W, Calls Try.prog 31 #[.string R, .int .i64 m] W fun e w' => e = .returned (.string PA) ∧ Below W.heap.size W w') ∧
        (∀ W, Calls Try.prog 32 #[.string (strB a), .string PA] W fun e w' => e = .returned (.bool true) ∧ Below W.heap.size W w') ∧
        (∀ W, Calls Try.prog 31 #[.string R, .int .i64 p] W fun e w' => e = .returned (.string PB) ∧ Below W.heap.size W w') ∧
        (∀ W, Calls Try.prog 32 #[.string (strB b), .string PB] W fun e w' => e = .returned (.bool true) ∧ Below W.heap.size W w') ∧
        (R = ⟨#[]⟩ ∨ ((R.toList == []) = false ∧ R.toList.isEmpty = false) ∧ ∀ W, Calls Try.prog 24 #[.string R] W fun e w' => e = .returned (.tuple #[.string R, .int .i64 1, .int .i64 0]) ∧ Below W.heap.size W w')) := by
  have za := word_zero ha (by omega)
  have zb := word_zero hb (by omega)
  have h29 := fun W => Commute_any (strB a) (strB b) W za zb (by rw [size_str]; omega) (by rw [size_str]; omega)
  have hwu := redW_word ha
  have hwv := redW_word hb
  have hlu := redW_len a
  have hlv := redW_len b
  obtain ⟨s1, s2, s3, s4⟩ := commR_size hwu hwv (by omega) (by omega)
  obtain ⟨k1, k2⟩ := commR_ok (redW_rd a) (redW_rd b)
  rw [redW_left, redW_right, redW_left, redW_right] at k1
  have hsm := fun W => rSame_any (strB a ++ strB b) (strB b ++ strB a) W (by rw [bts_add]; exact isWord_app ha hb) (by rw [bts_add]; exact isWord_app hb ha) (by rw [ByteArray.size_append, size_str, size_str]; omega) (by rw [ByteArray.size_append, size_str, size_str]; omega)
  simp only [bts_add, bts_str] at hsm
  rw [← k1] at hsm
  simp only [bts_str] at h29
  unfold tup5 at h29
  generalize hcr : commR (redW a) (redW b) = cr at *
  obtain ⟨r, m, p, ok⟩ := cr
  simp only at h29 hsm s1 s2 s3 s4 k2
  refine ⟨strB r, m, p, ok, h29, hsm, fun ho => ?_⟩
  obtain ⟨k3, k4, k5⟩ := k2 ho
  have q1 := powZ_len r m
  have q2 := powZ_len r p
  have m1 : m.natAbs * r.length ≤ 1000 * 100 := Nat.mul_le_mul s3 s2
  have m2 : p.natAbs * r.length ≤ 1000 * 100 := Nat.mul_le_mul s4 s2
  refine ⟨strB (powZ r m), strB (powZ r p), fun W => rPower_any (strB r) m W s1 s3 (by rw [size_str]; omega), fun W => ?_, fun W => rPower_any (strB r) p W s1 s4 (by rw [size_str]; omega), fun W => ?_, ?_⟩
  · have := rSame_any (strB a) (strB (powZ r m)) W ha (powZ_word s1 m) (by rw [size_str]; omega) (by rw [size_str]; omega)
    rw [bts_str, bts_str, k3, decide_eq_true rfl] at this
    exact this
  · have := rSame_any (strB b) (strB (powZ r p)) W hb (powZ_word s1 p) (by rw [size_str]; omega) (by rw [size_str]; omega)
    rw [bts_str, bts_str, k4, decide_eq_true rfl] at this
    exact this
  · by_cases hr : r = []
    · left; rw [hr]
    · right
      obtain ⟨k6, k7, k8⟩ := k5 hr
      refine ⟨str_ne hr, fun W => ?_⟩
      have := Root_any (strB r) W (word_zero s1 (by omega)) (by rw [bts_str, redW_self k8]; exact hr)
      rw [bts_str, redW_self k8, k6, k7] at this
      exact this
/-- the words of the next round -/
theorem comm_next {a : List UInt8} (ha : isWord a = true) (hla : a.length ≤ 100) (n : Int) (hn : n.natAbs ≤ 3) :
    isWord (powZ a n) = true ∧ (powZ a n).length ≤ 3 * a.length ∧ ∀ W, Calls Try.prog 31 #[.string (strB a), .int .i64 n] W fun e w' => e = .returned (.string (strB (powZ a n))) ∧ Below W.heap.size W w' := by
  refine ⟨powZ_word ha n, ?_, fun W => rPower_any (strB a) n W ha (by omega) (by rw [size_str]; omega)⟩
  rw [powZ_len]
  exact Nat.mul_le_mul_right _ hn
/-- the falls of one round -/
theorem comm_fall3 {a b : List UInt8} (z : Int) (ha : isWord a = true) (hb : isWord b = true) (hla : a.length ≤ 100) (hlb : b.length ≤ 100) :
    ∃ (N IA IB : ByteArray) (c d y : Bool), ((c || d) = true → y = true) ∧ IA.size ≤ 100 ∧ IB.size ≤ 100 ∧
      (∀ W, Calls Try.prog 27 #[.string (strB a)] W fun e w' => e = .returned (.string IA) ∧ Below W.heap.size W w') ∧
      (∀ W, Calls Try.prog 27 #[.string (strB b)] W fun e w' => e = .returned (.string IB) ∧ Below W.heap.size W w') ∧
      (∀ W : World, Calls Try.prog 18 #[.slice (some ⟨W.heap.size, 0, none⟩) 1 1, .int .i64 1, .int .i64 2, .bool true] (W.alloc (.cells #[.int .i64 z] 3)) fun e w' =>
        ∃ b o c, e = .returned (.slice (some ⟨b, o, none⟩) 1 c) ∧ 1 ≤ c ∧ c ≤ 9223372036854775807 ∧ b < w'.heap.size ∧ w'.cell? ⟨b, o, none⟩ = some (.string N) ∧ Below W.heap.size W w') ∧
      (∀ W, Calls Try.prog 25 #[.string (strB a), .string N] W fun e w' => e = .returned (.tuple #[.bool c, .int .i64 0]) ∧ Below W.heap.size W w') ∧
      (∀ W, Calls Try.prog 25 #[.string (strB b), .string N] W fun e w' => e = .returned (.tuple #[.bool d, .int .i64 0]) ∧ Below W.heap.size W w') ∧
      (∀ W, Calls Try.prog 25 #[.string (strB a ++ strB b ++ IA ++ IB), .string N] W fun e w' => e = .returned (.tuple #[.bool y, .int .i64 0]) ∧ Below W.heap.size W w') := by
  have hset := setI_set (n := 2) (by omega) true z
  have hsl := setI_len 2 true z
  have hnz : (strB (setI 2 true z)).size ≤ 9223372036854775807 := by rw [size_str]; omega
  have hwx : isWord (a ++ b ++ invL a ++ invL b) = true := isWord_app (isWord_app (isWord_app ha hb) (invL_word ha)) (invL_word hb)
  have zx := word_zero hwx (by simp only [List.length_append, invL_len]; omega)
  have e : strB (a ++ b ++ invL a ++ invL b) = strB a ++ strB b ++ strB (invL a) ++ strB (invL b) := by rw [strB_app, strB_app, strB_app]
  refine ⟨strB (setI 2 true z), strB (invL a), strB (invL b), fallsP a (setI 2 true z), fallsP b (setI 2 true z), fallsP (a ++ b ++ invL a ++ invL b) (setI 2 true z), fun h => falls_comm (by simpa using h), ?_, ?_,
    fun W => rInverse_any (strB a) W ha (by rw [size_str]; omega), fun W => rInverse_any (strB b) W hb (by rw [size_str]; omega), fun W => sets_one z 2 true W (by omega),
    fun W => Falls_any (strB a) _ W hnz (word_zero ha (by omega)) hset, fun W => Falls_any (strB b) _ W hnz (word_zero hb (by omega)) hset, fun W => ?_⟩
  · rw [size_str, invL_len]; exact hla
  · rw [size_str, invL_len]; exact hlb
  · rw [← e]
    exact Falls_any _ _ W hnz zx hset
end Go.Proofs.Ytjdmmgaddbleeaa
