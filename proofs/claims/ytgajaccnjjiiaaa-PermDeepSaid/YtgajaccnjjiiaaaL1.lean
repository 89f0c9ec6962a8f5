/- Plain laws of inverses, codes, ranks: what the program and the reference compute is the same. -/
import Derived.Test.YtgajaccnjjiiaaaW9
namespace Go.Proofs.Ytgajaccnjjiiaaa
open Go.RowKit

theorem list_take_all {α : Type} (l : List α) : l.take l.length = l := List.take_of_length_le (Nat.le_refl _)

/-- the position of each value, as it is stored -/
def posTo (p : List Int) : Nat → List Int
  | 0 => List.replicate p.length 0
  | k + 1 => (posTo p k).set (p[k]?.getD 0).toNat k
def posM (p : List Int) : List Int := posTo p p.length
theorem posTo_len (p : List Int) (k : Nat) : (posTo p k).length = p.length := by
  induction k with
  | zero => simp [posTo]
  | succ k ih => simp [posTo, ih]

/-- how many inversions begin at a place -/
def rowN (p : List Int) (i : Nat) : Nat := (rowTo p i (p.length - (i + 1))).length
def rcTo (p : List Int) (i : Nat) : List Int := (List.range i).map (fun j => ((rowN p j : Nat) : Int))
theorem rcTo_succ (p : List Int) (i : Nat) : rcTo p (i + 1) = rcTo p i ++ [((rowN p i : Nat) : Int)] := by simp [rcTo, List.range_succ]
theorem rcTo_len (p : List Int) (i : Nat) : (rcTo p i).length = i := by simp [rcTo]
theorem countP_rowTo (p : List Int) (i m j : Nat) (h : m ≤ p.length - (i + 1)) : (rowTo p i m).countP (fun x => x.1 == j) = if i = j then (rowTo p i m).length else 0 := by
  by_cases e : i = j
  · subst e
    rw [if_pos rfl, List.countP_eq_length]
    intro x hx
    simp [(rowTo_lt p i m h x hx).1]
  · rw [if_neg e, List.countP_eq_zero]
    intro x hx
    have := (rowTo_lt p i m h x hx).1
    simp [this, e]
theorem countP_invTo (p : List Int) (j : Nat) : ∀ i, i ≤ p.length → (invTo p i).countP (fun x => x.1 == j) = if j < i then rowN p j else 0 := by
  intro i
  induction i with
  | zero => simp [invTo]
  | succ i ih =>
    intro h
    rw [invTo, List.countP_append, ih (by omega), countP_rowTo p i _ j (Nat.le_refl _)]
    by_cases e : i = j
    · subst e
      rw [if_neg (by omega), if_pos rfl, if_pos (by omega), rowN]; omega
    · by_cases e2 : j < i
      · rw [if_pos e2, if_neg e, if_pos (by omega)]; omega
      · rw [if_neg e2, if_neg e, if_neg (by omega)]
theorem rcTo_codeM (p : List Int) : rcTo p p.length = codeM p := by
  unfold rcTo codeM cntL invs
  apply List.map_congr_left
  intro j hj
  rw [countP_invTo p j _ (Nat.le_refl _), if_pos (List.mem_range.1 hj)]
theorem codeM_get (p : List Int) {i : Nat} (h : i < p.length) : (codeM p)[i]? = some ((rowN p i : Nat) : Int) := by
  rw [← rcTo_codeM]; simp [rcTo, h]
theorem codeM_length (p : List Int) : (codeM p).length = p.length := by rw [← rcTo_codeM, rcTo_len]
theorem rowN_lt (p : List Int) {i : Nat} (h : i < p.length) : rowN p i + i + 1 ≤ p.length := by
  have := rowTo_length p i (p.length - (i + 1))
  unfold rowN; omega

def sumTo (c : List Int) : Nat → Int
  | 0 => 0
  | k + 1 => sumTo c k + c[k]?.getD 0
theorem sum_code (p : List Int) : ∀ k, k ≤ p.length → sumTo (codeM p) k = ((invTo p k).length : Nat) := by
  intro k
  induction k with
  | zero => intro _; rfl
  | succ k ih =>
    intro h
    rw [sumTo, ih (by omega), codeM_get p (by omega), invTo, List.length_append]
    simp [rowN]

/-- the factorials -/
def fct : Nat → Nat
  | 0 => 1
  | k + 1 => (k + 1) * fct k
theorem fct_pos (k : Nat) : 0 < fct k := by
  induction k with
  | zero => decide
  | succ k ih => rw [fct]; exact Nat.mul_pos (by omega) ih
theorem fct_le : ∀ k, k < 21 → fct k ≤ 2432902008176640000 := by decide
theorem fct_dvd (k : Nat) : fct k ∣ fct (k + 1) := ⟨k + 1, by rw [fct, Nat.mul_comm]⟩

theorem wrap64_mulL (a b : Int) : wrap64 (wrap64 a * b) = wrap64 (a * b) := by
  have h : ∃ q : Int, wrap64 a = a - 18446744073709551616 * q := ⟨(a + 9223372036854775808) / 18446744073709551616, by unfold wrap64; omega⟩
  obtain ⟨q, hq⟩ := h
  rw [hq, Int.sub_mul, Int.mul_assoc]
  generalize a * b = x
  generalize q * b = y
  unfold wrap64
  omega
theorem wrap64_mulR (a b : Int) : wrap64 (a * wrap64 b) = wrap64 (a * b) := by
  rw [Int.mul_comm, wrap64_mulL, Int.mul_comm]
theorem wrap64_addL (a b : Int) : wrap64 (wrap64 a + b) = wrap64 (a + b) := by unfold wrap64; omega
theorem wrap64_addR (a b : Int) : wrap64 (a + wrap64 b) = wrap64 (a + b) := by unfold wrap64; omega
theorem wrap64_zero : wrap64 0 = 0 := by unfold wrap64; omega

/-- the rank, by the program's steps -/
def hornTo (n : Nat) (c : List Int) : Nat → Int
  | 0 => 0
  | k + 1 => wrap64 (wrap64 (hornTo n c k * ((n : Int) - k)) + c[k]?.getD 0)
/-- the rank, by the reference's steps -/
def rsumTo (n : Nat) (c : List Int) : Nat → Int
  | 0 => 0
  | k + 1 => wrap64 (rsumTo n c k + wrap64 (c[k]?.getD 0 * ((fct (n - 1 - k) : Nat) : Int)))
def hornZ (n : Nat) (c : List Int) : Nat → Int
  | 0 => 0
  | k + 1 => hornZ n c k * ((n : Int) - k) + c[k]?.getD 0
def sumZ (n : Nat) (c : List Int) : Nat → Int
  | 0 => 0
  | k + 1 => sumZ n c k + c[k]?.getD 0 * ((fct (n - 1 - k) : Nat) : Int)
theorem hornTo_wrap (n : Nat) (c : List Int) (k : Nat) : hornTo n c k = wrap64 (hornZ n c k) := by
  induction k with
  | zero => exact wrap64_zero.symm
  | succ k ih => rw [hornTo, ih, wrap64_mulL, wrap64_addL, hornZ]
theorem rsumTo_wrap (n : Nat) (c : List Int) (k : Nat) : rsumTo n c k = wrap64 (sumZ n c k) := by
  induction k with
  | zero => exact wrap64_zero.symm
  | succ k ih => rw [rsumTo, ih, wrap64_addR, wrap64_addL, sumZ]
theorem horn_sum (n : Nat) (c : List Int) : ∀ k, k ≤ n → hornZ n c k * ((fct (n - k) : Nat) : Int) = sumZ n c k := by
  intro k
  induction k with
  | zero => intro _; simp [hornZ, sumZ]
  | succ k ih =>
    intro h
    have h1 := ih (by omega)
    obtain ⟨m, hm⟩ : ∃ m, n - k = m + 1 := ⟨n - k - 1, by omega⟩
    have e1 : n - (k + 1) = m := by omega
    have e2 : n - 1 - k = m := by omega
    have e3 : (n : Int) - k = ((m + 1 : Nat) : Int) := by omega
    rw [hornZ, sumZ, ← h1, hm, e1, e2, e3, fct, Int.add_mul, Int.natCast_mul, Int.mul_assoc]
theorem rank_same (n : Nat) (c : List Int) : hornTo n c n = rsumTo n c n := by
  rw [hornTo_wrap, rsumTo_wrap, ← horn_sum n c n (Nat.le_refl _), Nat.sub_self]
  simp [fct]

/-- the digits of a rank -/
def dgt (r n i : Nat) : Nat := r / fct (n - 1 - i) % (n - i)
def digM (r n : Nat) : List Int := (List.range n).map (fun i => ((dgt r n i : Nat) : Int))
def digTo (r n : Nat) : Nat → List Int
  | 0 => List.replicate n 0
  | m + 1 => (digTo r n m).set (n - 1 - m) ((dgt r n (n - 1 - m) : Nat) : Int)
theorem digTo_len (r n m : Nat) : (digTo r n m).length = n := by
  induction m with
  | zero => simp [digTo]
  | succ m ih => simp [digTo, ih]
theorem digTo_get (r n : Nat) : ∀ m, m ≤ n → ∀ j, j < n → (digTo r n m)[j]? = some (if n - m ≤ j then ((dgt r n j : Nat) : Int) else 0) := by
  intro m
  induction m with
  | zero =>
    intro _ j hj
    rw [if_neg (by omega), digTo, List.getElem?_replicate, if_pos hj]
  | succ m ih =>
    intro h j hj
    rw [digTo]
    by_cases e : n - 1 - m = j
    · subst e
      rw [List.getElem?_set_self (by rw [digTo_len]; exact hj), if_pos (by omega)]
    · rw [List.getElem?_set_ne e, ih (by omega) j hj]
      by_cases e2 : n - m ≤ j
      · rw [if_pos e2, if_pos (by omega)]
      · rw [if_neg e2, if_neg (by omega)]
theorem digTo_all (r n : Nat) : digTo r n n = digM r n := by
  apply List.ext_getElem?
  intro j
  by_cases hj : j < n
  · rw [digTo_get r n n (Nat.le_refl _) j hj, if_pos (by omega)]; simp [digM, hj]
  · rw [List.getElem?_eq_none (by rw [digTo_len]; omega), List.getElem?_eq_none (by simp [digM]; omega)]
theorem digM_len (r n : Nat) : (digM r n).length = n := by simp [digM]
theorem digM_take (r n : Nat) {i : Nat} (h : i < n) : (digM r n).take (i + 1) = (digM r n).take i ++ [((dgt r n i : Nat) : Int)] := by
  have : (digM r n)[i]? = some ((dgt r n i : Nat) : Int) := by simp [digM, h]
  obtain ⟨hl, e⟩ := List.getElem?_eq_some_iff.1 this
  rw [List.take_add_one, this]; rfl
/-- the program's digit -/
theorem dgt_prog (r n m : Nat) (h : m < n) : r / fct m % (m + 1) = dgt r n (n - 1 - m) := by
  unfold dgt
  rw [show n - 1 - (n - 1 - m) = m by omega, show n - (n - 1 - m) = m + 1 by omega]
theorem dgt_next (r m : Nat) : r / fct m / (m + 1) = r / fct (m + 1) := by
  rw [Nat.div_div_eq_div_mul, fct, Nat.mul_comm]
/-- the reference's digit -/
theorem dgt_ref (r n i : Nat) (h : i < n) : r % fct (n - i) / fct (n - 1 - i) = dgt r n i := by
  unfold dgt
  obtain ⟨m, hm⟩ : ∃ m, n - i = m + 1 := ⟨n - i - 1, by omega⟩
  rw [show n - 1 - i = m by omega, hm, fct, Nat.mul_comm, Nat.mod_mul_right_div_self]
theorem dgt_rest (r n i : Nat) (h : i < n) : r % fct (n - i) % fct (n - 1 - i) = r % fct (n - (i + 1)) := by
  obtain ⟨m, hm⟩ : ∃ m, n - i = m + 1 := ⟨n - i - 1, by omega⟩
  rw [show n - 1 - i = m by omega, show n - (i + 1) = m by omega, hm, Nat.mod_mod_of_dvd _ (fct_dvd m)]
theorem dgt_lt (r n i : Nat) (h : i < n) : dgt r n i + i < n := by
  unfold dgt
  have := Nat.mod_lt (r / fct (n - 1 - i)) (y := n - i) (by omega)
  omega

/-- what is a code -/
def Good (c : List Int) : Prop := ∀ (j : Nat) (x : Int), c[j]? = some x → 0 ≤ x ∧ x + j < c.length
theorem good_dig (r n : Nat) : Good (digM r n) := by
  intro j x h
  rw [digM_len]
  by_cases hj : j < n
  · simp [digM, hj] at h
    have := dgt_lt r n j hj
    omega
  · rw [List.getElem?_eq_none (by rw [digM_len]; omega)] at h; cases h
theorem good_code (p : List Int) : Good (codeM p) := by
  intro j x h
  rw [codeM_length]
  by_cases hj : j < p.length
  · rw [codeM_get p hj] at h
    have := rowN_lt p hj
    simp at h
    omega
  · rw [List.getElem?_eq_none (by rw [codeM_length]; omega)] at h; cases h
/-- what is left, and what is out, after some digits -/
def fcTo (c : List Int) : Nat → List Int × List Int
  | 0 => (iota c.length, [])
  | k + 1 => ((fcTo c k).1.eraseIdx (c[k]?.getD 0).toNat, (fcTo c k).2 ++ [(fcTo c k).1[(c[k]?.getD 0).toNat]?.getD 0])
def fcM (c : List Int) : List Int := (fcTo c c.length).2
theorem fcTo_len2 (c : List Int) (k : Nat) : (fcTo c k).2.length = k := by
  induction k with
  | zero => simp [fcTo]
  | succ k ih => simp [fcTo, ih]
theorem fcTo_len1 (c : List Int) : ∀ k, k ≤ c.length → (∀ (j : Nat) (x : Int), j < k → c[j]? = some x → 0 ≤ x ∧ x + j < c.length) → (fcTo c k).1.length = c.length - k := by
  intro k
  induction k with
  | zero => intro _ _; simp [fcTo, iota_len]
  | succ k ih =>
    intro h hg
    have h1 := ih (by omega) (fun j x hj => hg j x (by omega))
    obtain ⟨x, hx⟩ := get_of_lt (zs := c) (k := k) (by omega)
    have := hg k x (by omega) hx
    rw [fcTo, hx]
    simp only [Option.getD_some]
    rw [List.length_eraseIdx, if_pos (by omega), h1]
    omega
/-- what the statement wants of a code -/
def wantTo (c : List Int) : Nat → Int
  | 0 => 0
  | j + 1 => if c[j]?.getD 0 < 0 ∨ ((c.length : Nat) : Int) - j ≤ c[j]?.getD 0 then 1 else wantTo c j
theorem wantTo_good {c : List Int} (h : Good c) : ∀ k, k ≤ c.length → wantTo c k = 0 := by
  intro k
  induction k with
  | zero => intro _; rfl
  | succ k ih =>
    intro hk
    obtain ⟨x, hx⟩ := get_of_lt (zs := c) (k := k) (by omega)
    have := h k x hx
    rw [wantTo, hx, if_neg (by simp; omega), ih (by omega)]
theorem wantTo_bad (c : List Int) : ∀ k, k ≤ c.length → (wantTo c k = 0 ∧ ∀ (j : Nat) (x : Int), j < k → c[j]? = some x → 0 ≤ x ∧ x + j < c.length) ∨ (wantTo c k = 1 ∧ ¬ Good c) := by
  intro k
  induction k with
  | zero => intro _; exact .inl ⟨rfl, fun j x h => by omega⟩
  | succ k ih =>
    intro hk
    obtain ⟨x, hx⟩ := get_of_lt (zs := c) (k := k) (by omega)
    rw [wantTo, hx]
    simp only [Option.getD_some]
    split
    · rename_i hb
      refine .inr ⟨rfl, fun hg => ?_⟩
      have := hg k x hx
      omega
    · rename_i hb
      rcases ih (by omega) with ⟨h1, h2⟩ | h
      · refine .inl ⟨h1, fun j y hj hy => ?_⟩
        by_cases e : j = k
        · subst e
          rw [hx] at hy
          cases hy
          omega
        · exact h2 j y (by omega) hy
      · exact .inr h
theorem wantTo_all (c : List Int) : (wantTo c c.length = 0 ∧ Good c) ∨ (wantTo c c.length = 1 ∧ ¬ Good c) := by
  rcases wantTo_bad c c.length (Nat.le_refl _) with ⟨h1, h2⟩ | h
  · refine .inl ⟨h1, fun j x hx => h2 j x ?_ hx⟩
    exact (List.getElem?_eq_some_iff.1 hx).1
  · exact .inr h
end Go.Proofs.Ytgajaccnjjiiaaa
