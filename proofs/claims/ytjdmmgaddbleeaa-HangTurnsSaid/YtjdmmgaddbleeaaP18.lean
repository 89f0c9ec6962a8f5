/- Plain law of HangTurns: what Turned answers is right. -/
import Derived.Test.YtjdmmgaddbleeaaML
import Derived.Lib.IndexMore
namespace Go.Proofs.Ytjdmmgaddbleeaa
open Go.RowKit

/-- what Turned answers for two reduced words -/
def turnedR (u v : List UInt8) : List UInt8 × Bool :=
  if byL u = byL v ∧ midL u = midL v then ([], true)
  else if (midL u).length ≠ (midL v).length then ([], false)
  else if Lib.index (midL u ++ midL u) (midL v) < 0 then ([], false)
  else (redW (byL v ++ invL ((midL u).take (Lib.index (midL u ++ midL u) (midL v)).toNat) ++ invL (byL u)), true)
/-- two words are the same round -/
def turnsB (a b : List UInt8) : Bool := decide (a.length = b.length) && (List.range (a.length + 1)).any fun i => decide (a.drop i ++ a.take i = b)

theorem occ_round {a b : List UInt8} (h : a.length = b.length) {i : Nat} (hi : i ≤ a.length) : Lib.occAt (a ++ a) b i = decide (a.drop i ++ a.take i = b) := by
  unfold Lib.occAt
  rw [List.drop_append_of_le_length hi, Bool.eq_iff_iff, List.isPrefixOf_iff_prefix, decide_eq_true_iff, List.prefix_iff_eq_take, ← h]
  have e : (a.drop i ++ a).take a.length = a.drop i ++ a.take i := by
    rw [List.take_append, List.take_of_length_le (by simp), List.length_drop, show a.length - (a.length - i) = i by omega]
  rw [e]
  exact ⟨fun h => h.symm, fun h => h.symm⟩

theorem turn_round (B D t r : List UInt8) : Eqv (D ++ invL t ++ invL B ++ (B ++ (t ++ r) ++ invL B) ++ invL (D ++ invL t ++ invL B)) (D ++ (r ++ t) ++ invL D) := by
  rw [invL_app, invL_app, invL_inv, invL_inv]
  have h1 := Eqv.drop_mid (Eqv.inv_left B) (D ++ invL t) ((t ++ r) ++ (invL B ++ (B ++ (t ++ invL D))))
  have h2 := Eqv.drop_mid (Eqv.inv_left t) D (r ++ (invL B ++ (B ++ (t ++ invL D))))
  have h3 := Eqv.drop_mid (Eqv.inv_left B) (D ++ r) (t ++ invL D)
  simp only [List.append_assoc] at *
  exact h1.trans (h2.trans h3)

theorem turned_ok {u v : List UInt8} (hv : Rd v) : (turnedR u v).2 = turnsB (midL u) (midL v) ∧ Rd (turnedR u v).1 ∧ ((turnedR u v).2 = true → redW ((turnedR u v).1 ++ u ++ invL (turnedR u v).1) = v) ∧ ((turnedR u v).2 = false → (turnedR u v).1 = []) ∧ (turnedR u v).1.length ≤ u.length + v.length := by
  have su := split_core u
  have sv := split_core v
  have hlb := congrArg List.length su
  have hlv := congrArg List.length sv
  simp only [List.length_append] at hlb hlv
  unfold turnedR
  by_cases h1 : byL u = byL v ∧ midL u = midL v
  · rw [if_pos h1]
    refine ⟨?_, .nil, fun _ => ?_, fun h => (by cases h), by simp⟩
    · symm
      unfold turnsB
      rw [h1.2, decide_eq_true rfl, Bool.true_and, List.any_eq_true]
      exact ⟨0, by simp, by simp⟩
    · show redW ([] ++ u ++ []) = v
      rw [List.nil_append, List.append_nil, su, h1.1, h1.2, ← sv]
      exact redW_self hv
  rw [if_neg h1]
  by_cases h2 : (midL u).length ≠ (midL v).length
  · rw [if_pos h2]
    refine ⟨?_, .nil, fun h => (by cases h), fun _ => rfl, by simp⟩
    unfold turnsB
    rw [decide_eq_false h2, Bool.false_and]
  rw [if_neg h2]
  have h2' : (midL u).length = (midL v).length := by omega
  rcases Lib.index_spec (midL u ++ midL u) (midL v) with ⟨h3, h4⟩ | ⟨i, h3, h4, h5, h6⟩
  · rw [h3, if_pos (by omega)]
    refine ⟨?_, .nil, fun h => (by cases h), fun _ => rfl, by simp⟩
    symm
    unfold turnsB
    rw [Bool.and_eq_false_iff]
    right
    rw [List.any_eq_false]
    intro i hi
    rw [List.mem_range] at hi
    rw [← occ_round h2' (by omega), h4 i (by simp; omega)]
    simp
  · have h7 := Lib.index_room (midL u ++ midL u) (midL v) (by rw [h3]; omega)
    rw [h3, List.length_append] at h7
    have hi : i ≤ (midL u).length := by omega
    rw [occ_round h2' hi, decide_eq_true_iff] at h5
    rw [h3, if_neg (by omega), show ((i : Int)).toNat = i by omega]
    refine ⟨?_, redW_rd _, fun _ => ?_, fun h => (by cases h), ?_⟩
    · symm
      unfold turnsB
      rw [decide_eq_true h2', Bool.true_and, List.any_eq_true]
      exact ⟨i, by rw [List.mem_range]; omega, by rw [h5]; simp⟩
    · show redW (redW (byL v ++ invL ((midL u).take i) ++ invL (byL u)) ++ u ++ invL (redW (byL v ++ invL ((midL u).take i) ++ invL (byL u)))) = v
      have e1 : Eqv (redW (byL v ++ invL ((midL u).take i) ++ invL (byL u)) ++ u ++ invL (redW (byL v ++ invL ((midL u).take i) ++ invL (byL u)))) (byL v ++ invL ((midL u).take i) ++ invL (byL u) ++ u ++ invL (byL v ++ invL ((midL u).take i) ++ invL (byL u))) :=
        ((Eqv.red _).right u).app (Eqv.red _).inv
      have e2 := turn_round (byL u) (byL v) ((midL u).take i) ((midL u).drop i)
      rw [List.take_append_drop, ← su, h5, ← sv] at e2
      have := e1.trans e2
      unfold Eqv at this
      rw [this, redW_self hv]
    · refine Nat.le_trans (redW_len _) ?_
      simp only [List.length_append, invL_len, List.length_take]
      omega
end Go.Proofs.Ytjdmmgaddbleeaa
