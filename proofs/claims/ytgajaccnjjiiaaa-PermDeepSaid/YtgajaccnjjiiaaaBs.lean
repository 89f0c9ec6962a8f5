/- Rows of booleans, by a function. -/
import Derived.Test.YtgajaccnjjiiaaaW6
namespace Go.Proofs.Ytgajaccnjjiiaaa
open Go.RowKit Go.BigFrame

theorem Try.infoB : (Try.prog.info? 4).map (fun i => (i.zero, i.size, i.bytes)) = some (some (.bool false), 1, 1) := by kernel_rfl

def rowBs (n : Nat) (f : Nat → Bool) : List Value := (List.range n).map fun j => .bool (f j)
theorem rowBs_get {n j : Nat} (f : Nat → Bool) (h : j < n) : (rowBs n f)[j]? = some (.bool (f j)) := by simp [rowBs, h]
theorem rowBs_set (n j : Nat) (f : Nat → Bool) (x : Bool) : (rowBs n f).set j (.bool x) = rowBs n (fun i => if i = j then x else f i) := by
  apply List.ext_getElem?
  intro i
  by_cases hi : i < n
  · rw [rowBs_get _ hi]
    by_cases e : j = i
    · subst e
      rw [List.getElem?_set_self (by simp [rowBs]; exact hi), if_pos rfl]
    · rw [List.getElem?_set_ne e, rowBs_get _ hi, if_neg (Ne.symm e)]
  · rw [List.getElem?_eq_none (by simp [rowBs]; omega), List.getElem?_eq_none (by simp [rowBs]; omega)]

theorem rowBs_false (n : Nat) : List.replicate n (Value.bool false) = rowBs n (fun _ => false) := by
  apply List.ext_getElem?
  intro i
  by_cases hi : i < n
  · rw [rowBs_get _ hi, List.getElem?_replicate, if_pos hi]
  · rw [List.getElem?_eq_none (by simp; omega), List.getElem?_eq_none (by simp [rowBs]; omega)]

end Go.Proofs.Ytgajaccnjjiiaaa
