/- Plain laws for counting: all permutations of few elements, by their ranks; which have a simple node. -/
import Derived.Test.YtgajaccnjjiiaaaW18
import Derived.Test.YtgajaccnjjiiaaaL1
namespace Go.Proofs.Ytgajaccnjjiiaaa
open Go.RowKit

/-- the blocks, by a number of steps -/
def blocksF : Nat → List Int → Nat → List Int
  | 0, _, _ => []
  | f + 1, p, i => if i < p.length then (i : Int) :: blocksF f p (endM p i) else []
theorem blocksFrom_F : ∀ (f : Nat) (p : List Int) (i : Nat), p.length ≤ i + f → blocksFrom p i = blocksF f p i := by
  intro f
  induction f with
  | zero => intro p i h; rw [blocksFrom, dif_neg (by omega), blocksF]
  | succ f ih =>
    intro p i h
    rw [blocksFrom, blocksF]
    by_cases hi : i < p.length
    · rw [dif_pos hi, if_pos hi, ih p _ (by have := endTo_lt p i (p.length - (i + 1)); unfold endM; omega)]
    · rw [dif_neg hi, if_neg hi]
def blocksK (p : List Int) : List Int := blocksF p.length p 0
theorem blocksM_K (p : List Int) : blocksM p = blocksK p := blocksFrom_F p.length p 0 (by omega)
def marksK (p : List Int) : List Int := if (cutsM p true).length = 1 then (if (cutsM p false).length = 1 then blocksK p else cutsM p false) else cutsM p true
theorem marksM_K (p : List Int) : marksM p = marksK p := by unfold marksM marksK; rw [blocksM_K]

/-- whether a tree has a simple node, down to a level -/
def simpleF : Nat → TM → Bool
  | 0, _ => false
  | d + 1, .mk k _ parts => k == 3 || parts.any (simpleF d)
/-- how deep a tree is -/
def DeepAt : Nat → TM → Prop
  | 0, _ => False
  | d + 1, .mk _ _ parts => ∀ t ∈ parts, DeepAt d t
theorem deep_treeF : ∀ (d : Nat) (p : List Int), DeepAt (d + 1) (treeF d p) := by
  intro d
  induction d with
  | zero => intro p; rw [treeF, DeepAt]; intro t h; simp at h
  | succ d ih =>
    intro p
    rw [treeF]
    split
    · rw [DeepAt]; intro t h; simp at h
    · rw [DeepAt]
      intro t h
      rw [List.mem_map] at h
      obtain ⟨k, _, rfl⟩ := h
      exact ih _
/-- whether the tree of a permutation has a simple node, without the tree -/
def simK : Nat → List Int → Bool
  | 0, _ => false
  | d + 1, p => if p.length = 1 then false else (kindM p == 3) || (List.range (marksK p).length).any (fun k => simK d (flatM (pieceM p (marksK p) k)))
theorem simple_K : ∀ (d : Nat) (p : List Int), simpleF (d + 1) (treeF d p) = simK d p := by
  intro d
  induction d with
  | zero => intro p; rw [treeF, simK, simpleF]; rfl
  | succ d ih =>
    intro p
    rw [treeF, simK]
    split
    · rw [simpleF]; rfl
    · rw [simpleF, List.any_map, marksM_K]
      congr 2
      funext k
      exact ih _

/-- the permutation of a rank -/
def permAt (k r : Nat) : List Int := fcM (digM r k)
def okK (k : Nat) : Bool := (List.range (fct k)).all fun r => checkM (permAt k r) == 0 && (permAt k r).length == k && hornTo k (codeM (permAt k r)) k == (r : Int)
def cntB (k r : Nat) : Nat := (List.range r).countP fun r => (bxFind (permAt k r)).isNone
def cntS (k r : Nat) : Nat := (List.range r).countP fun r => !simK 60 (permAt k r)
theorem counts_all : ∀ k, k < 6 → 0 < k → okK k = true ∧ ((cntB k (fct k) : Nat) : Int) = bxTo k k ∧ ((cntS k (fct k) : Nat) : Int) = (cntTo (k - 1))[k]?.getD 0 := by decide +kernel
theorem okK_at {k r : Nat} (h : okK k = true) (hr : r < fct k) : checkM (permAt k r) = 0 ∧ (permAt k r).length = k ∧ hornTo k (codeM (permAt k r)) k = (r : Int) := by
  unfold okK at h
  rw [List.all_eq_true] at h
  have := h r (List.mem_range.2 hr)
  simp only [Bool.and_eq_true, beq_iff_eq] at this
  exact ⟨this.1.1, this.1.2, this.2⟩
theorem cntB_succ (k r : Nat) : cntB k (r + 1) = cntB k r + if (bxFind (permAt k r)).isNone then 1 else 0 := by
  unfold cntB; rw [List.range_succ, List.countP_append]; simp [List.countP_cons]
theorem cntS_succ (k r : Nat) : cntS k (r + 1) = cntS k r + if simK 60 (permAt k r) then 0 else 1 := by
  unfold cntS; rw [List.range_succ, List.countP_append]
  cases hs : simK 60 (permAt k r) <;> simp [hs]
theorem cntB_le (k r : Nat) : cntB k r ≤ r := by have := List.countP_le_length (p := fun r => (bxFind (permAt k r)).isNone) (l := List.range r); simpa [cntB] using this
theorem cntS_le (k r : Nat) : cntS k r ≤ r := by have := List.countP_le_length (p := fun r => !simK 60 (permAt k r)) (l := List.range r); simpa [cntS] using this
end Go.Proofs.Ytgajaccnjjiiaaa
