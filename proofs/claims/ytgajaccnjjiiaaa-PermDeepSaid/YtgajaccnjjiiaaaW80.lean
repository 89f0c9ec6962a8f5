/- PermDeep: the plain law. -/
import Derived.Test.YtgajaccnjjiiaaaW79
import Derived.Test.YtgajaccnjjiiaaaW69
namespace Go.Proofs.Ytgajaccnjjiiaaa
open Go.RowKit

def blocksD (p : List Int) : Nat → Nat → List Int
  | 0, _ => []
  | f + 1, i => if i < p.length then (i : Int) :: blocksD p f (endM p i) else []
theorem blocks_D (p : List Int) : ∀ (f i : Nat), p.length - i ≤ f → blocksFrom p i = blocksD p f i
  | 0, i, h => by rw [blocksFrom, dif_neg (by omega), blocksD]
  | f + 1, i, h => by
    rw [blocksFrom, blocksD]
    by_cases hi : i < p.length
    · have := endTo_lt p i (p.length - (i + 1))
      rw [dif_pos hi, if_pos hi, blocks_D p f (endM p i) (by unfold endM; omega)]
    · rw [dif_neg hi, if_neg hi]
theorem blocksM_D (p : List Int) : blocksM p = blocksD p p.length 0 := blocks_D p _ _ (by omega)
def marksD (p : List Int) : List Int := if (cutsM p true).length = 1 then (if (cutsM p false).length = 1 then blocksD p p.length 0 else cutsM p false) else cutsM p true
def topsD (p : List Int) : List Int := if (cutsM p true).length = 1 then (if (cutsM p false).length = 1 then flatM ((blocksD p p.length 0).map fun i => p[i.toNat]?.getD 0) else []) else []
def treeD : Nat → List Int → TM
  | 0, _ => .mk 0 [] []
  | d + 1, p => if p.length = 1 then .mk 0 [] [] else .mk (kindM p) (topsD p) ((List.range (marksD p).length).map fun k => treeD d (flatM (pieceM p (marksD p) k)))
theorem marks_D (p : List Int) : marksM p = marksD p := by unfold marksM marksD; rw [blocksM_D]
theorem tops_D (p : List Int) : topsM p = topsD p := by unfold topsM topsD pickM; rw [blocksM_D]
theorem tree_D : ∀ (d : Nat) (p : List Int), treeF d p = treeD d p
  | 0, p => rfl
  | d + 1, p => by
    rw [treeF, treeD, marks_D, tops_D, show (fun k => treeF d (flatM (pieceM p (marksD p) k))) = fun k => treeD d (flatM (pieceM p (marksD p) k)) from funext fun k => tree_D d _]

abbrev leafT : TM := .mk 0 [] []
/-- a leaf next to a tree, again and again -/
def chainT : Nat → TM
  | 0 => leafT
  | m + 1 => .mk (1 + ((m + 1) % 2 : Nat)) [] [leafT, chainT m]
def deepT (s : Bool) (m : Nat) : TM := if s then .mk 3 [1, 3, 0, 2] [leafT, chainT m, leafT, leafT] else chainT m

def deepB : Nat → TM → Bool
  | 0, _ => false
  | d + 1, .mk _ _ ps => decide (ps.length ≤ 1000) && ps.all (deepB d)
theorem deepB_narrow : ∀ (d : Nat) (t : TM), deepB d t = true → NarrowAt d t
  | 0, _, h => by simp [deepB] at h
  | d + 1, .mk k p ps, h => by
    rw [deepB, Bool.and_eq_true, List.all_eq_true] at h
    exact ⟨by simpa using h.1, fun t ht => deepB_narrow d t (h.2 t ht)⟩
theorem narrow_deep : ∀ (d : Nat) (t : TM), NarrowAt d t → DeepAt d t
  | 0, _, h => h.elim
  | d + 1, .mk k p ps, h => by rw [DeepAt]; exact fun t ht => narrow_deep d t (h.2 t ht)

def goodB (t : TM) : Bool := deepB 101 t && decide (nodesT 101 t ≤ 1000) && decide ((szR 101 t).2.1 ≤ 1000) && decide ((szR 101 t).2.2 ≤ 100) && decide ((szR 101 t).1 ≤ 60) && canT 101 t && decide (checkM (rfillT 101 t) = 0)
def fillD (t : TM) : Option (List Int) :=
  if sizeT 100 t ≤ 1000 ∧ fitsT 100 t = true then (if checkM (filledT 100 t) = 0 ∧ eqT 61 (treeD 60 (filledT 100 t)) t = true then some (filledT 100 t) else none) else none
theorem fill_D (t : TM) : fillM t = fillD t := by unfold fillM fillD; rw [tree_D]
theorem fill_some {t : TM} {L : List Int} (h : fillM t = some L) : treeF 60 L = t := by
  unfold fillM at h
  split at h
  · split at h
    · rename_i h1 h2
      have := Option.some.inj h
      rw [← this]
      exact eqT_eq _ _ _ h2.2
    · cases h
  · cases h
def caseB (s : Bool) (m : Nat) : Bool :=
  deepB 101 (deepT s (m - 1)) && (if 60 < m + (if s then 3 else 0) then (fillD (deepT s (m - 1))).isNone
    else goodB (deepT s (m - 1)) && decide (fillD (deepT s (m - 1)) = some (rfillT 101 (deepT s (m - 1)))))
structure DeepOk (t : TM) : Prop where
  nodes : nodesT 101 t ≤ 1000
  s1 : (szR 101 t).2.1 ≤ 1000
  s2 : (szR 101 t).2.2 ≤ 100
  s3 : (szR 101 t).1 ≤ 60
  can : canT 101 t = true
  check : checkM (rfillT 101 t) = 0
  fill : fillM t = some (rfillT 101 t)
  tree : treeF 60 (rfillT 101 t) = t
end Go.Proofs.Ytgajaccnjjiiaaa
