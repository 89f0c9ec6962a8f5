/- Slices of integers that still stand while the walk goes on. -/
import Derived.Test.YtgajaccnjjiiaaaW2
namespace Go.Proofs.Ytgajaccnjjiiaaa
open Go.RowKit

/-- rows that still stand, at a world that wrote nothing old -/
def St (w : World) (ps : List (Value × List Int)) (W : World) : Prop := Below w.heap.size w W ∧ ∀ x ∈ ps, Ints W x.1 x.2
theorem St.step {w W W' : World} {ps : List (Value × List Int)} (h : St w ps W) (hb : Below W.heap.size W W') : St w ps W' :=
  ⟨h.1.trans (hb.mono h.1.size), fun x hx => (h.2 x hx).below hb (Nat.le_refl _)⟩
theorem St.drewN {w W : World} {ps : List (Value × List Int)} (h : St w ps W) (n : Nat) : St w ps (W.drewN n) := h.step ((Below.refl _ _).drewN' n)
theorem St.add {w W W' : World} {ps : List (Value × List Int)} (h : St w ps W) (hb : Below W.heap.size W W') {v : Value} {xs : List Int} (hv : Ints W' v xs) : St w ((v, xs) :: ps) W' := by
  refine ⟨(h.step hb).1, fun x hx => ?_⟩
  rcases List.mem_cons.1 hx with rfl | hx
  · exact hv
  · exact (h.step hb).2 x hx
theorem St.one {w : World} {v : Value} {xs : List Int} (h : Ints w v xs) : St w [(v, xs)] w := ⟨Below.refl _ _, fun x hx => by obtain rfl := List.mem_singleton.1 hx; exact h⟩
theorem St.get {w W : World} {ps : List (Value × List Int)} (h : St w ps W) (i : Nat) {x : Value × List Int} (hx : ps[i]? = some x) : Ints W x.1 x.2 := h.2 x (List.mem_of_getElem? hx)
theorem same_self (v u : Value) (xs : List Int) (w : World) (hv : Ints w v xs) (hu : Ints w u xs) :
    Calls Try.prog 17 #[v, u] w fun e w' => e = .returned (.bool true) ∧ Below w.heap.size w w' := by
  refine (same_any v u xs xs w hv hu).mono ?_
  rintro e w' ⟨rfl, n, rfl⟩
  exact ⟨by simp, (Below.refl _ _).drewN' n⟩
end Go.Proofs.Ytgajaccnjjiiaaa
