/- PermDeep: the walk. -/
import Derived.Test.YtgajaccnjjiiaaaW80
import Derived.Test.YtgajaccnjjiiaaaW17
namespace Go.Proofs.Ytgajaccnjjiiaaa
open Go.RowKit

theorem TreeAt.here {w : World} {ok : Nat → Prop} {v : Value} {t : TM} (h : TreeAt w ok v t) : TreeAt w (fun b => b < w.heap.size) v t := h.kept (Nat.le_refl _) fun _ _ hlt => ⟨hlt, rfl⟩
theorem leaf_at (w : World) (ok : Nat → Prop) : TreeAt w ok (.agg #[.int .i64 0, .slice none 0 0, .slice none 0 0]) leafT :=
  TreeAt.mk 0 _ [] none 0 0 [] (fun _ => (0, .slice none 0 0, .slice none 0 0)) (Ints.nil w) (fun b hb => by rw [ob_nil] at hb; cases hb) rfl (by omega) (by omega) (by omega) (by simp)
theorem TreeAt.node {W : World} {ok : Nat → Prop} {k : Int} {pv : Value} {perm : List Int} {cs : List (Int × Value × Value)} {ts : List TM} {g : Nat} {e : TypeId} (hp : Ints W pv perm) (hpo : ∀ b, pv.ownBlock = some b → 0 < perm.length → ok b) (hg : ok g)
    (hb : Blk W g e (cells3 cs)) (hl : cs.length = ts.length) (hs : ts.length ≤ 1000) (ht : ∀ (j : Nat) (c : Int × Value × Value) (t : TM), cs[j]? = some c → ts[j]? = some t → TreeAt W ok (.agg #[.int .i64 c.1, c.2.1, c.2.2]) t) :
    TreeAt W ok (.agg #[.int .i64 k, pv, .slice (some ⟨g, 0, none⟩) ts.length ts.length]) (.mk k perm ts) := by
  refine TreeAt.mk k pv perm _ _ _ ts (fun j => cs[j]?.getD (0, .slice none 0 0, .slice none 0 0)) hp hpo rfl (Nat.le_refl _) (by omega) (fun _ => ⟨g, 0, rfl, hb.lt, hg, fun j hj => ?_⟩) (fun j t hj => ?_)
  · have hc : cs[j]? = some cs[j] := List.getElem?_eq_getElem (by omega)
    obtain ⟨c1, c2, c3⟩ := cells3_get hc
    rw [hc, Nat.zero_add]
    exact ⟨hb.cell c1, hb.cell c2, hb.cell c3⟩
  · have hlt := (List.getElem?_eq_some_iff.1 hj).1
    have hc : cs[j]? = some cs[j] := List.getElem?_eq_getElem (by omega)
    have := ht j _ t hc hj
    rw [hc]
    exact this

/-- the law's tree, in its cell -/
structure DS (w W : World) (k : Int) (pv tv : Value) (t : TM) : Prop where
  blk : Blk W w.heap.size 65 [.int .i64 k, pv, tv]
  tree : TreeAt W (fun b => w.heap.size < b) (.agg #[.int .i64 k, pv, tv]) t
  below : Below w.heap.size w W
theorem tree_sets {W : World} {H : Nat} {v : Value} {t : TM} (h : TreeAt W (fun b => H < b) v t) (x y z : Value) :
    TreeAt (((W.setCell ⟨H, 0, none⟩ x).setCell ⟨H, 1, none⟩ y).setCell ⟨H, 2, none⟩ z) (fun b => H < b) v t :=
  h.kept (by simp [World.setCell]) fun b hb _ => by
    refine ⟨hb, ?_⟩
    rw [Below.heap_setCell _ _ _ _ (by simp; omega), Below.heap_setCell _ _ _ _ (by simp; omega), Below.heap_setCell _ _ _ _ (by simp; omega)]
/-- the cell written -/
abbrev setT (W : World) (H : Nat) (k : Int) (pv tv : Value) : World := ((W.setCell ⟨H, 0, none⟩ (.int .i64 k)).setCell ⟨H, 1, none⟩ pv).setCell ⟨H, 2, none⟩ tv
theorem setT_size (W : World) (H : Nat) (k : Int) (pv tv : Value) : (setT W H k pv tv).heap.size = W.heap.size := by simp [World.setCell]
theorem DS.sets {w W : World} {k k' : Int} {pv tv pv' tv' : Value} {t : TM} (h : DS w W k pv tv t) :
    Blk (setT W w.heap.size k' pv' tv') w.heap.size 65 [.int .i64 k', pv', tv'] ∧ TreeAt (setT W w.heap.size k' pv' tv') (fun b => w.heap.size < b) (.agg #[.int .i64 k, pv, tv]) t ∧ Below w.heap.size w (setT W w.heap.size k' pv' tv') :=
  ⟨by simpa using ((h.blk.set 0 (.int .i64 k')).set 1 pv').set 2 tv', tree_sets h.tree _ _ _, ((h.below.setCell (p := ⟨w.heap.size, 0, none⟩) (by simp) _).setCell (p := ⟨w.heap.size, 1, none⟩) (by simp) _).setCell (p := ⟨w.heap.size, 2, none⟩) (by simp) _⟩
theorem DS.step {w W : World} {k : Int} {pv tv : Value} {t : TM} (h : DS w W k pv tv t) (k' : Int) :
    DS w ((setT W w.heap.size k' (.slice none 0 0) (.slice (some ⟨W.heap.size, 0, none⟩) 2 2)).alloc (.cells #[.int .i64 0, .slice none 0 0, .slice none 0 0, .int .i64 k, pv, tv] 65)) k' (.slice none 0 0) (.slice (some ⟨W.heap.size, 0, none⟩) 2 2) (.mk k' [] [leafT, t]) := by
  have hlt := h.blk.lt
  obtain ⟨b1, t1, B1⟩ := h.sets (k' := k') (pv' := .slice none 0 0) (tv' := .slice (some ⟨W.heap.size, 0, none⟩) 2 2)
  have hz := setT_size W w.heap.size k' (.slice none 0 0) (.slice (some ⟨W.heap.size, 0, none⟩) 2 2)
  generalize setT W w.heap.size k' (.slice none 0 0) (.slice (some ⟨W.heap.size, 0, none⟩) 2 2) = W' at *
  rw [← hz] at hlt b1 ⊢
  refine ⟨b1.alloc _, ?_, B1.alloc B1.size _⟩
  refine TreeAt.node (cs := [(0, .slice none 0 0, .slice none 0 0), (k, pv, tv)]) (ts := [leafT, t]) (e := 65) (Ints.nil _) (fun b hb => by rw [ob_nil] at hb; cases hb) hlt (Blk.new W' 65 _) rfl (by simp) ?_
  intro j c t' hc ht'
  match j, hc, ht' with
  | 0, hc, ht' => simp at hc ht'; subst hc; subst ht'; exact leaf_at _ _
  | 1, hc, ht' => simp at hc ht'; subst hc; subst ht'; exact t1.keep ((Below.refl W'.heap.size W').alloc (Nat.le_refl _) _)
  | j + 2, hc, ht' => simp at hc
theorem DS.simple {w W : World} {k : Int} {pv tv : Value} {t : TM} (h : DS w W k pv tv t) :
    DS w (((setT W w.heap.size 3 (.slice (some ⟨W.heap.size, 0, none⟩) 4 4) (.slice (some ⟨W.heap.size + 1, 0, none⟩) 4 4)).alloc (.cells #[.int .i64 1, .int .i64 3, .int .i64 0, .int .i64 2] 3)).alloc (.cells #[.int .i64 0, .slice none 0 0, .slice none 0 0, .int .i64 k, pv, tv, .int .i64 0, .slice none 0 0, .slice none 0 0, .int .i64 0, .slice none 0 0, .slice none 0 0] 65)) 3 (.slice (some ⟨W.heap.size, 0, none⟩) 4 4) (.slice (some ⟨W.heap.size + 1, 0, none⟩) 4 4) (.mk 3 [1, 3, 0, 2] [leafT, t, leafT, leafT]) := by
  have hlt := h.blk.lt
  obtain ⟨b1, t1, B1⟩ := h.sets (k' := 3) (pv' := .slice (some ⟨W.heap.size, 0, none⟩) 4 4) (tv' := .slice (some ⟨W.heap.size + 1, 0, none⟩) 4 4)
  have hz := setT_size W w.heap.size 3 (.slice (some ⟨W.heap.size, 0, none⟩) 4 4) (.slice (some ⟨W.heap.size + 1, 0, none⟩) 4 4)
  generalize setT W w.heap.size 3 (.slice (some ⟨W.heap.size, 0, none⟩) 4 4) (.slice (some ⟨W.heap.size + 1, 0, none⟩) 4 4) = W' at *
  rw [← hz] at hlt b1 ⊢
  have hp : Ints (W'.alloc (.cells #[.int .i64 1, .int .i64 3, .int .i64 0, .int .i64 2] 3)) (.slice (some ⟨W'.heap.size, 0, none⟩) 4 4) [1, 3, 0, 2] := Ints.lit W' 3 [1, 3, 0, 2] (by simp)
  have hb0 := (Below.refl W'.heap.size W').alloc (Nat.le_refl _) (.cells #[.int .i64 1, .int .i64 3, .int .i64 0, .int .i64 2] 3)
  have hb1 := hb0.alloc (by simp) (.cells #[.int .i64 0, .slice none 0 0, .slice none 0 0, .int .i64 k, pv, tv, .int .i64 0, .slice none 0 0, .slice none 0 0, .int .i64 0, .slice none 0 0, .slice none 0 0] 65)
  have hbn := Blk.new (W'.alloc (.cells #[.int .i64 1, .int .i64 3, .int .i64 0, .int .i64 2] 3)) 65 [.int .i64 0, .slice none 0 0, .slice none 0 0, .int .i64 k, pv, tv, .int .i64 0, .slice none 0 0, .slice none 0 0, .int .i64 0, .slice none 0 0, .slice none 0 0]
  rw [World.size_alloc] at hbn
  refine ⟨(b1.alloc _).alloc _, ?_, B1.trans (hb1.mono B1.size)⟩
  refine TreeAt.node (cs := [(0, .slice none 0 0, .slice none 0 0), (k, pv, tv), (0, .slice none 0 0, .slice none 0 0), (0, .slice none 0 0, .slice none 0 0)]) (ts := [leafT, t, leafT, leafT]) (e := 65) (hp.below ((Below.refl _ _).alloc (Nat.le_refl _) _) (Nat.le_refl _)) (fun b hb _ => by rw [ob_some] at hb; cases hb; exact hlt) (Nat.lt_succ_of_lt hlt) hbn rfl (by simp) ?_
  intro j c t' hc ht'
  match j, hc, ht' with
  | 0, hc, ht' => simp at hc ht'; subst hc; subst ht'; exact leaf_at _ _
  | 1, hc, ht' => simp at hc ht'; subst hc; subst ht'; exact t1.keep hb1
  | 2, hc, ht' => simp at hc ht'; subst hc; subst ht'; exact leaf_at _ _
  | 3, hc, ht' => simp at hc ht'; subst hc; subst ht'; exact leaf_at _ _
  | j + 4, hc, ht' => simp at hc
end Go.Proofs.Ytgajaccnjjiiaaa
