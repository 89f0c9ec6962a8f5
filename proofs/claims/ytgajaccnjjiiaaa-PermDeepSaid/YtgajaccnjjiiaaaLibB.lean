/- Whole blocks: loads and stores of arrays and structs that lie in a block of the call's own. -/
import Derived.Test.YtgajaccnjjiiaaaLib
import Derived.Deep.RegionHeld3
import Derived.Deep.MidRow
import Derived.DeepKeys
import Derived.Laws.StructEq
namespace Go.Proofs.Ytgajaccnjjiiaaa
open Go.RowKit

theorem Blk.setFrom {g : Nat} {e : TypeId} : ∀ (vs us pre : List Value) (w : World), Blk w g e (pre ++ us) → us.length = vs.length → Blk (w.setCells g pre.length vs) g e (pre ++ vs)
  | [], us, pre, w, h, hl => by
    have : us = [] := List.eq_nil_of_length_eq_zero (by simpa using hl)
    subst this; exact h
  | v :: vs, [], pre, w, h, hl => by simp at hl
  | v :: vs, u :: us, pre, w, h, hl => by
    have h1 := h.set pre.length v
    have h2 : (pre ++ u :: us).set pre.length v = (pre ++ [v]) ++ us := by simp
    rw [h2] at h1
    have := Blk.setFrom vs us (pre ++ [v]) _ h1 (by simpa using hl)
    simpa [World.setCells] using this
theorem Blk.setAll {w : World} {g : Nat} {e : TypeId} {us vs : List Value} (h : Blk w g e us) (hl : us.length = vs.length) : Blk (w.setCells g 0 vs) g e vs := by
  simpa using Blk.setFrom vs us [] w (by simpa using h) hl
theorem below_setCells {B g : Nat} (hB : B ≤ g) : ∀ (vs : List Value) (o : Nat) {a w : World}, Below B a w → Below B a (w.setCells g o vs)
  | [], _, _, _, h => h
  | v :: vs, o, _, _, h => below_setCells hB vs (o + 1) (h.setCell (p := ⟨g, o, none⟩) hB v)
theorem Blk.range {w : World} {g : Nat} {e : TypeId} {vs : List Value} (h : Blk w g e vs) : w.rangeAt g 0 vs := fun j v hj => by rw [Nat.zero_add]; exact h.cell hj
theorem Blk.there {w : World} {g : Nat} {e : TypeId} {vs : List Value} (h : Blk w g e vs) {n : Nat} (hn : n ≤ vs.length) : w.there g 0 n := fun j hj => by
  rw [Nat.zero_add]
  exact ⟨by rw [h.cell (List.getElem?_eq_getElem (by omega))]; rfl, h.free j⟩
theorem range_keep {w w' : World} {g : Nat} {vs : List Value} (h : w.rangeAt g 0 vs) (hb : Below w.heap.size w w') : w'.rangeAt g 0 vs := fun j v hj => by
  have hc := h j v hj
  exact (hb.cell (p := ⟨g, 0 + j, none⟩) (World.block_lt_of_cell? w _ hc)).trans hc

theorem S_keep {B g : Nat} {cs : List Value} {w0 W W' : World} (h1 : W.rangeAt g 0 cs) (h2 : Below B w0 W) (hb : Below W.heap.size W W') (hB : B ≤ w0.heap.size) : W'.rangeAt g 0 cs ∧ Below B w0 W' :=
  ⟨range_keep h1 hb, h2.trans (hb.mono (Nat.le_trans hB h2.size))⟩

section
variable {P : Program} {w : World} {ops : Array Oper} {rest : List Oper} {o : Oper} {a : Act} {Q : Exit → Act → World → Prop}
theorem wpList_loadB {g : Nat} {e : TypeId} {vs : List Value} (h : Blk w g e vs) {ty : TypeId} {n : Nat} (hi : (P.info? ty).map (·.size) = some n) (hn : vs.length = n)
    {d : TypeDesc} (hu : P.underlying ty = some d) (hd : (match d with | .struct _ | .array _ _ => true | _ => false) = true)
    (hgd : o.guard = none) (x : Operand) (ho : o.op = .load ty x) (hx : a.eval x = .pointer (some ⟨g, 0, none⟩))
    (hK : wpList P ops Q rest (a.put o.dst (.agg vs.toArray)) w) : wpList P ops Q (o :: rest) a w :=
  wpList_load_row hgd ty x ho g hx e vs.toArray (0, 0) d h hu hd (by rw [hi]; simp [hn]) hK
theorem wpList_storeB {g : Nat} {e : TypeId} {us vs : List Value} (h : Blk w g e us) {ty : TypeId} {n : Nat} (hi : (P.info? ty).map (·.size) = some n) (hn : vs.length = n) (hl : us.length = vs.length)
    (h1 : ∀ v ∈ vs, v.oneCell' = true)
    (hgd : o.guard = none) (x y : Operand) (ho : o.op = .store ty x y) (hx : a.eval x = .pointer (some ⟨g, 0, none⟩)) (hy : a.eval y = .agg vs.toArray)
    (hK : wpList P ops Q rest (a.put o.dst undef) (w.setCells g 0 vs)) : wpList P ops Q (o :: rest) a w :=
  wpList_store_mid hgd ty x y ho g 0 vs.toArray hx hy (h.there (by simp [hl])) (by rw [hi]; simp [hn]) (all_oneCell_toArray h1) hK
end

abbrev bools (l : List Bool) : List Value := l.map Value.bool
theorem run_eqItems_bools {P : Program} {e : TypeId} (hu : P.underlying e = some .bool) (d : Nat) (xs ys : List Bool) (w : World) : ∀ (is : List Nat), (∀ i ∈ is, i < xs.length ∧ i < ys.length) →
    (Op.eqItems (d + 1) e 1 (bools xs).toArray (bools ys).toArray is).run P w = .ok (is.all (fun i => xs[i]? == ys[i]?)) w
  | [], _ => by simp [Op.eqItems]
  | i :: is, h => by
    obtain ⟨h1, h2⟩ := h i (by simp)
    have hp : P.plainKey e = true := by simp [Program.plainKey, hu]
    have e1 : (bools xs).toArray[i * 1]? = some (.bool xs[i]) := by simp [h1]
    have e2 : (bools ys).toArray[i * 1]? = some (.bool ys[i]) := by simp [h2]
    simp only [Op.eqItems, Sem.run_bind, run_part_plain w hp e1, run_part_plain w hp e2, Result.andThen_ok, run_equalIn_bool w d e _ _ hu]
    have ih := run_eqItems_bools hu d xs ys w is (fun j hj => h j (by simp [hj]))
    cases hb : (xs[i] == ys[i])
    · simp [h1, h2, hb]
    · simp [h1, h2, hb, ih]
theorem run_eq_bools {P : Program} {t e : TypeId} {n : Nat} (ht : P.underlying t = some (.array n e)) (hu : P.underlying e = some .bool) (hc : P.cellsOf e = 1) {i : TypeInfo} (hi : P.info? e = some i)
    (xs ys : List Bool) (hx : xs.length = n) (hy : ys.length = n) (w : World) : (Op.equalIn 10000 t (.agg (bools xs).toArray) (.agg (bools ys).toArray)).run P w = .ok (decide (xs = ys)) w := by
  rw [show (10000 : Nat) = 9998 + 1 + 1 from rfl, run_equalIn_array w (9998 + 1) _ _ ht hi, hc, run_eqItems_bools hu 9998 xs ys w (List.range n) (by intro i hi; simp at hi; omega)]
  congr 1
  rw [Bool.eq_iff_iff]
  simp only [List.all_eq_true, List.mem_range, beq_iff_eq, decide_eq_true_eq]
  constructor
  · intro h
    apply List.ext_getElem?
    intro j
    by_cases hj : j < n
    · exact h j hj
    · rw [List.getElem?_eq_none (by omega), List.getElem?_eq_none (by omega)]
  · rintro rfl j hj; rfl

end Go.Proofs.Ytgajaccnjjiiaaa
