/- Small laws on slices of integers, for the walks of this seat. -/
import Derived.WalkKit
import Derived.WalkSpells
import Derived.WalkLawsBesides
import Derived.Deep.QuietTactic
import Derived.BigQuiet
import Derived.Handy
import Derived.Deep.DeepCutAuto
import Derived.Deep.LoopGhost
import Derived.Lib.Hide
import Derived.Deep.RegionHeld3
import Derived.Deep.MidRow
import Derived.DeepKeys
import Derived.Laws.StructEq
import Derived.StillTail
import Derived.OrdersIn
import Derived.StillTailTactics
import Derived.TacticsIn
namespace Go.Proofs.YtjdmmgaddbleeaaGreat
open Go.RowKit

/-- The slice value v reads as the integers xs in w; its block was there. -/
def Ints (w : World) (v : Value) (xs : List Int) : Prop :=
  ∃ (a : Option Addr) (cap : Nat), v = .slice a xs.length cap ∧ (xs.length ≤ cap ∧ cap ≤ 9223372036854775807) ∧
    (0 < xs.length → ∃ b o, a = some ⟨b, o, none⟩ ∧ b < w.heap.size ∧ ∀ j x, xs[j]? = some x → w.cell? ⟨b, o + j, none⟩ = some (.int .i64 x))

theorem Ints.nil (w : World) : Ints w (.slice none 0 0) [] := ⟨none, 0, rfl, ⟨by simp, by simp⟩, by simp⟩

theorem Ints.below {B : Nat} {w w' : World} {v : Value} {xs : List Int} (h : Ints w v xs) (hb : Below B w w') (hB : w.heap.size ≤ B) : Ints w' v xs := by
  obtain ⟨a, cap, rfl, hl, h⟩ := h
  refine ⟨a, cap, rfl, hl, fun hp => ?_⟩
  obtain ⟨b, o, rfl, hlt, hc⟩ := h hp
  exact ⟨b, o, rfl, Nat.lt_of_lt_of_le hlt hb.size, fun j x hj => (hb.cell (p := ⟨b, o + j, none⟩) (Nat.lt_of_lt_of_le hlt hB)).trans (hc j x hj)⟩

theorem Ints.at_ {w : World} {a : Option Addr} {n cap : Nat} {xs : List Int} (h : Ints w (.slice a n cap) xs) {k : Nat} (hk : k < n) :
    ∃ b o x, a = some ⟨b, o, none⟩ ∧ Hid (xs[k]? = some x) ∧ w.cell? ⟨b, o + k, none⟩ = some (.int .i64 x) := by
  obtain ⟨a', cap', hv, hl, h⟩ := h
  obtain ⟨rfl, rfl, rfl⟩ : a = a' ∧ n = xs.length ∧ cap = cap' := by simpa using hv
  obtain ⟨b, o, rfl, hlt, hc⟩ := h (by omega)
  have e : xs[k]? = some xs[k] := List.getElem?_eq_getElem hk
  exact ⟨b, o, xs[k], rfl, e, hc k _ e⟩

theorem Ints.cell_ {w : World} {b o : Nat} {n cap : Nat} {xs : List Int} (h : Ints w (.slice (some ⟨b, o, none⟩) n cap) xs) {k : Nat} (hk : k < n) :
    ∃ x, Hid (xs[k]? = some x) ∧ w.cell? ⟨b, o + k, none⟩ = some (.int .i64 x) := by
  obtain ⟨b', o', x, hv, hx, hc⟩ := h.at_ hk
  obtain ⟨rfl, rfl⟩ : b = b' ∧ o = o' := by simpa using hv
  exact ⟨x, hx, hc⟩

theorem Ints.len {w : World} {a : Option Addr} {n cap : Nat} {xs : List Int} (h : Ints w (.slice a n cap) xs) : n = xs.length ∧ n ≤ 9223372036854775807 := by
  obtain ⟨a', cap', hv, hl, h⟩ := h
  obtain ⟨rfl, rfl, rfl⟩ : a = a' ∧ n = xs.length ∧ cap = cap' := by simpa using hv
  exact ⟨rfl, by omega⟩

theorem Ints.cap_ {w : World} {a : Option Addr} {n cap : Nat} {xs : List Int} (h : Ints w (.slice a n cap) xs) : n ≤ cap ∧ cap ≤ 9223372036854775807 := by
  obtain ⟨a', cap', hv, hl, h⟩ := h
  obtain ⟨rfl, rfl, rfl⟩ : a = a' ∧ n = xs.length ∧ cap = cap' := by simpa using hv
  exact hl

theorem Ints.open {w : World} {v : Value} {xs : List Int} (h : Ints w v xs) : ∃ a n cap, v = .slice a n cap ∧ Hid (xs.length = n) ∧ n ≤ 9223372036854775807 := by
  obtain ⟨a', cap', hv, hl, h⟩ := h
  exact ⟨a', _, cap', hv, rfl, by omega⟩

theorem _root_.Go.RowKit.Below.drewN' {B : Nat} {u w : World} (h : Below B u w) (n : Nat) : Below B u (w.drewN n) := ⟨h.os, h.tape, h.output, h.size, h.block⟩


/-- Block g holds just the cells vs. -/
def Blk (w : World) (g : Nat) (e : TypeId) (vs : List Value) : Prop := w.heap[g]? = some (.cells vs.toArray e (0, 0))

theorem Blk.cell {w : World} {g : Nat} {e : TypeId} {vs : List Value} (h : Blk w g e vs) {j : Nat} {v : Value} (hj : vs[j]? = some v) : w.cell? ⟨g, j, none⟩ = some v := by
  rw [cell_of_row w g j _ e (0, 0) h]; simpa using hj
theorem Blk.free {w : World} {g : Nat} {e : TypeId} {vs : List Value} (h : Blk w g e vs) (j : Nat) : w.frozen? ⟨g, j, none⟩ = false := frozen_of_row w g j _ e h
theorem Blk.lt {w : World} {g : Nat} {e : TypeId} {vs : List Value} (h : Blk w g e vs) : g < w.heap.size := (Array.getElem?_eq_some_iff.1 h).1
theorem Blk.set {w : World} {g : Nat} {e : TypeId} {vs : List Value} (h : Blk w g e vs) (j : Nat) (u : Value) : Blk (w.setCell ⟨g, j, none⟩ u) g e (vs.set j u) := by
  have := heap_setCell_same w g j _ e u h
  simpa [Blk] using this
theorem Blk.other {w : World} {g : Nat} {e : TypeId} {vs : List Value} (h : Blk w g e vs) {a : Addr} (ha : g ≠ a.block) (u : Value) : Blk (w.setCell a u) g e vs :=
  (heap_setCell_other w a g u ha).trans h
theorem Blk.below {B : Nat} {w w' : World} {g : Nat} {e : TypeId} {vs : List Value} (h : Blk w g e vs) (hb : Below B w w') (hg : g < B) : Blk w' g e vs := (hb.block g hg).trans h
theorem Blk.keep {w w' : World} {g : Nat} {e : TypeId} {vs : List Value} (h : Blk w g e vs) (hb : Below w.heap.size w w') : Blk w' g e vs := h.below hb h.lt
theorem Blk.drewN {w : World} {g : Nat} {e : TypeId} {vs : List Value} (h : Blk w g e vs) (n : Nat) : Blk (w.drewN n) g e vs := h
theorem Blk.alloc {w : World} {g : Nat} {e : TypeId} {vs : List Value} (h : Blk w g e vs) (o : Obj) : Blk (w.alloc o) g e vs := (Below.heap_alloc w o g h.lt).trans h
theorem Blk.grown {w w' : World} {row : Option Nat} {g : Nat} {e : TypeId} {vs : List Value} (h : Blk w g e vs) (hg : w.grownBy w' row) (hne : some g ≠ row) : Blk w' g e vs := (hg.block g h.lt hne).trans h
theorem Blk.new (w : World) (e : TypeId) (vs : List Value) : Blk (w.alloc (.cells vs.toArray e)) w.heap.size e vs := heap_alloc_new w _

abbrev I64s (zs : List Int) : List Value := zs.map (Value.int .i64)
theorem i64s_get {zs : List Int} {j : Nat} {x : Int} (h : zs[j]? = some x) : (I64s zs)[j]? = some (.int .i64 x) := by simp [I64s, h]
theorem i64s_set (zs : List Int) (j : Nat) (x : Int) : (I64s zs).set j (.int .i64 x) = I64s (zs.set j x) := by simp [I64s, List.map_set]

/-- make of n zero elements of one cell each. -/
theorem wpList_makeV {P : Program} {w : World} {ops : Array Oper} {rest : List Oper} {o : Oper} {a : Act} {Q : Exit → Act → World → Prop}
    {e : TypeId} {z : Value} {bytes : Nat} {t : TypeId} (hinfo : (P.info? e).map (fun i => (i.zero, i.size, i.bytes)) = some (some z, 1, bytes)) (ht : P.underlying t = some (.slice e)) (hzc : z.cells = #[z])
    (hg : o.guard = none) (l c : Operand) (hop : o.op = Op.makeSlice t l c) (n : Nat)
    {kl kc : IntKind} {L C : Int} (hl : a.eval l = .int kl L) (hc : a.eval c = .int kc C) (hL : L = (n : Int)) (hC : C = (n : Int)) (b2 : bytes * n ≤ 281474976710656) (b3 : n ≤ 9223372036854775807)
    (hK : ∀ w', Blk w' w.heap.size e (List.replicate n z) → Below w.heap.size w w' → w'.heap.size = w.heap.size + 1 → wpList P ops Q rest (a.put o.dst (.slice (some ⟨w.heap.size, 0, none⟩) n n)) w') :
    wpList P ops Q (o :: rest) a w := by
  obtain ⟨i, h2, h3, h4, h5⟩ := info_parts hinfo
  refine wpList_plain hg fun K hK' => ?_
  subst hL hC
  have b2' : ((bytes * n : Nat) : Int) ≤ 281474976710656 := by omega
  rw [Int.natCast_mul] at b2'
  have hrun := run_make (P := P) w t e i z ht h2 h3 kl kc (n : Int) (n : Int) (by omega) (by omega) (by rw [h5]; exact b2') (by omega)
  unfold Oper.wp
  simp [execOp, hop, hl, hc, hrun, Result.andThen, h4, hzc]
  refine hK' _ _ (hK _ ?_ ?_ ?_)
  · have := heap_alloc_new w (.cells (madeCells #[z] n) e)
    rw [Blk, ← toList_madeCells_one]
    simpa using this
  · exact (Below.refl _ _).alloc (Nat.le_refl _) _
  · simp

theorem World.ownsRow.keep {w w' : World} {base : Nat} {e : TypeId} {size : Nat} {v : Value} {n : Nat} {xs : List Value} (h : w.ownsRow base e size v n xs) (hb : Below w.heap.size w w') : w'.ownsRow base e size v n xs := by
  refine ⟨h.1, ?_⟩
  rcases h.2 with hn | ⟨g, cap, cur, rfl, h1, hgg, rest⟩
  · exact .inl hn
  · exact .inr ⟨g, cap, cur, rfl, h1, (hb.block g (Array.getElem?_eq_some_iff.1 hgg).1).trans hgg, rest⟩

/-- The value v owns the integers zs (it may grow): a list that the call itself makes. -/
abbrev Own (w : World) (base : Nat) (e : TypeId) (v : Value) (zs : List Int) : Prop := w.ownsRow base e 1 v zs.length (I64s zs)

theorem Own.ints {w : World} {base : Nat} {e : TypeId} {v : Value} {zs : List Int} (h : Own w base e v zs) : Ints w v zs := by
  rcases h.2 with ⟨rfl, hz⟩ | ⟨g, cap, cur, rfl, hb, hgg, hn, hm, hc, htake⟩
  · have : zs = [] := List.eq_nil_of_length_eq_zero hz
    subst this; exact Ints.nil w
  · refine ⟨_, cap, rfl, ⟨hn, hm⟩, fun hp => ⟨g, 0, rfl, (Array.getElem?_eq_some_iff.1 hgg).1, fun j x hj => ?_⟩⟩
    rw [Nat.zero_add, cell_of_row w g j cur e (0, 0) hgg]
    have h2 : (I64s zs)[j]? = some (.int .i64 x) := i64s_get hj
    rw [← htake, List.getElem?_take] at h2
    split at h2
    · simpa using h2
    · cases h2

theorem Own.open {w : World} {base : Nat} {e : TypeId} {v : Value} {zs : List Int} (h : Own w base e v zs) {n : Nat} (hn : zs.length = n) (h0 : 0 < n) :
    ∃ g cap, v = .slice (some ⟨g, 0, none⟩) n cap ∧ base ≤ g ∧ g < w.heap.size ∧ (∀ j, w.frozen? ⟨g, j, none⟩ = false) ∧ ∀ j x, zs[j]? = some x → w.cell? ⟨g, j, none⟩ = some (.int .i64 x) := by
  subst hn
  rcases h.2 with ⟨rfl, hz⟩ | ⟨g, cap, cur, rfl, hb, hgg, hn, hm, hc, htake⟩
  · omega
  · refine ⟨g, cap, rfl, hb, (Array.getElem?_eq_some_iff.1 hgg).1, fun j => frozen_of_row w g j cur e hgg, fun j x hj => ?_⟩
    rw [cell_of_row w g j cur e (0, 0) hgg]
    have h2 : (I64s zs)[j]? = some (.int .i64 x) := i64s_get hj
    rw [← htake, List.getElem?_take] at h2
    split at h2
    · simpa using h2
    · cases h2

theorem Own.set {w : World} {base : Nat} {e : TypeId} {g n cap : Nat} {zs : List Int} (h : Own w base e (.slice (some ⟨g, 0, none⟩) n cap) zs) (j : Nat) (x : Int) :
    Own (w.setCell ⟨g, j, none⟩ (.int .i64 x)) base e (.slice (some ⟨g, 0, none⟩) n cap) (zs.set j x) := by
  have hn : n = zs.length := by
    rcases h.2 with ⟨h', _⟩ | ⟨g', cap', cur, h', _⟩
    · simp at h'
    · simp at h'; exact h'.2.1
  subst hn
  have := (World.ownsRow.stored h j (.int .i64 x)).1
  rw [i64s_set] at this
  simpa [Own] using this

theorem Own.lit (w : World) (base : Nat) (e : TypeId) (zs : List Int) (hb : base ≤ w.heap.size) (hl : zs.length ≤ 9223372036854775807) :
    Own (w.alloc (.cells (I64s zs).toArray e)) base e (.slice (some ⟨w.heap.size, 0, none⟩) zs.length zs.length) zs := by
  have := World.ownsRow_lit (base := base) (e := e) (size := 1) w (I64s zs).toArray zs.length hb (by unfold maxLen; omega) (by simp [I64s])
  simpa [Own] using this

theorem get_of_lt {zs : List Int} {k : Nat} (h : k < zs.length) : ∃ x, zs[k]? = some x := ⟨zs[k], List.getElem?_eq_getElem h⟩

theorem Own.nil (w : World) (base : Nat) (e : TypeId) : Own w base e (.slice none 0 0) [] := World.ownsRow_nil _ _ _ _

/-- append of one integer, which the walk has just laid in a new block. -/
theorem wpList_app1 {P : Program} {w : World} {ops : Array Oper} {rest : List Oper} {o : Oper} {a : Act} {Q : Exit → Act → World → Prop}
    {e t : TypeId} (hinfo : (P.info? e).map (fun i => (i.zero, i.size, i.bytes)) = some (some (.int .i64 0), 1, 8)) (ht : P.underlying t = some (.slice e))
    {base : Nat} {v : Value} {zs : List Int} (hown : Own w base e v zs) (hb : base ≤ w.heap.size) (hl : zs.length < 1000000000000)
    (hgd : o.guard = none) (s x : Operand) (ho : o.op = .call { callee := .builtin .append, args := #[s, x], argTypes := #[t, t] })
    {z : Int} (hs : a.eval s = v) (hx : a.eval x = .slice (some ⟨w.heap.size, 0, none⟩) 1 1)
    (hK : ∀ v' w', Own w' base e v' (zs ++ [z]) → w.grownBy w' v.ownBlock → Below base w w' → (∃ g c, v' = .slice (some ⟨g, 0, none⟩) (zs.length + 1) c) → wpList P ops Q rest (a.put o.dst v') w') :
    wpList P ops Q (o :: rest) a (w.alloc (.cells #[.int .i64 z] e)) := by
  obtain ⟨i, h2, h3, h4, h5⟩ := info_parts hinfo
  refine wpList_append_own _ hgd s x t ho base e i (.int .i64 0) 1 8 ht h2 h3 h4 h5 rfl (by decide) v zs.length _ hs (World.ownsRow.alloc hown _) ⟨w.heap.size, 0, none⟩ 1 1 [.int .i64 z] hx rfl (cell_one_new _ _ _) ?_ ?_ ?_ ?_ ?_
  · intro u hu; simp at hu; subst hu; rfl
  · unfold maxLen; omega
  · omega
  · simp; omega
  · intro v' w1 hown1 hg1 _
    have hlt := World.ownsRow.lt hown
    have hb1 : Below base w w1 := by
      refine ((Below.refl base w).alloc hb _).grown hg1 (by simp; omega) ?_
      intro k hk
      exact (hlt k hk).1
    refine hK v' w1 (by simpa [Own, I64s] using hown1) ?_ hb1 ?_
    · refine ⟨hg1.os, hg1.tape, hg1.output, Nat.le_trans (by simp) hg1.size, fun k hk hne => ?_⟩
      rw [hg1.block k (by simp; omega) hne]
      exact Below.heap_alloc w _ k hk
    · rcases hown1.2 with ⟨_, h0⟩ | ⟨g, cap, cur, rfl, _⟩
      · omega
      · exact ⟨g, cap, rfl⟩

/-- The first answer of f at i, i + 1, .. -/
def findUp {α : Type} (f : Nat → Option α) : Nat → Nat → Option α
  | 0, _ => none
  | k + 1, i => match f i with
    | some r => some r
    | none => findUp f k (i + 1)
theorem findUp_hit {α : Type} {f : Nat → Option α} {n i : Nat} {r : α} (hi : i < n) (h : f i = some r) : findUp f (n - i) i = some r := by
  obtain ⟨k, hk⟩ : ∃ k, n - i = k + 1 := ⟨n - i - 1, by omega⟩
  rw [hk, findUp, h]
theorem findUp_miss {α : Type} {f : Nat → Option α} {n i : Nat} (hi : i < n) (h : f i = none) : findUp f (n - i) i = findUp f (n - (i + 1)) (i + 1) := by
  obtain ⟨k, hk⟩ : ∃ k, n - i = k + 1 := ⟨n - i - 1, by omega⟩
  rw [hk, findUp, h]
  simp only []
  congr 1
  omega
theorem findUp_over {α : Type} {f : Nat → Option α} {n i : Nat} (hi : n ≤ i) : findUp f (n - i) i = none := by
  rw [show n - i = 0 by omega]; rfl

theorem Ints.lit (w : World) (e : TypeId) (zs : List Int) (hl : zs.length ≤ 9223372036854775807) : Ints (w.alloc (.cells (I64s zs).toArray e)) (.slice (some ⟨w.heap.size, 0, none⟩) zs.length zs.length) zs :=
  (Own.lit w w.heap.size e zs (Nat.le_refl _) hl).ints

end Go.Proofs.YtjdmmgaddbleeaaGreat

/- Whole blocks: loads and stores of arrays and structs that lie in a block of the call's own. -/
namespace Go.Proofs.YtjdmmgaddbleeaaGreat
open Go.RowKit

theorem Blk.setFrom {g : Nat} {e : TypeId} : ∀ (vs us pre : List Value) (w : World), Blk w g e (pre ++ us) → us.length = vs.length → Blk (w.setCells g pre.length vs) g e (pre ++ vs)
  | [], us, pre, w, h, hl => by
    have : us = [] := List.eq_nil_of_length_eq_zero (by simpa using hl)
    subst this; exact h
  | v :: vs, [], pre, w, h, hl => by simp at hl
  | v :: vs, u :: us, pre, w, h, hl => by
    have h1 := h.set pre.length v
    have h2 : (pre ++ u :: us).set pre.length v = (pre ++ [v]) ++ us := by simp
    rw [h2] at h1
    have := Blk.setFrom vs us (pre ++ [v]) _ h1 (by simpa using hl)
    simpa [World.setCells] using this
theorem Blk.setAll {w : World} {g : Nat} {e : TypeId} {us vs : List Value} (h : Blk w g e us) (hl : us.length = vs.length) : Blk (w.setCells g 0 vs) g e vs := by
  simpa using Blk.setFrom vs us [] w (by simpa using h) hl
theorem below_setCells {B g : Nat} (hB : B ≤ g) : ∀ (vs : List Value) (o : Nat) {a w : World}, Below B a w → Below B a (w.setCells g o vs)
  | [], _, _, _, h => h
  | v :: vs, o, _, _, h => below_setCells hB vs (o + 1) (h.setCell (p := ⟨g, o, none⟩) hB v)
theorem Blk.range {w : World} {g : Nat} {e : TypeId} {vs : List Value} (h : Blk w g e vs) : w.rangeAt g 0 vs := fun j v hj => by rw [Nat.zero_add]; exact h.cell hj
theorem Blk.there {w : World} {g : Nat} {e : TypeId} {vs : List Value} (h : Blk w g e vs) {n : Nat} (hn : n ≤ vs.length) : w.there g 0 n := fun j hj => by
  rw [Nat.zero_add]
  exact ⟨by rw [h.cell (List.getElem?_eq_getElem (by omega))]; rfl, h.free j⟩
theorem range_keep {w w' : World} {g : Nat} {vs : List Value} (h : w.rangeAt g 0 vs) (hb : Below w.heap.size w w') : w'.rangeAt g 0 vs := fun j v hj => by
  have hc := h j v hj
  exact (hb.cell (p := ⟨g, 0 + j, none⟩) (World.block_lt_of_cell? w _ hc)).trans hc

theorem S_keep {B g : Nat} {cs : List Value} {w0 W W' : World} (h1 : W.rangeAt g 0 cs) (h2 : Below B w0 W) (hb : Below W.heap.size W W') (hB : B ≤ w0.heap.size) : W'.rangeAt g 0 cs ∧ Below B w0 W' :=
  ⟨range_keep h1 hb, h2.trans (hb.mono (Nat.le_trans hB h2.size))⟩

section
variable {P : Program} {w : World} {ops : Array Oper} {rest : List Oper} {o : Oper} {a : Act} {Q : Exit → Act → World → Prop}
theorem wpList_loadB {g : Nat} {e : TypeId} {vs : List Value} (h : Blk w g e vs) {ty : TypeId} {n : Nat} (hi : (P.info? ty).map (·.size) = some n) (hn : vs.length = n)
    {d : TypeDesc} (hu : P.underlying ty = some d) (hd : (match d with | .struct _ | .array _ _ => true | _ => false) = true)
    (hgd : o.guard = none) (x : Operand) (ho : o.op = .load ty x) (hx : a.eval x = .pointer (some ⟨g, 0, none⟩))
    (hK : wpList P ops Q rest (a.put o.dst (.agg vs.toArray)) w) : wpList P ops Q (o :: rest) a w :=
  wpList_load_row hgd ty x ho g hx e vs.toArray (0, 0) d h hu hd (by rw [hi]; simp [hn]) hK
theorem wpList_storeB {g : Nat} {e : TypeId} {us vs : List Value} (h : Blk w g e us) {ty : TypeId} {n : Nat} (hi : (P.info? ty).map (·.size) = some n) (hn : vs.length = n) (hl : us.length = vs.length)
    (h1 : ∀ v ∈ vs, v.oneCell' = true)
    (hgd : o.guard = none) (x y : Operand) (ho : o.op = .store ty x y) (hx : a.eval x = .pointer (some ⟨g, 0, none⟩)) (hy : a.eval y = .agg vs.toArray)
    (hK : wpList P ops Q rest (a.put o.dst undef) (w.setCells g 0 vs)) : wpList P ops Q (o :: rest) a w :=
  wpList_store_mid hgd ty x y ho g 0 vs.toArray hx hy (h.there (by simp [hl])) (by rw [hi]; simp [hn]) (all_oneCell_toArray h1) hK
end

abbrev bools (l : List Bool) : List Value := l.map Value.bool
theorem run_eqItems_bools {P : Program} {e : TypeId} (hu : P.underlying e = some .bool) (d : Nat) (xs ys : List Bool) (w : World) : ∀ (is : List Nat), (∀ i ∈ is, i < xs.length ∧ i < ys.length) →
    (Op.eqItems (d + 1) e 1 (bools xs).toArray (bools ys).toArray is).run P w = .ok (is.all (fun i => xs[i]? == ys[i]?)) w
  | [], _ => by simp [Op.eqItems]
  | i :: is, h => by
    obtain ⟨h1, h2⟩ := h i (by simp)
    have hp : P.plainKey e = true := by simp [Program.plainKey, hu]
    have e1 : (bools xs).toArray[i * 1]? = some (.bool xs[i]) := by simp [h1]
    have e2 : (bools ys).toArray[i * 1]? = some (.bool ys[i]) := by simp [h2]
    simp only [Op.eqItems, Sem.run_bind, run_part_plain w hp e1, run_part_plain w hp e2, Result.andThen_ok, run_equalIn_bool w d e _ _ hu]
    have ih := run_eqItems_bools hu d xs ys w is (fun j hj => h j (by simp [hj]))
    cases hb : (xs[i] == ys[i])
    · simp [h1, h2, hb]
    · simp [h1, h2, hb, ih]
theorem run_eq_bools {P : Program} {t e : TypeId} {n : Nat} (ht : P.underlying t = some (.array n e)) (hu : P.underlying e = some .bool) (hc : P.cellsOf e = 1) {i : TypeInfo} (hi : P.info? e = some i)
    (xs ys : List Bool) (hx : xs.length = n) (hy : ys.length = n) (w : World) : (Op.equalIn 10000 t (.agg (bools xs).toArray) (.agg (bools ys).toArray)).run P w = .ok (decide (xs = ys)) w := by
  rw [show (10000 : Nat) = 9998 + 1 + 1 from rfl, run_equalIn_array w (9998 + 1) _ _ ht hi, hc, run_eqItems_bools hu 9998 xs ys w (List.range n) (by intro i hi; simp at hi; omega)]
  congr 1
  rw [Bool.eq_iff_iff]
  simp only [List.all_eq_true, List.mem_range, beq_iff_eq, decide_eq_true_eq]
  constructor
  · intro h
    apply List.ext_getElem?
    intro j
    by_cases hj : j < n
    · exact h j hj
    · rw [List.getElem?_eq_none (by omega), List.getElem?_eq_none (by omega)]
  · rintro rfl j hj; rfl

end Go.Proofs.YtjdmmgaddbleeaaGreat

/- A region that draws its order, reads first and writes last, inside a fence that allows all: walked once, in the order of the text. -/
namespace Go.Proofs.YtjdmmgaddbleeaaGreat
open Go

/-- an operation that calls nothing and defers nothing -/
def calmOp : Op → Bool
  | .load .. | .move _ | .assign _ | .indexAddr .. | .store .. | .binOp .. | .unOp .. | .nilCheck _ | .pick .. => true
  | _ => false

theorem v_run {P : Program} {w w' : World} {s : Sem Value} {d : Next} (h : (do pure (Next.value (← s)) : Sem Next).run P w = .ok d w') : ∃ x, d = .value x := by
  rw [Sem.run_bind] at h
  cases hs : s.run P w with
  | ok x w1 => rw [hs] at h; simp [Result.andThen] at h; exact ⟨x, h.1.symm⟩
  | halt a b => rw [hs] at h; simp [Result.andThen] at h
theorem then_ok {α β : Type} {r : Result α} {f : α → World → Result β} {d : β} {w' : World} (h : r.andThen f = .ok d w') : ∃ a w1, r = .ok a w1 ∧ f a w1 = .ok d w' := by
  cases r with
  | ok a w1 => exact ⟨a, w1, rfl, h⟩
  | halt a b => simp [Result.andThen] at h
theorem u_run {P : Program} {w w' : World} {s : Sem Unit} {d : Next} (h : (do s; pure Next.skip : Sem Next).run P w = .ok d w') : d = .skip := by
  rw [Sem.run_bind] at h
  cases hs : s.run P w with
  | ok x w1 => rw [hs] at h; simp [Result.andThen] at h; exact h.1.symm
  | halt a b => rw [hs] at h; simp [Result.andThen] at h
theorem p_run {P : Program} {w w' : World} {x : Value} {d : Next} (h : (pure (Next.value x) : Sem Next).run P w = .ok d w') : ∃ x, d = .value x := by
  simp at h; exact ⟨x, h.1.symm⟩

theorem pick_run {P : Program} {w w' : World} {m : Sem Bool} {x y : Value} {d : Next} (h : (do pure (Next.value (if ← m then x else y)) : Sem Next).run P w = .ok d w') : ∃ x, d = .value x := by
  rw [Sem.run_bind] at h
  obtain ⟨a, w1, _, h⟩ := then_ok h
  exact p_run h

theorem calm_run {o : Oper} (h : calmOp o.op = true) {P : Program} {ρ : Operand → Value} {w w' : World} {d : Next} (hr : (execOp ρ o).run P w = .ok d w') : (∃ x, d = .value x) ∨ d = .skip := by
  unfold execOp at hr
  cases ho : o.op
  all_goals first | (rw [ho] at h; exact absurd h Bool.false_ne_true) | skip
  all_goals simp only [ho] at hr
  all_goals first
    | exact .inl (v_run hr)
    | exact .inr (u_run hr)
    | exact .inl (p_run hr)
    | exact .inl (pick_run hr)
    | skip
  all_goals
    split at hr
    · simp [runtimePanic] at hr
    · simp [runtimePanic] at hr
    · simp [runtimePanic] at hr
    · split at hr
      · simp [runtimePanic] at hr
      · simp only [Sem.run_bind] at hr
        obtain ⟨a1, w1, _, hr⟩ := then_ok hr
        obtain ⟨a2, w2, _, hr⟩ := then_ok hr
        split at hr
        · rw [Sem.run_bind] at hr
          obtain ⟨a3, w3, h3, _⟩ := then_ok hr
          simp [unsupported] at h3
        · exact .inl (p_run hr)
      · exact .inl (p_run hr)
    · exact .inl (p_run hr)

theorem calm_plain {op : Op} (h : calmOp op = true) : (∀ c, op ≠ .defer c) ∧ (∀ c, op ≠ .call c) := by
  constructor <;> (intro c e; subst e; cases h)

theorem uponIn_of {F : Fence} {n : Nat} {P : Program} {o : Oper} {a : Act} {K : Act → World → Prop} {Q : Exit → Act → World → Prop} {r : Result Next} (hr : ∀ d w', r = .ok d w' → (∃ x, d = .value x) ∨ d = .skip)
    (h : o.upon P a K Q r) : o.uponIn F n P a K Q r := by
  cases r with
  | ok d w' =>
    rcases hr d w' rfl with ⟨x, rfl⟩ | rfl
    · exact h
    · exact h
  | halt hl w' =>
    cases hl <;> first | exact h | exact (h : False).elim

theorem wpIn_of_calm {F : Fence} {n : Nat} (hF : ∀ f, F.fn f) {P : Program} {o : Oper} (hc : calmOp o.op = true) {a : Act} {w : World} {K : Act → World → Prop} {Q : Exit → Act → World → Prop} (h : o.wp P a w K Q) : o.wpIn F n P a w K Q := by
  refine ⟨fun f _ => hF f, ?_⟩
  rw [Oper.semAt_eq _ _ _ (calm_plain hc).1]
  exact uponIn_of (fun d w' e => calm_run hc e) h

theorem anyIn_of_any {F : Fence} {n : Nat} (hF : ∀ f, F.fn f) {P : Program} {md : Region.Mode} {ops : Array Oper} (hc : ∀ (i : Nat) (o : Oper), ops[i]? = some o → calmOp o.op = true) {Q : Exit → Act → World → Prop} (hQ : ¬ LetsOut Q) :
    ∀ (fuel : Nat) (listed : Array Bool) (a : Act) (w : World), wpAny P md ops Q fuel listed a w → wpAnyIn F n P md ops Q fuel listed a w := by
  intro fuel
  induction fuel with
  | zero => intro listed a w h; exact h
  | succ fuel ih =>
    intro listed a w h
    refine ⟨h.1, fun i hi => ?_⟩
    have h1 := h.2 i hi
    unfold wpOp at h1
    unfold wpOpIn
    cases ho : ops[i]? with
    | none => rw [ho] at h1; exact ih _ _ _ h1
    | some o =>
      rw [ho] at h1
      simp only at h1 ⊢
      split
      · rename_i hw
        rw [if_pos hw] at h1
        rcases h1 with h1 | ⟨_, h1⟩
        · exact wpIn_of_calm hF (hc i o ho) (Oper.wp_mono (fun a w h => ih _ a w h) h1)
        · exact absurd h1 hQ
      · rename_i hw
        rw [if_neg hw] at h1
        exact ⟨fun f _ => hF f, ih _ _ _ h1⟩

/-- the exits without the one that the machine's room decides -/
def inRoom (Q : Exit → Act → World → Prop) : Exit → Act → World → Prop := fun e a w => e ≠ .outgrown ∧ Q e a w
theorem inRoom_lets (Q : Exit → Act → World → Prop) : ¬ LetsOut (inRoom Q) := fun ⟨_, _, h, _⟩ => h rfl

/-- A region that draws: its first n operations read, the rest, in one forced order, may write; none calls. -/
theorem wpIn_tail {F : Fence} {m : Nat} (hF : ∀ f, F.fn f) {P : Program} {id : Nat} {Q : Exit → Act → World → Prop} {a : Act} {w : World} {l : List Oper} (n : Nat) (hm : P.follows .mixedOrders = true) (hB : Region.lexTailB .any l.toArray n = true)
    (hc : l.all (fun o => calmOp o.op) = true) (h : wpStill P l.toArray w.drew (fun a' => wpList P l.toArray (inRoom Q) (l.drop n) a' w.drew) (l.take n) a) : (Code.region id l.toArray true).wpIn F m P Q a w := by
  unfold Region.lexTailB at hB
  rw [Bool.and_eq_true, Bool.and_eq_true, Bool.and_eq_true, Bool.and_eq_true] at hB
  have hsz : l.toArray.size = l.length := by simp
  have hlt : n < l.length := by have := of_decide_eq_true hB.1.1.1.2; omega
  have hT : (l.take n).length = n := by rw [List.length_take]; omega
  have hD : (l.drop n).length = l.toArray.size - n := by rw [List.length_drop, hsz]
  have start : HeadInv .any l.toArray n (Array.replicate l.toArray.size false) :=
    ⟨by simp, fun j oj _ hl => (by rw [getD_replicate_false] at hl; cases hl), fun t _ ht => getD_in (by simpa using ht) (getD_replicate_false _ _)⟩
  have one := wpAnyL_lex (md := .any) (w := w.drew) (g := l.toArray.size - n) hB.1.1.1.1 hB.1.1.2 hB.1.2 (by omega) (l.take n) 0 _ a
    (fun j hj => by rw [Nat.zero_add, List.getElem?_take_of_lt (by omega)]; simp) (by omega) start (by rw [hT]; exact hB.2) h
  refine wpIn_mono (Q := inRoom Q) (wpIn_region_any hm ?_) (fun e a w h => h.2)
  refine anyIn_of_any hF (fun i o ho => ?_) (inRoom_lets Q) _ _ _ _ ?_
  · rw [List.all_eq_true] at hc
    exact hc o (List.mem_of_getElem? (by simpa using ho))
  · have two := wpAny_of_head (Q' := inRoom Q) (g := l.toArray.size - n) (fun listed a' hL => by
      have three := wpAny_of_seq (md := .any) (Q' := inRoom Q) (l.drop n) n listed a' w.drew (fun j => by simp [List.getElem?_drop]) (by rw [hD]; exact hL.1) hL.2
      rw [hD] at three
      exact three) _ _ _ one
    rw [hT, show n + (l.toArray.size - n) = l.toArray.size by omega] at two
    exact two
end Go.Proofs.YtjdmmgaddbleeaaGreat
namespace Go.Proofs.YtjdmmgaddbleeaaGreat
open Go

/-- What reads quietly in all worlds ahead by draws reads in the next one. -/
theorem still_of_quiet {P : Program} {ops : Array Oper} {w : World} {Q : Act → Prop} : ∀ (l : List Oper) (a : Act), (∀ o ∈ l, calmOp o.op = true) →
    wpQuiet P ops (fun w' => ∃ n, w' = w.drewN n) Q l a → wpStill P ops w.drew Q l a := by
  intro l
  induction l with
  | nil => intro a _ h; exact h
  | cons o l ih =>
    intro a hc h
    have hl : ∀ o ∈ l, calmOp o.op = true := fun o ho => hc o (List.mem_cons_of_mem _ ho)
    unfold wpQuiet at h
    unfold wpStill
    split
    · rename_i hw
      rw [if_pos hw] at h
      obtain ⟨v, h1, h2⟩ := h
      have h3 := h1 w.drew ⟨1, rfl⟩
      unfold Oper.quietAt at h3
      unfold Oper.still
      cases hr : (execOp a.eval o).run P w.drew with
      | ok d w' =>
        rw [hr] at h3
        rcases calm_run (hc o (by simp)) hr with ⟨x, rfl⟩ | rfl
        · obtain ⟨h4, h5⟩ := h3
          subst h4
          subst h5
          exact ⟨rfl, ih _ hl h2⟩
        · obtain ⟨h4, h5⟩ := h3
          subst h4
          subst h5
          exact ⟨rfl, ih _ hl h2⟩
      | halt b c => rw [hr] at h3; cases b <;> exact h3.elim
    · rename_i hw
      rw [if_neg hw] at h
      exact ih _ hl h

/-- A region that draws: its first n operations, which call nothing, read; the rest, in one forced order, may write. -/
theorem wp_tailQ {P : Program} {id : Nat} {Q : Exit → Act → World → Prop} {a : Act} {w : World} {l : List Oper} (n : Nat) (hm : P.follows .mixedOrders = true) (hB : Region.lexTailB .any l.toArray n = true)
    (hc : (l.take n).all (fun o => calmOp o.op) = true) (h : wpQuiet P l.toArray (fun w' => ∃ n, w' = w.drewN n) (fun a' => wpList P l.toArray Q (l.drop n) a' w.drew) (l.take n) a) : (Code.region id l.toArray true).wp P Q a w :=
  wp_region_still_tail n hm hB (still_of_quiet _ _ (fun o ho => (List.all_eq_true.1 hc) o ho) h)
end Go.Proofs.YtjdmmgaddbleeaaGreat
