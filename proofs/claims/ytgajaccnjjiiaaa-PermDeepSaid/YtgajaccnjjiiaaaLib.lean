/- Small laws on slices of integers, for the walks of this seat. -/
import Derived.WalkKit
import Derived.WalkSpells
import Derived.WalkLawsBesides
import Derived.Deep.QuietTactic
import Derived.BigQuiet
import Derived.Handy
import Derived.Deep.DeepCutAuto
import Derived.Deep.LoopGhost
import Derived.Lib.Hide
namespace Go.Proofs.Ytgajaccnjjiiaaa
open Go.RowKit

/-- The slice value v reads as the integers xs in w; its block was there. -/
def Ints (w : World) (v : Value) (xs : List Int) : Prop :=
  ∃ (a : Option Addr) (cap : Nat), v = .slice a xs.length cap ∧ (xs.length ≤ cap ∧ cap ≤ 9223372036854775807) ∧
    (0 < xs.length → ∃ b o, a = some ⟨b, o, none⟩ ∧ b < w.heap.size ∧ ∀ j x, xs[j]? = some x → w.cell? ⟨b, o + j, none⟩ = some (.int .i64 x))

theorem Ints.nil (w : World) : Ints w (.slice none 0 0) [] := ⟨none, 0, rfl, ⟨by simp, by simp⟩, by simp⟩

theorem Ints.below {B : Nat} {w w' : World} {v : Value} {xs : List Int} (h : Ints w v xs) (hb : Below B w w') (hB : w.heap.size ≤ B) : Ints w' v xs := by
  obtain ⟨a, cap, rfl, hl, h⟩ := h
  refine ⟨a, cap, rfl, hl, fun hp => ?_⟩
  obtain ⟨b, o, rfl, hlt, hc⟩ := h hp
  exact ⟨b, o, rfl, Nat.lt_of_lt_of_le hlt hb.size, fun j x hj => (hb.cell (p := ⟨b, o + j, none⟩) (Nat.lt_of_lt_of_le hlt hB)).trans (hc j x hj)⟩

theorem Ints.at_ {w : World} {a : Option Addr} {n cap : Nat} {xs : List Int} (h : Ints w (.slice a n cap) xs) {k : Nat} (hk : k < n) :
    ∃ b o x, a = some ⟨b, o, none⟩ ∧ Hid (xs[k]? = some x) ∧ w.cell? ⟨b, o + k, none⟩ = some (.int .i64 x) := by
  obtain ⟨a', cap', hv, hl, h⟩ := h
  obtain ⟨rfl, rfl, rfl⟩ : a = a' ∧ n = xs.length ∧ cap = cap' := by simpa using hv
  obtain ⟨b, o, rfl, hlt, hc⟩ := h (by omega)
  have e : xs[k]? = some xs[k] := List.getElem?_eq_getElem hk
  exact ⟨b, o, xs[k], rfl, e, hc k _ e⟩

theorem Ints.cell_ {w : World} {b o : Nat} {n cap : Nat} {xs : List Int} (h : Ints w (.slice (some ⟨b, o, none⟩) n cap) xs) {k : Nat} (hk : k < n) :
    ∃ x, Hid (xs[k]? = some x) ∧ w.cell? ⟨b, o + k, none⟩ = some (.int .i64 x) := by
  obtain ⟨b', o', x, hv, hx, hc⟩ := h.at_ hk
  obtain ⟨rfl, rfl⟩ : b = b' ∧ o = o' := by simpa using hv
  exact ⟨x, hx, hc⟩

theorem Ints.len {w : World} {a : Option Addr} {n cap : Nat} {xs : List Int} (h : Ints w (.slice a n cap) xs) : n = xs.length ∧ n ≤ 9223372036854775807 := by
  obtain ⟨a', cap', hv, hl, h⟩ := h
  obtain ⟨rfl, rfl, rfl⟩ : a = a' ∧ n = xs.length ∧ cap = cap' := by simpa using hv
  exact ⟨rfl, by omega⟩

theorem Ints.cap_ {w : World} {a : Option Addr} {n cap : Nat} {xs : List Int} (h : Ints w (.slice a n cap) xs) : n ≤ cap ∧ cap ≤ 9223372036854775807 := by
  obtain ⟨a', cap', hv, hl, h⟩ := h
  obtain ⟨rfl, rfl, rfl⟩ : a = a' ∧ n = xs.length ∧ cap = cap' := by simpa using hv
  exact hl

theorem Ints.open {w : World} {v : Value} {xs : List Int} (h : Ints w v xs) : ∃ a n cap, v = .slice a n cap ∧ Hid (xs.length = n) ∧ n ≤ 9223372036854775807 := by
  obtain ⟨a', cap', hv, hl, h⟩ := h
  exact ⟨a', _, cap', hv, rfl, by omega⟩

theorem _root_.Go.RowKit.Below.drewN' {B : Nat} {u w : World} (h : Below B u w) (n : Nat) : Below B u (w.drewN n) := ⟨h.os, h.tape, h.output, h.size, h.block⟩


/-- Block g holds just the cells vs. -/
def Blk (w : World) (g : Nat) (e : TypeId) (vs : List Value) : Prop := w.heap[g]? = some (.cells vs.toArray e (0, 0))

theorem Blk.cell {w : World} {g : Nat} {e : TypeId} {vs : List Value} (h : Blk w g e vs) {j : Nat} {v : Value} (hj : vs[j]? = some v) : w.cell? ⟨g, j, none⟩ = some v := by
  rw [cell_of_row w g j _ e (0, 0) h]; simpa using hj
theorem Blk.free {w : World} {g : Nat} {e : TypeId} {vs : List Value} (h : Blk w g e vs) (j : Nat) : w.frozen? ⟨g, j, none⟩ = false := frozen_of_row w g j _ e h
theorem Blk.lt {w : World} {g : Nat} {e : TypeId} {vs : List Value} (h : Blk w g e vs) : g < w.heap.size := (Array.getElem?_eq_some_iff.1 h).1
theorem Blk.set {w : World} {g : Nat} {e : TypeId} {vs : List Value} (h : Blk w g e vs) (j : Nat) (u : Value) : Blk (w.setCell ⟨g, j, none⟩ u) g e (vs.set j u) := by
  have := heap_setCell_same w g j _ e u h
  simpa [Blk] using this
theorem Blk.other {w : World} {g : Nat} {e : TypeId} {vs : List Value} (h : Blk w g e vs) {a : Addr} (ha : g ≠ a.block) (u : Value) : Blk (w.setCell a u) g e vs :=
  (heap_setCell_other w a g u ha).trans h
theorem Blk.below {B : Nat} {w w' : World} {g : Nat} {e : TypeId} {vs : List Value} (h : Blk w g e vs) (hb : Below B w w') (hg : g < B) : Blk w' g e vs := (hb.block g hg).trans h
theorem Blk.keep {w w' : World} {g : Nat} {e : TypeId} {vs : List Value} (h : Blk w g e vs) (hb : Below w.heap.size w w') : Blk w' g e vs := h.below hb h.lt
theorem Blk.drewN {w : World} {g : Nat} {e : TypeId} {vs : List Value} (h : Blk w g e vs) (n : Nat) : Blk (w.drewN n) g e vs := h
theorem Blk.alloc {w : World} {g : Nat} {e : TypeId} {vs : List Value} (h : Blk w g e vs) (o : Obj) : Blk (w.alloc o) g e vs := (Below.heap_alloc w o g h.lt).trans h
theorem Blk.grown {w w' : World} {row : Option Nat} {g : Nat} {e : TypeId} {vs : List Value} (h : Blk w g e vs) (hg : w.grownBy w' row) (hne : some g ≠ row) : Blk w' g e vs := (hg.block g h.lt hne).trans h
theorem Blk.new (w : World) (e : TypeId) (vs : List Value) : Blk (w.alloc (.cells vs.toArray e)) w.heap.size e vs := heap_alloc_new w _

abbrev I64s (zs : List Int) : List Value := zs.map (Value.int .i64)
theorem i64s_get {zs : List Int} {j : Nat} {x : Int} (h : zs[j]? = some x) : (I64s zs)[j]? = some (.int .i64 x) := by simp [I64s, h]
theorem i64s_set (zs : List Int) (j : Nat) (x : Int) : (I64s zs).set j (.int .i64 x) = I64s (zs.set j x) := by simp [I64s, List.map_set]

/-- make of n zero elements of one cell each. -/
theorem wpList_makeV {P : Program} {w : World} {ops : Array Oper} {rest : List Oper} {o : Oper} {a : Act} {Q : Exit → Act → World → Prop}
    {e : TypeId} {z : Value} {bytes : Nat} {t : TypeId} (hinfo : (P.info? e).map (fun i => (i.zero, i.size, i.bytes)) = some (some z, 1, bytes)) (ht : P.underlying t = some (.slice e)) (hzc : z.cells = #[z])
    (hg : o.guard = none) (l c : Operand) (hop : o.op = Op.makeSlice t l c) (n : Nat)
    {kl kc : IntKind} {L C : Int} (hl : a.eval l = .int kl L) (hc : a.eval c = .int kc C) (hL : L = (n : Int)) (hC : C = (n : Int)) (b2 : bytes * n ≤ 281474976710656) (b3 : n ≤ 9223372036854775807)
    (hK : ∀ w', Blk w' w.heap.size e (List.replicate n z) → Below w.heap.size w w' → w'.heap.size = w.heap.size + 1 → wpList P ops Q rest (a.put o.dst (.slice (some ⟨w.heap.size, 0, none⟩) n n)) w') :
    wpList P ops Q (o :: rest) a w := by
  obtain ⟨i, h2, h3, h4, h5⟩ := info_parts hinfo
  refine wpList_plain hg fun K hK' => ?_
  subst hL hC
  have b2' : ((bytes * n : Nat) : Int) ≤ 281474976710656 := by omega
  rw [Int.natCast_mul] at b2'
  have hrun := run_make (P := P) w t e i z ht h2 h3 kl kc (n : Int) (n : Int) (by omega) (by omega) (by rw [h5]; exact b2') (by omega)
  unfold Oper.wp
  simp [execOp, hop, hl, hc, hrun, Result.andThen, h4, hzc]
  refine hK' _ _ (hK _ ?_ ?_ ?_)
  · have := heap_alloc_new w (.cells (madeCells #[z] n) e)
    rw [Blk, ← toList_madeCells_one]
    simpa using this
  · exact (Below.refl _ _).alloc (Nat.le_refl _) _
  · simp

theorem World.ownsRow.keep {w w' : World} {base : Nat} {e : TypeId} {size : Nat} {v : Value} {n : Nat} {xs : List Value} (h : w.ownsRow base e size v n xs) (hb : Below w.heap.size w w') : w'.ownsRow base e size v n xs := by
  refine ⟨h.1, ?_⟩
  rcases h.2 with hn | ⟨g, cap, cur, rfl, h1, hgg, rest⟩
  · exact .inl hn
  · exact .inr ⟨g, cap, cur, rfl, h1, (hb.block g (Array.getElem?_eq_some_iff.1 hgg).1).trans hgg, rest⟩

/-- The value v owns the integers zs (it may grow): a list that the call itself makes. -/
abbrev Own (w : World) (base : Nat) (e : TypeId) (v : Value) (zs : List Int) : Prop := w.ownsRow base e 1 v zs.length (I64s zs)

theorem Own.ints {w : World} {base : Nat} {e : TypeId} {v : Value} {zs : List Int} (h : Own w base e v zs) : Ints w v zs := by
  rcases h.2 with ⟨rfl, hz⟩ | ⟨g, cap, cur, rfl, hb, hgg, hn, hm, hc, htake⟩
  · have : zs = [] := List.eq_nil_of_length_eq_zero hz
    subst this; exact Ints.nil w
  · refine ⟨_, cap, rfl, ⟨hn, hm⟩, fun hp => ⟨g, 0, rfl, (Array.getElem?_eq_some_iff.1 hgg).1, fun j x hj => ?_⟩⟩
    rw [Nat.zero_add, cell_of_row w g j cur e (0, 0) hgg]
    have h2 : (I64s zs)[j]? = some (.int .i64 x) := i64s_get hj
    rw [← htake, List.getElem?_take] at h2
    split at h2
    · simpa using h2
    · cases h2

theorem Own.open {w : World} {base : Nat} {e : TypeId} {v : Value} {zs : List Int} (h : Own w base e v zs) {n : Nat} (hn : zs.length = n) (h0 : 0 < n) :
    ∃ g cap, v = .slice (some ⟨g, 0, none⟩) n cap ∧ base ≤ g ∧ g < w.heap.size ∧ (∀ j, w.frozen? ⟨g, j, none⟩ = false) ∧ ∀ j x, zs[j]? = some x → w.cell? ⟨g, j, none⟩ = some (.int .i64 x) := by
  subst hn
  rcases h.2 with ⟨rfl, hz⟩ | ⟨g, cap, cur, rfl, hb, hgg, hn, hm, hc, htake⟩
  · omega
  · refine ⟨g, cap, rfl, hb, (Array.getElem?_eq_some_iff.1 hgg).1, fun j => frozen_of_row w g j cur e hgg, fun j x hj => ?_⟩
    rw [cell_of_row w g j cur e (0, 0) hgg]
    have h2 : (I64s zs)[j]? = some (.int .i64 x) := i64s_get hj
    rw [← htake, List.getElem?_take] at h2
    split at h2
    · simpa using h2
    · cases h2

theorem Own.set {w : World} {base : Nat} {e : TypeId} {g n cap : Nat} {zs : List Int} (h : Own w base e (.slice (some ⟨g, 0, none⟩) n cap) zs) (j : Nat) (x : Int) :
    Own (w.setCell ⟨g, j, none⟩ (.int .i64 x)) base e (.slice (some ⟨g, 0, none⟩) n cap) (zs.set j x) := by
  have hn : n = zs.length := by
    rcases h.2 with ⟨h', _⟩ | ⟨g', cap', cur, h', _⟩
    · simp at h'
    · simp at h'; exact h'.2.1
  subst hn
  have := (World.ownsRow.stored h j (.int .i64 x)).1
  rw [i64s_set] at this
  simpa [Own] using this

theorem Own.lit (w : World) (base : Nat) (e : TypeId) (zs : List Int) (hb : base ≤ w.heap.size) (hl : zs.length ≤ 9223372036854775807) :
    Own (w.alloc (.cells (I64s zs).toArray e)) base e (.slice (some ⟨w.heap.size, 0, none⟩) zs.length zs.length) zs := by
  have := World.ownsRow_lit (base := base) (e := e) (size := 1) w (I64s zs).toArray zs.length hb (by unfold maxLen; omega) (by simp [I64s])
  simpa [Own] using this

theorem get_of_lt {zs : List Int} {k : Nat} (h : k < zs.length) : ∃ x, zs[k]? = some x := ⟨zs[k], List.getElem?_eq_getElem h⟩

theorem Own.nil (w : World) (base : Nat) (e : TypeId) : Own w base e (.slice none 0 0) [] := World.ownsRow_nil _ _ _ _

/-- append of one integer, which the walk has just laid in a new block. -/
theorem wpList_app1 {P : Program} {w : World} {ops : Array Oper} {rest : List Oper} {o : Oper} {a : Act} {Q : Exit → Act → World → Prop}
    {e t : TypeId} (hinfo : (P.info? e).map (fun i => (i.zero, i.size, i.bytes)) = some (some (.int .i64 0), 1, 8)) (ht : P.underlying t = some (.slice e))
    {base : Nat} {v : Value} {zs : List Int} (hown : Own w base e v zs) (hb : base ≤ w.heap.size) (hl : zs.length < 1000000000000)
    (hgd : o.guard = none) (s x : Operand) (ho : o.op = .call { callee := .builtin .append, args := #[s, x], argTypes := #[t, t] })
    {z : Int} (hs : a.eval s = v) (hx : a.eval x = .slice (some ⟨w.heap.size, 0, none⟩) 1 1)
    (hK : ∀ v' w', Own w' base e v' (zs ++ [z]) → w.grownBy w' v.ownBlock → Below base w w' → (∃ g c, v' = .slice (some ⟨g, 0, none⟩) (zs.length + 1) c) → wpList P ops Q rest (a.put o.dst v') w') :
    wpList P ops Q (o :: rest) a (w.alloc (.cells #[.int .i64 z] e)) := by
  obtain ⟨i, h2, h3, h4, h5⟩ := info_parts hinfo
  refine wpList_append_own _ hgd s x t ho base e i (.int .i64 0) 1 8 ht h2 h3 h4 h5 rfl (by decide) v zs.length _ hs (World.ownsRow.alloc hown _) ⟨w.heap.size, 0, none⟩ 1 1 [.int .i64 z] hx rfl (cell_one_new _ _ _) ?_ ?_ ?_ ?_ ?_
  · intro u hu; simp at hu; subst hu; rfl
  · unfold maxLen; omega
  · omega
  · simp; omega
  · intro v' w1 hown1 hg1 _
    have hlt := World.ownsRow.lt hown
    have hb1 : Below base w w1 := by
      refine ((Below.refl base w).alloc hb _).grown hg1 (by simp; omega) ?_
      intro k hk
      exact (hlt k hk).1
    refine hK v' w1 (by simpa [Own, I64s] using hown1) ?_ hb1 ?_
    · refine ⟨hg1.os, hg1.tape, hg1.output, Nat.le_trans (by simp) hg1.size, fun k hk hne => ?_⟩
      rw [hg1.block k (by simp; omega) hne]
      exact Below.heap_alloc w _ k hk
    · rcases hown1.2 with ⟨_, h0⟩ | ⟨g, cap, cur, rfl, _⟩
      · omega
      · exact ⟨g, cap, rfl⟩

/-- The first answer of f at i, i + 1, .. -/
def findUp {α : Type} (f : Nat → Option α) : Nat → Nat → Option α
  | 0, _ => none
  | k + 1, i => match f i with
    | some r => some r
    | none => findUp f k (i + 1)
theorem findUp_hit {α : Type} {f : Nat → Option α} {n i : Nat} {r : α} (hi : i < n) (h : f i = some r) : findUp f (n - i) i = some r := by
  obtain ⟨k, hk⟩ : ∃ k, n - i = k + 1 := ⟨n - i - 1, by omega⟩
  rw [hk, findUp, h]
theorem findUp_miss {α : Type} {f : Nat → Option α} {n i : Nat} (hi : i < n) (h : f i = none) : findUp f (n - i) i = findUp f (n - (i + 1)) (i + 1) := by
  obtain ⟨k, hk⟩ : ∃ k, n - i = k + 1 := ⟨n - i - 1, by omega⟩
  rw [hk, findUp, h]
  simp only []
  congr 1
  omega
theorem findUp_over {α : Type} {f : Nat → Option α} {n i : Nat} (hi : n ≤ i) : findUp f (n - i) i = none := by
  rw [show n - i = 0 by omega]; rfl

theorem Ints.lit (w : World) (e : TypeId) (zs : List Int) (hl : zs.length ≤ 9223372036854775807) : Ints (w.alloc (.cells (I64s zs).toArray e)) (.slice (some ⟨w.heap.size, 0, none⟩) zs.length zs.length) zs :=
  (Own.lit w w.heap.size e zs (Nat.le_refl _) hl).ints

end Go.Proofs.Ytgajaccnjjiiaaa
