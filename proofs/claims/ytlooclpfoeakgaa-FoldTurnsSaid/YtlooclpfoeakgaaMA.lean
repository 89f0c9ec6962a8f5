/- Small laws on slices of integers, for the walks of this seat. -/
import Derived.WalkKit
import Derived.WalkSpells
import Derived.WalkLawsBesides
import Derived.Deep.QuietTactic
import Derived.BigQuiet
import Derived.Handy
import Derived.Deep.DeepCutAuto
import Derived.Deep.LoopGhost
import Derived.Lib.Hide
import Derived.Deep.RegionHeld3
import Derived.Deep.MidRow
import Derived.DeepKeys
import Derived.Laws.StructEq
import Derived.Test.YtlooclpfoeakgaaProg
import Derived.Lib.OthersKept
import Derived.Laws.AppendOwn
import Derived.Lib.SlBytesRow
import Derived.Lib.BufferRead
import Derived.ProofKit
import Derived.OpenShut
import Derived.SliceStrings
namespace Go.Proofs.Ytlooclpfoeakgaa
open Go.RowKit

/-- The slice value v reads as the integers xs in w; its block was there. -/
def Ints (w : World) (v : Value) (xs : List Int) : Prop :=
  ∃ (a : Option Addr) (cap : Nat), v = .slice a xs.length cap ∧ (xs.length ≤ cap ∧ cap ≤ 9223372036854775807) ∧
    (0 < xs.length → ∃ b o, a = some ⟨b, o, none⟩ ∧ b < w.heap.size ∧ ∀ j x, xs[j]? = some x → w.cell? ⟨b, o + j, none⟩ = some (.int .i64 x))

theorem Ints.nil (w : World) : Ints w (.slice none 0 0) [] := ⟨none, 0, rfl, ⟨by simp, by simp⟩, by simp⟩

theorem Ints.below {B : Nat} {w w' : World} {v : Value} {xs : List Int} (h : Ints w v xs) (hb : Below B w w') (hB : w.heap.size ≤ B) : Ints w' v xs := by
  obtain ⟨a, cap, rfl, hl, h⟩ := h
  refine ⟨a, cap, rfl, hl, fun hp => ?_⟩
  obtain ⟨b, o, rfl, hlt, hc⟩ := h hp
  exact ⟨b, o, rfl, Nat.lt_of_lt_of_le hlt hb.size, fun j x hj => (hb.cell (p := ⟨b, o + j, none⟩) (Nat.lt_of_lt_of_le hlt hB)).trans (hc j x hj)⟩

theorem Ints.at_ {w : World} {a : Option Addr} {n cap : Nat} {xs : List Int} (h : Ints w (.slice a n cap) xs) {k : Nat} (hk : k < n) :
    ∃ b o x, a = some ⟨b, o, none⟩ ∧ Hid (xs[k]? = some x) ∧ w.cell? ⟨b, o + k, none⟩ = some (.int .i64 x) := by
  obtain ⟨a', cap', hv, hl, h⟩ := h
  obtain ⟨rfl, rfl, rfl⟩ : a = a' ∧ n = xs.length ∧ cap = cap' := by simpa using hv
  obtain ⟨b, o, rfl, hlt, hc⟩ := h (by omega)
  have e : xs[k]? = some xs[k] := List.getElem?_eq_getElem hk
  exact ⟨b, o, xs[k], rfl, e, hc k _ e⟩

theorem Ints.cell_ {w : World} {b o : Nat} {n cap : Nat} {xs : List Int} (h : Ints w (.slice (some ⟨b, o, none⟩) n cap) xs) {k : Nat} (hk : k < n) :
    ∃ x, Hid (xs[k]? = some x) ∧ w.cell? ⟨b, o + k, none⟩ = some (.int .i64 x) := by
  obtain ⟨b', o', x, hv, hx, hc⟩ := h.at_ hk
  obtain ⟨rfl, rfl⟩ : b = b' ∧ o = o' := by simpa using hv
  exact ⟨x, hx, hc⟩

theorem Ints.len {w : World} {a : Option Addr} {n cap : Nat} {xs : List Int} (h : Ints w (.slice a n cap) xs) : n = xs.length ∧ n ≤ 9223372036854775807 := by
  obtain ⟨a', cap', hv, hl, h⟩ := h
  obtain ⟨rfl, rfl, rfl⟩ : a = a' ∧ n = xs.length ∧ cap = cap' := by simpa using hv
  exact ⟨rfl, by omega⟩

theorem Ints.cap_ {w : World} {a : Option Addr} {n cap : Nat} {xs : List Int} (h : Ints w (.slice a n cap) xs) : n ≤ cap ∧ cap ≤ 9223372036854775807 := by
  obtain ⟨a', cap', hv, hl, h⟩ := h
  obtain ⟨rfl, rfl, rfl⟩ : a = a' ∧ n = xs.length ∧ cap = cap' := by simpa using hv
  exact hl

theorem Ints.open {w : World} {v : Value} {xs : List Int} (h : Ints w v xs) : ∃ a n cap, v = .slice a n cap ∧ Hid (xs.length = n) ∧ n ≤ 9223372036854775807 := by
  obtain ⟨a', cap', hv, hl, h⟩ := h
  exact ⟨a', _, cap', hv, rfl, by omega⟩

theorem _root_.Go.RowKit.Below.drewN' {B : Nat} {u w : World} (h : Below B u w) (n : Nat) : Below B u (w.drewN n) := ⟨h.os, h.tape, h.output, h.size, h.block⟩


/-- Block g holds just the cells vs. -/
def Blk (w : World) (g : Nat) (e : TypeId) (vs : List Value) : Prop := w.heap[g]? = some (.cells vs.toArray e (0, 0))

theorem Blk.cell {w : World} {g : Nat} {e : TypeId} {vs : List Value} (h : Blk w g e vs) {j : Nat} {v : Value} (hj : vs[j]? = some v) : w.cell? ⟨g, j, none⟩ = some v := by
  rw [cell_of_row w g j _ e (0, 0) h]; simpa using hj
theorem Blk.free {w : World} {g : Nat} {e : TypeId} {vs : List Value} (h : Blk w g e vs) (j : Nat) : w.frozen? ⟨g, j, none⟩ = false := frozen_of_row w g j _ e h
theorem Blk.lt {w : World} {g : Nat} {e : TypeId} {vs : List Value} (h : Blk w g e vs) : g < w.heap.size := (Array.getElem?_eq_some_iff.1 h).1
theorem Blk.set {w : World} {g : Nat} {e : TypeId} {vs : List Value} (h : Blk w g e vs) (j : Nat) (u : Value) : Blk (w.setCell ⟨g, j, none⟩ u) g e (vs.set j u) := by
  have := heap_setCell_same w g j _ e u h
  simpa [Blk] using this
theorem Blk.other {w : World} {g : Nat} {e : TypeId} {vs : List Value} (h : Blk w g e vs) {a : Addr} (ha : g ≠ a.block) (u : Value) : Blk (w.setCell a u) g e vs :=
  (heap_setCell_other w a g u ha).trans h
theorem Blk.below {B : Nat} {w w' : World} {g : Nat} {e : TypeId} {vs : List Value} (h : Blk w g e vs) (hb : Below B w w') (hg : g < B) : Blk w' g e vs := (hb.block g hg).trans h
theorem Blk.keep {w w' : World} {g : Nat} {e : TypeId} {vs : List Value} (h : Blk w g e vs) (hb : Below w.heap.size w w') : Blk w' g e vs := h.below hb h.lt
theorem Blk.drewN {w : World} {g : Nat} {e : TypeId} {vs : List Value} (h : Blk w g e vs) (n : Nat) : Blk (w.drewN n) g e vs := h
theorem Blk.alloc {w : World} {g : Nat} {e : TypeId} {vs : List Value} (h : Blk w g e vs) (o : Obj) : Blk (w.alloc o) g e vs := (Below.heap_alloc w o g h.lt).trans h
theorem Blk.grown {w w' : World} {row : Option Nat} {g : Nat} {e : TypeId} {vs : List Value} (h : Blk w g e vs) (hg : w.grownBy w' row) (hne : some g ≠ row) : Blk w' g e vs := (hg.block g h.lt hne).trans h
theorem Blk.new (w : World) (e : TypeId) (vs : List Value) : Blk (w.alloc (.cells vs.toArray e)) w.heap.size e vs := heap_alloc_new w _

abbrev I64s (zs : List Int) : List Value := zs.map (Value.int .i64)
theorem i64s_get {zs : List Int} {j : Nat} {x : Int} (h : zs[j]? = some x) : (I64s zs)[j]? = some (.int .i64 x) := by simp [I64s, h]
theorem i64s_set (zs : List Int) (j : Nat) (x : Int) : (I64s zs).set j (.int .i64 x) = I64s (zs.set j x) := by simp [I64s, List.map_set]

/-- make of n zero elements of one cell each. -/
theorem wpList_makeV {P : Program} {w : World} {ops : Array Oper} {rest : List Oper} {o : Oper} {a : Act} {Q : Exit → Act → World → Prop}
    {e : TypeId} {z : Value} {bytes : Nat} {t : TypeId} (hinfo : (P.info? e).map (fun i => (i.zero, i.size, i.bytes)) = some (some z, 1, bytes)) (ht : P.underlying t = some (.slice e)) (hzc : z.cells = #[z])
    (hg : o.guard = none) (l c : Operand) (hop : o.op = Op.makeSlice t l c) (n : Nat)
    {kl kc : IntKind} {L C : Int} (hl : a.eval l = .int kl L) (hc : a.eval c = .int kc C) (hL : L = (n : Int)) (hC : C = (n : Int)) (b2 : bytes * n ≤ 281474976710656) (b3 : n ≤ 9223372036854775807)
    (hK : ∀ w', Blk w' w.heap.size e (List.replicate n z) → Below w.heap.size w w' → w'.heap.size = w.heap.size + 1 → wpList P ops Q rest (a.put o.dst (.slice (some ⟨w.heap.size, 0, none⟩) n n)) w') :
    wpList P ops Q (o :: rest) a w := by
  obtain ⟨i, h2, h3, h4, h5⟩ := info_parts hinfo
  refine wpList_plain hg fun K hK' => ?_
  subst hL hC
  have b2' : ((bytes * n : Nat) : Int) ≤ 281474976710656 := by omega
  rw [Int.natCast_mul] at b2'
  have hrun := run_make (P := P) w t e i z ht h2 h3 kl kc (n : Int) (n : Int) (by omega) (by omega) (by rw [h5]; exact b2') (by omega)
  unfold Oper.wp
  simp [execOp, hop, hl, hc, hrun, Result.andThen, h4, hzc]
  refine hK' _ _ (hK _ ?_ ?_ ?_)
  · have := heap_alloc_new w (.cells (madeCells #[z] n) e)
    rw [Blk, ← toList_madeCells_one]
    simpa using this
  · exact (Below.refl _ _).alloc (Nat.le_refl _) _
  · simp

theorem World.ownsRow.keep {w w' : World} {base : Nat} {e : TypeId} {size : Nat} {v : Value} {n : Nat} {xs : List Value} (h : w.ownsRow base e size v n xs) (hb : Below w.heap.size w w') : w'.ownsRow base e size v n xs := by
  refine ⟨h.1, ?_⟩
  rcases h.2 with hn | ⟨g, cap, cur, rfl, h1, hgg, rest⟩
  · exact .inl hn
  · exact .inr ⟨g, cap, cur, rfl, h1, (hb.block g (Array.getElem?_eq_some_iff.1 hgg).1).trans hgg, rest⟩

/-- The value v owns the integers zs (it may grow): a list that the call itself makes. -/
abbrev Own (w : World) (base : Nat) (e : TypeId) (v : Value) (zs : List Int) : Prop := w.ownsRow base e 1 v zs.length (I64s zs)

theorem Own.ints {w : World} {base : Nat} {e : TypeId} {v : Value} {zs : List Int} (h : Own w base e v zs) : Ints w v zs := by
  rcases h.2 with ⟨rfl, hz⟩ | ⟨g, cap, cur, rfl, hb, hgg, hn, hm, hc, htake⟩
  · have : zs = [] := List.eq_nil_of_length_eq_zero hz
    subst this; exact Ints.nil w
  · refine ⟨_, cap, rfl, ⟨hn, hm⟩, fun hp => ⟨g, 0, rfl, (Array.getElem?_eq_some_iff.1 hgg).1, fun j x hj => ?_⟩⟩
    rw [Nat.zero_add, cell_of_row w g j cur e (0, 0) hgg]
    have h2 : (I64s zs)[j]? = some (.int .i64 x) := i64s_get hj
    rw [← htake, List.getElem?_take] at h2
    split at h2
    · simpa using h2
    · cases h2

theorem Own.open {w : World} {base : Nat} {e : TypeId} {v : Value} {zs : List Int} (h : Own w base e v zs) {n : Nat} (hn : zs.length = n) (h0 : 0 < n) :
    ∃ g cap, v = .slice (some ⟨g, 0, none⟩) n cap ∧ base ≤ g ∧ g < w.heap.size ∧ (∀ j, w.frozen? ⟨g, j, none⟩ = false) ∧ ∀ j x, zs[j]? = some x → w.cell? ⟨g, j, none⟩ = some (.int .i64 x) := by
  subst hn
  rcases h.2 with ⟨rfl, hz⟩ | ⟨g, cap, cur, rfl, hb, hgg, hn, hm, hc, htake⟩
  · omega
  · refine ⟨g, cap, rfl, hb, (Array.getElem?_eq_some_iff.1 hgg).1, fun j => frozen_of_row w g j cur e hgg, fun j x hj => ?_⟩
    rw [cell_of_row w g j cur e (0, 0) hgg]
    have h2 : (I64s zs)[j]? = some (.int .i64 x) := i64s_get hj
    rw [← htake, List.getElem?_take] at h2
    split at h2
    · simpa using h2
    · cases h2

theorem Own.set {w : World} {base : Nat} {e : TypeId} {g n cap : Nat} {zs : List Int} (h : Own w base e (.slice (some ⟨g, 0, none⟩) n cap) zs) (j : Nat) (x : Int) :
    Own (w.setCell ⟨g, j, none⟩ (.int .i64 x)) base e (.slice (some ⟨g, 0, none⟩) n cap) (zs.set j x) := by
  have hn : n = zs.length := by
    rcases h.2 with ⟨h', _⟩ | ⟨g', cap', cur, h', _⟩
    · simp at h'
    · simp at h'; exact h'.2.1
  subst hn
  have := (World.ownsRow.stored h j (.int .i64 x)).1
  rw [i64s_set] at this
  simpa [Own] using this

theorem Own.lit (w : World) (base : Nat) (e : TypeId) (zs : List Int) (hb : base ≤ w.heap.size) (hl : zs.length ≤ 9223372036854775807) :
    Own (w.alloc (.cells (I64s zs).toArray e)) base e (.slice (some ⟨w.heap.size, 0, none⟩) zs.length zs.length) zs := by
  have := World.ownsRow_lit (base := base) (e := e) (size := 1) w (I64s zs).toArray zs.length hb (by unfold maxLen; omega) (by simp [I64s])
  simpa [Own] using this

theorem get_of_lt {zs : List Int} {k : Nat} (h : k < zs.length) : ∃ x, zs[k]? = some x := ⟨zs[k], List.getElem?_eq_getElem h⟩

theorem Own.nil (w : World) (base : Nat) (e : TypeId) : Own w base e (.slice none 0 0) [] := World.ownsRow_nil _ _ _ _

/-- append of one integer, which the walk has just laid in a new block. -/
theorem wpList_app1 {P : Program} {w : World} {ops : Array Oper} {rest : List Oper} {o : Oper} {a : Act} {Q : Exit → Act → World → Prop}
    {e t : TypeId} (hinfo : (P.info? e).map (fun i => (i.zero, i.size, i.bytes)) = some (some (.int .i64 0), 1, 8)) (ht : P.underlying t = some (.slice e))
    {base : Nat} {v : Value} {zs : List Int} (hown : Own w base e v zs) (hb : base ≤ w.heap.size) (hl : zs.length < 1000000000000)
    (hgd : o.guard = none) (s x : Operand) (ho : o.op = .call { callee := .builtin .append, args := #[s, x], argTypes := #[t, t] })
    {z : Int} (hs : a.eval s = v) (hx : a.eval x = .slice (some ⟨w.heap.size, 0, none⟩) 1 1)
    (hK : ∀ v' w', Own w' base e v' (zs ++ [z]) → w.grownBy w' v.ownBlock → Below base w w' → (∃ g c, v' = .slice (some ⟨g, 0, none⟩) (zs.length + 1) c) → wpList P ops Q rest (a.put o.dst v') w') :
    wpList P ops Q (o :: rest) a (w.alloc (.cells #[.int .i64 z] e)) := by
  obtain ⟨i, h2, h3, h4, h5⟩ := info_parts hinfo
  refine wpList_append_own _ hgd s x t ho base e i (.int .i64 0) 1 8 ht h2 h3 h4 h5 rfl (by decide) v zs.length _ hs (World.ownsRow.alloc hown _) ⟨w.heap.size, 0, none⟩ 1 1 [.int .i64 z] hx rfl (cell_one_new _ _ _) ?_ ?_ ?_ ?_ ?_
  · intro u hu; simp at hu; subst hu; rfl
  · unfold maxLen; omega
  · omega
  · simp; omega
  · intro v' w1 hown1 hg1 _
    have hlt := World.ownsRow.lt hown
    have hb1 : Below base w w1 := by
      refine ((Below.refl base w).alloc hb _).grown hg1 (by simp; omega) ?_
      intro k hk
      exact (hlt k hk).1
    refine hK v' w1 (by simpa [Own, I64s] using hown1) ?_ hb1 ?_
    · refine ⟨hg1.os, hg1.tape, hg1.output, Nat.le_trans (by simp) hg1.size, fun k hk hne => ?_⟩
      rw [hg1.block k (by simp; omega) hne]
      exact Below.heap_alloc w _ k hk
    · rcases hown1.2 with ⟨_, h0⟩ | ⟨g, cap, cur, rfl, _⟩
      · omega
      · exact ⟨g, cap, rfl⟩

/-- The first answer of f at i, i + 1, .. -/
def findUp {α : Type} (f : Nat → Option α) : Nat → Nat → Option α
  | 0, _ => none
  | k + 1, i => match f i with
    | some r => some r
    | none => findUp f k (i + 1)
theorem findUp_hit {α : Type} {f : Nat → Option α} {n i : Nat} {r : α} (hi : i < n) (h : f i = some r) : findUp f (n - i) i = some r := by
  obtain ⟨k, hk⟩ : ∃ k, n - i = k + 1 := ⟨n - i - 1, by omega⟩
  rw [hk, findUp, h]
theorem findUp_miss {α : Type} {f : Nat → Option α} {n i : Nat} (hi : i < n) (h : f i = none) : findUp f (n - i) i = findUp f (n - (i + 1)) (i + 1) := by
  obtain ⟨k, hk⟩ : ∃ k, n - i = k + 1 := ⟨n - i - 1, by omega⟩
  rw [hk, findUp, h]
  simp only []
  congr 1
  omega
theorem findUp_over {α : Type} {f : Nat → Option α} {n i : Nat} (hi : n ≤ i) : findUp f (n - i) i = none := by
  rw [show n - i = 0 by omega]; rfl

theorem Ints.lit (w : World) (e : TypeId) (zs : List Int) (hl : zs.length ≤ 9223372036854775807) : Ints (w.alloc (.cells (I64s zs).toArray e)) (.slice (some ⟨w.heap.size, 0, none⟩) zs.length zs.length) zs :=
  (Own.lit w w.heap.size e zs (Nat.le_refl _) hl).ints

end Go.Proofs.Ytlooclpfoeakgaa

/- Whole blocks: loads and stores of arrays and structs that lie in a block of the call's own. -/
namespace Go.Proofs.Ytlooclpfoeakgaa
open Go.RowKit

theorem Blk.setFrom {g : Nat} {e : TypeId} : ∀ (vs us pre : List Value) (w : World), Blk w g e (pre ++ us) → us.length = vs.length → Blk (w.setCells g pre.length vs) g e (pre ++ vs)
  | [], us, pre, w, h, hl => by
    have : us = [] := List.eq_nil_of_length_eq_zero (by simpa using hl)
    subst this; exact h
  | v :: vs, [], pre, w, h, hl => by simp at hl
  | v :: vs, u :: us, pre, w, h, hl => by
    have h1 := h.set pre.length v
    have h2 : (pre ++ u :: us).set pre.length v = (pre ++ [v]) ++ us := by simp
    rw [h2] at h1
    have := Blk.setFrom vs us (pre ++ [v]) _ h1 (by simpa using hl)
    simpa [World.setCells] using this
theorem Blk.setAll {w : World} {g : Nat} {e : TypeId} {us vs : List Value} (h : Blk w g e us) (hl : us.length = vs.length) : Blk (w.setCells g 0 vs) g e vs := by
  simpa using Blk.setFrom vs us [] w (by simpa using h) hl
theorem below_setCells {B g : Nat} (hB : B ≤ g) : ∀ (vs : List Value) (o : Nat) {a w : World}, Below B a w → Below B a (w.setCells g o vs)
  | [], _, _, _, h => h
  | v :: vs, o, _, _, h => below_setCells hB vs (o + 1) (h.setCell (p := ⟨g, o, none⟩) hB v)
theorem Blk.range {w : World} {g : Nat} {e : TypeId} {vs : List Value} (h : Blk w g e vs) : w.rangeAt g 0 vs := fun j v hj => by rw [Nat.zero_add]; exact h.cell hj
theorem Blk.there {w : World} {g : Nat} {e : TypeId} {vs : List Value} (h : Blk w g e vs) {n : Nat} (hn : n ≤ vs.length) : w.there g 0 n := fun j hj => by
  rw [Nat.zero_add]
  exact ⟨by rw [h.cell (List.getElem?_eq_getElem (by omega))]; rfl, h.free j⟩
theorem range_keep {w w' : World} {g : Nat} {vs : List Value} (h : w.rangeAt g 0 vs) (hb : Below w.heap.size w w') : w'.rangeAt g 0 vs := fun j v hj => by
  have hc := h j v hj
  exact (hb.cell (p := ⟨g, 0 + j, none⟩) (World.block_lt_of_cell? w _ hc)).trans hc

theorem S_keep {B g : Nat} {cs : List Value} {w0 W W' : World} (h1 : W.rangeAt g 0 cs) (h2 : Below B w0 W) (hb : Below W.heap.size W W') (hB : B ≤ w0.heap.size) : W'.rangeAt g 0 cs ∧ Below B w0 W' :=
  ⟨range_keep h1 hb, h2.trans (hb.mono (Nat.le_trans hB h2.size))⟩

section
variable {P : Program} {w : World} {ops : Array Oper} {rest : List Oper} {o : Oper} {a : Act} {Q : Exit → Act → World → Prop}
theorem wpList_loadB {g : Nat} {e : TypeId} {vs : List Value} (h : Blk w g e vs) {ty : TypeId} {n : Nat} (hi : (P.info? ty).map (·.size) = some n) (hn : vs.length = n)
    {d : TypeDesc} (hu : P.underlying ty = some d) (hd : (match d with | .struct _ | .array _ _ => true | _ => false) = true)
    (hgd : o.guard = none) (x : Operand) (ho : o.op = .load ty x) (hx : a.eval x = .pointer (some ⟨g, 0, none⟩))
    (hK : wpList P ops Q rest (a.put o.dst (.agg vs.toArray)) w) : wpList P ops Q (o :: rest) a w :=
  wpList_load_row hgd ty x ho g hx e vs.toArray (0, 0) d h hu hd (by rw [hi]; simp [hn]) hK
theorem wpList_storeB {g : Nat} {e : TypeId} {us vs : List Value} (h : Blk w g e us) {ty : TypeId} {n : Nat} (hi : (P.info? ty).map (·.size) = some n) (hn : vs.length = n) (hl : us.length = vs.length)
    (h1 : ∀ v ∈ vs, v.oneCell' = true)
    (hgd : o.guard = none) (x y : Operand) (ho : o.op = .store ty x y) (hx : a.eval x = .pointer (some ⟨g, 0, none⟩)) (hy : a.eval y = .agg vs.toArray)
    (hK : wpList P ops Q rest (a.put o.dst undef) (w.setCells g 0 vs)) : wpList P ops Q (o :: rest) a w :=
  wpList_store_mid hgd ty x y ho g 0 vs.toArray hx hy (h.there (by simp [hl])) (by rw [hi]; simp [hn]) (all_oneCell_toArray h1) hK
end

abbrev bools (l : List Bool) : List Value := l.map Value.bool
theorem run_eqItems_bools {P : Program} {e : TypeId} (hu : P.underlying e = some .bool) (d : Nat) (xs ys : List Bool) (w : World) : ∀ (is : List Nat), (∀ i ∈ is, i < xs.length ∧ i < ys.length) →
    (Op.eqItems (d + 1) e 1 (bools xs).toArray (bools ys).toArray is).run P w = .ok (is.all (fun i => xs[i]? == ys[i]?)) w
  | [], _ => by simp [Op.eqItems]
  | i :: is, h => by
    obtain ⟨h1, h2⟩ := h i (by simp)
    have hp : P.plainKey e = true := by simp [Program.plainKey, hu]
    have e1 : (bools xs).toArray[i * 1]? = some (.bool xs[i]) := by simp [h1]
    have e2 : (bools ys).toArray[i * 1]? = some (.bool ys[i]) := by simp [h2]
    simp only [Op.eqItems, Sem.run_bind, run_part_plain w hp e1, run_part_plain w hp e2, Result.andThen_ok, run_equalIn_bool w d e _ _ hu]
    have ih := run_eqItems_bools hu d xs ys w is (fun j hj => h j (by simp [hj]))
    cases hb : (xs[i] == ys[i])
    · simp [h1, h2, hb]
    · simp [h1, h2, hb, ih]
theorem run_eq_bools {P : Program} {t e : TypeId} {n : Nat} (ht : P.underlying t = some (.array n e)) (hu : P.underlying e = some .bool) (hc : P.cellsOf e = 1) {i : TypeInfo} (hi : P.info? e = some i)
    (xs ys : List Bool) (hx : xs.length = n) (hy : ys.length = n) (w : World) : (Op.equalIn 10000 t (.agg (bools xs).toArray) (.agg (bools ys).toArray)).run P w = .ok (decide (xs = ys)) w := by
  rw [show (10000 : Nat) = 9998 + 1 + 1 from rfl, run_equalIn_array w (9998 + 1) _ _ ht hi, hc, run_eqItems_bools hu 9998 xs ys w (List.range n) (by intro i hi; simp at hi; omega)]
  congr 1
  rw [Bool.eq_iff_iff]
  simp only [List.all_eq_true, List.mem_range, beq_iff_eq, decide_eq_true_eq]
  constructor
  · intro h
    apply List.ext_getElem?
    intro j
    by_cases hj : j < n
    · exact h j hj
    · rw [List.getElem?_eq_none (by omega), List.getElem?_eq_none (by omega)]
  · rintro rfl j hj; rfl

end Go.Proofs.Ytlooclpfoeakgaa

/- Letters, and what is wrong with a word: the walks. -/
namespace Go.Proofs.Ytlooclpfoeakgaa
open Go.RowKit

def letter (x : Int) : Bool := decide (97 ≤ x ∧ x ≤ 122) || decide (65 ≤ x ∧ x ≤ 90)

theorem isLetter_any (x : Int) (w : World) : Calls Try.prog 102 #[.int .i32 x] w fun e w' => e = .returned (.bool (letter x)) ∧ w' = w := by
  have hf : ∀ b, letter x = b → Ending.returned (.bool b) = Ending.returned (.bool (letter x)) := fun b h => by rw [h]
  unfold letter at hf
  by_cases h1 : 97 ≤ x
  · by_cases h2 : x ≤ 122
    · have HF := Lib.hid (hf true (by simp; omega)).symm
      clear hf
      go_enter Try.func102, Try.ntmps102
      go_wp2_with fail
      go_ret
      exact ⟨HF.out.symm, rfl⟩
    · have h3 : 65 ≤ x := by omega
      have h4 : ¬ x ≤ 90 := by omega
      have HF := Lib.hid (hf false (by simp; omega)).symm
      clear hf
      go_enter Try.func102, Try.ntmps102
      go_wp2_with fail
      go_ret
      exact ⟨HF.out.symm, rfl⟩
  · by_cases h3 : 65 ≤ x
    · by_cases h4 : x ≤ 90
      · have HF := Lib.hid (hf true (by simp; omega)).symm
        clear hf
        go_enter Try.func102, Try.ntmps102
        go_wp2_with fail
        go_ret
        exact ⟨HF.out.symm, rfl⟩
      · have HF := Lib.hid (hf false (by simp; omega)).symm
        clear hf
        go_enter Try.func102, Try.ntmps102
        go_wp2_with fail
        go_ret
        exact ⟨HF.out.symm, rfl⟩
    · have HF := Lib.hid (hf false (by simp; omega)).symm
      clear hf
      go_enter Try.func102, Try.ntmps102
      go_wp2_with fail
      go_ret
      exact ⟨HF.out.symm, rfl⟩
theorem rLetter_any (x : Int) (w : World) : Calls Try.prog 109 #[.int .u8 x] w fun e w' => e = .returned (.bool (letter x)) ∧ w' = w := by
  have hf : ∀ b, letter x = b → Ending.returned (.bool b) = Ending.returned (.bool (letter x)) := fun b h => by rw [h]
  unfold letter at hf
  by_cases h1 : 97 ≤ x
  · by_cases h2 : x ≤ 122
    · have HF := Lib.hid (hf true (by simp; omega)).symm
      clear hf
      go_enter Try.func109, Try.ntmps109
      go_wp2_with fail
      go_ret
      exact ⟨HF.out.symm, rfl⟩
    · have h3 : 65 ≤ x := by omega
      have h4 : ¬ x ≤ 90 := by omega
      have HF := Lib.hid (hf false (by simp; omega)).symm
      clear hf
      go_enter Try.func109, Try.ntmps109
      go_wp2_with fail
      go_ret
      exact ⟨HF.out.symm, rfl⟩
  · by_cases h3 : 65 ≤ x
    · by_cases h4 : x ≤ 90
      · have HF := Lib.hid (hf true (by simp; omega)).symm
        clear hf
        go_enter Try.func109, Try.ntmps109
        go_wp2_with fail
        go_ret
        exact ⟨HF.out.symm, rfl⟩
      · have HF := Lib.hid (hf false (by simp; omega)).symm
        clear hf
        go_enter Try.func109, Try.ntmps109
        go_wp2_with fail
        go_ret
        exact ⟨HF.out.symm, rfl⟩
    · have HF := Lib.hid (hf false (by simp; omega)).symm
      clear hf
      go_enter Try.func109, Try.ntmps109
      go_wp2_with fail
      go_ret
      exact ⟨HF.out.symm, rfl⟩

/-- the bytes of a string -/
abbrev bts (s : ByteArray) : List UInt8 := s.data.toList
def isWord (l : List UInt8) : Bool := l.all fun c => letter (c.toNat : Int)
/-- what Check answers -/
def wordErr (s : ByteArray) : Int := if isWord (bts s) then (if 30000 < s.size then 2 else 0) else 40
theorem bts_get {s : ByteArray} {k : Nat} (h : k < s.size) : (bts s)[k]? = some (s[k]'h) := by
  rw [List.getElem?_eq_getElem (by simpa using h)]; rfl
theorem bts_len (s : ByteArray) : (bts s).length = s.size := by simp
theorem all_drop {f : UInt8 → Bool} {l : List UInt8} {k : Nat} {c : UInt8} (h : l[k]? = some c) : (l.drop k).all f = (f c && (l.drop (k + 1)).all f) := by
  obtain ⟨hk, rfl⟩ := List.getElem?_eq_some_iff.1 h
  rw [List.drop_eq_getElem_cons hk, List.all_cons]

set_option maxHeartbeats 1000000 in
theorem rCheck_any (s : ByteArray) (w : World) (hs : s.size ≤ 9223372036854775807) : Calls Try.prog 63 #[.string s] w fun e w' => e = .returned (.int .i64 (wordErr s)) ∧ w' = w := by
  have hf : ∀ b, wordErr s = b → Ending.returned (.int .i64 b) = Ending.returned (.int .i64 (wordErr s)) := fun b h => by rw [h]
  have HF := Lib.hid hf
  clear hf
  go_enter Try.func63, Try.ntmps63
  go_wp2_with fail
  go_loopw [3] (fun iv wr => ∃ k : Nat, k ≤ s.size ∧ iv = .int .i64 k ∧ wr = w ∧ Hid (isWord (bts s) = ((bts s).drop k).all fun c => letter (c.toNat : Int))) (fun iv _ => s.size - (intOf iv).toNat)
  case atStart => exact ⟨0, by omega, rfl, rfl, (show Hid (_ = _) from rfl)⟩
  case round =>
    obtain ⟨k, hk, rfl, rfl, HA⟩ := hrel
    by_cases hlt : k < s.size
    · have hst := all_drop (f := fun c => letter (c.toNat : Int)) (bts_get hlt)
      have hca := fun W => rLetter_any ((s[k]'hlt).toNat : Int) W
      cases hl : letter ((s[k]'hlt).toNat : Int)
      · rw [hl] at hst hca
        have hb : wordErr s = 40 := by unfold wordErr; rw [HA.out, hst]; rfl
        have HB := Lib.hid (HF.out _ hb)
        have HCA := Lib.hid hca
        clear hb hl HF hst hca HA
        go_wp2_with (go_at_call 109; refine (HCA.out _).mono ?_; rintro e w1 ⟨rfl, rfl⟩)
        go_ret
        exact ⟨HB.out, rfl⟩
      · rw [hl, Bool.true_and] at hst
        rw [hl] at hca
        have HST := Lib.hid hst
        have HCA := Lib.hid hca
        clear hl hst hca HF
        go_wp2_with (go_at_call 109; refine (HCA.out _).mono ?_; rintro e w1 ⟨rfl, rfl⟩)
        go_roundw
        case rel => exact ⟨k + 1, by omega, by go_num, trivial, by show _ = _; rw [HA.out, HST.out]⟩
        case measure => simp [intOf]; omega
    · obtain rfl : k = s.size := by omega
      have hw : isWord (bts s) = true := by rw [HA.out, List.drop_of_length_le (by rw [bts_len]; exact Nat.le_refl _)]; rfl
      by_cases hbig : 30000 < s.size
      · have hbi : (30000 : Int) < (s.size : Int) := by omega
        have hb : wordErr s = 2 := by unfold wordErr; rw [hw, if_pos rfl, if_pos hbig]
        have HB := Lib.hid (HF.out _ hb)
        clear hb HF hw HA hbig
        go_wp2_with fail
        go_ret
        exact ⟨HB.out, rfl⟩
      · have hbi : ¬ (30000 : Int) < (s.size : Int) := by omega
        have hb : wordErr s = 0 := by unfold wordErr; rw [hw, if_pos rfl, if_neg hbig]
        have HB := Lib.hid (HF.out _ hb)
        clear hb HF hw HA hbig
        go_wp2_with fail
        go_ret
        exact ⟨HB.out, rfl⟩

set_option maxHeartbeats 1000000 in
theorem check_any (s : ByteArray) (w : World) (hs : s.size ≤ 9223372036854775807) : Calls Try.prog 59 #[.string s] w fun e w' => e = .returned (.int .i64 (wordErr s)) ∧ Below w.heap.size w w' := by
  have hf : ∀ b, wordErr s = b → Ending.returned (.int .i64 b) = Ending.returned (.int .i64 (wordErr s)) := fun b h => by rw [h]
  have HF := Lib.hid hf
  clear hf
  go_enter Try.func59, Try.ntmps59
  go_wp2_with fail
  go_loopw [4] (fun _ wr => ∃ k : Nat, k ≤ s.size ∧ wr.heap[w.heap.size]? = some (.stringIter s k) ∧ Below w.heap.size w wr ∧ Hid (isWord (bts s) = ((bts s).drop k).all fun c => letter (c.toNat : Int))) (fun _ wr => s.size - wr.iterPos w.heap.size)
  case atStart => exact ⟨0, by omega, World.iter_heap w s 0, (Below.refl _ _).alloc (Nat.le_refl _) _, (show Hid (_ = _) from rfl)⟩
  case round =>
    obtain ⟨k, hk, hit, hB, HA⟩ := hrel
    have hsz := hB.size
    by_cases hlt : k < s.size
    · have hst := all_drop (f := fun c => letter (c.toNat : Int)) (bts_get hlt)
      by_cases ha : (s[k]'hlt).toNat < 128
      · have hnx0 := fun ty => Lib.run_next_ascii_at (P := Try.prog) wr w.heap.size s k ty hit hlt ha
        have hit2 := Lib.iterAt_heap wr w.heap.size s k (k + 1) hit
        have hB2 := Lib.below_iterAt hB (Nat.le_refl _) s (k + 1)
        generalize hw2 : wr.iterAt w.heap.size s (k + 1) = w2 at *
        obtain ⟨c, hc⟩ : ∃ c, (s[k]'hlt).toNat = c := ⟨_, rfl⟩
        simp only [hc] at hnx0 hst ha
        have hnx : ∀ ty, (Instr.next (.pointer (some ⟨w.heap.size, 0, none⟩)) true ty).run Try.prog wr = .ok (.tuple #[.bool true, .int .i64 k, .int .i32 (c : Nat)]) w2 := hnx0
        have hpos : wr.iterPos w.heap.size = k := by simp only [World.iterPos, hit]
        have hpos2 : w2.iterPos w.heap.size = k + 1 := by simp only [World.iterPos, hit2]
        have hca := fun W => isLetter_any (c : Int) W
        have HPOS := Lib.hid hpos
        have HPOS2 := Lib.hid hpos2
        have HIT2 := Lib.hid hit2
        have HB2 := Lib.hid hB2
        clear hnx0 hw2 hc hit2 hit hpos hpos2 hB2
        cases hl : letter (c : Int)
        · rw [hl] at hst hca
          have hb : wordErr s = 40 := by unfold wordErr; rw [HA.out, hst]; rfl
          have HB := Lib.hid (HF.out _ hb)
          have HCA := Lib.hid hca
          clear hb hl HF hst hca HA
          go_wp2_with (go_at_call 102; refine (HCA.out _).mono ?_; rintro e w1 ⟨rfl, rfl⟩)
          go_ret
          exact ⟨HB.out, HB2.out⟩
        · rw [hl, Bool.true_and] at hst
          rw [hl] at hca
          have HST := Lib.hid hst
          have HCA := Lib.hid hca
          clear hl hst hca HF
          go_wp2_with (go_at_call 102; refine (HCA.out _).mono ?_; rintro e w1 ⟨rfl, rfl⟩)
          go_roundw
          case rel => exact ⟨k + 1, by omega, HIT2.out, HB2.out, by show _ = _; rw [HA.out, HST.out]⟩
          case measure => rw [HPOS.out, HPOS2.out]; omega
      · have r1 := decode_high s k hlt (by omega)
        have r3 := decode_le s k
        have hnx0 := fun ty => Lib.run_next_any_at (P := Try.prog) wr w.heap.size s k ty hit hlt
        have hB2 := Lib.below_iterAt hB (Nat.le_refl _) s (k + (Utf8.decode s k).2)
        generalize wr.iterAt w.heap.size s (k + (Utf8.decode s k).2) = w2 at *
        generalize (Utf8.decode s k).1 = r at *
        have hnx : ∀ ty, (Instr.next (.pointer (some ⟨w.heap.size, 0, none⟩)) true ty).run Try.prog wr = .ok (.tuple #[.bool true, .int .i64 k, .int .i32 (r : Nat)]) w2 := hnx0
        have hca := fun W => isLetter_any (r : Int) W
        have hl : letter (r : Int) = false := by unfold letter; simp; omega
        have hl2 : letter ((s[k]'hlt).toNat : Int) = false := by unfold letter; simp; omega
        rw [hl2] at hst
        rw [hl] at hca
        have hb : wordErr s = 40 := by unfold wordErr; rw [HA.out, hst]; rfl
        have HB := Lib.hid (HF.out _ hb)
        have HCA := Lib.hid hca
        have HB2 := Lib.hid hB2
        clear hb hl hl2 HF hst hca HA hnx0 hit hB2
        go_wp2_with (go_at_call 102; refine (HCA.out _).mono ?_; rintro e w1 ⟨rfl, rfl⟩)
        go_ret
        exact ⟨HB.out, HB2.out⟩
    · obtain rfl : k = s.size := by omega
      have hnx := fun ty => Lib.run_next_end_at (P := Try.prog) wr w.heap.size s s.size ty hit hlt
      have hw : isWord (bts s) = true := by rw [HA.out, List.drop_of_length_le (by rw [bts_len]; exact Nat.le_refl _)]; rfl
      clear hit
      by_cases hbig : 30000 < s.size
      · have hbi : (30000 : Int) < (s.size : Int) := by omega
        have hb : wordErr s = 2 := by unfold wordErr; rw [hw, if_pos rfl, if_pos hbig]
        have HB := Lib.hid (HF.out _ hb)
        clear hb HF hw HA hbig
        go_wp2_with fail
        go_ret
        exact ⟨HB.out, hB⟩
      · have hbi : ¬ (30000 : Int) < (s.size : Int) := by omega
        have hb : wordErr s = 0 := by unfold wordErr; rw [hw, if_pos rfl, if_neg hbig]
        have HB := Lib.hid (HF.out _ hb)
        clear hb HF hw HA hbig
        go_wp2_with fail
        go_ret
        exact ⟨HB.out, hB⟩
end Go.Proofs.Ytlooclpfoeakgaa

/- Lists of bytes that a call itself makes: laws. -/
namespace Go.Proofs.Ytlooclpfoeakgaa
open Go.RowKit

theorem Try.info5 : (Try.prog.info? 5).map (fun i => (i.zero, i.size, i.bytes)) = some (some (.int .u8 0), 1, 1) := by kernel_rfl

abbrev B8s (bs : List UInt8) : List Value := bs.map fun c => Value.int .u8 (c.toNat : Int)
/-- the value v owns the bytes bs; its room may be less than its block -/
def OwnB (w : World) (base : Nat) (v : Value) (bs : List UInt8) : Prop :=
  (v = .slice none 0 0 ∧ bs = []) ∨
  ∃ g cap cur, v = .slice (some ⟨g, 0, none⟩) bs.length cap ∧ base ≤ g ∧ w.heap[g]? = some (.cells cur 5 (0, 0)) ∧ bs.length ≤ cap ∧ cap ≤ maxLen ∧ cap ≤ cur.size ∧ cur.toList.take bs.length = B8s bs
theorem OwnB.nil (w : World) (base : Nat) : OwnB w base (.slice none 0 0) [] := .inl ⟨rfl, rfl⟩
theorem OwnB.lt {w : World} {base : Nat} {v : Value} {bs : List UInt8} (h : OwnB w base v bs) : ∀ k, v.ownBlock = some k → base ≤ k ∧ k < w.heap.size := by
  intro k hk
  rcases h with ⟨rfl, _⟩ | ⟨g, cap, cur, rfl, hb, hg, _⟩
  · cases hk
  · cases hk
    exact ⟨hb, (Array.getElem?_eq_some_iff.1 hg).1⟩
theorem OwnB.kept {w w' : World} {base : Nat} {v : Value} {bs : List UInt8} (h : OwnB w base v bs) (hk : ∀ g, v.ownBlock = some g → w'.heap[g]? = w.heap[g]?) : OwnB w' base v bs := by
  rcases h with h | ⟨g, cap, cur, rfl, hb, hg, rest⟩
  · exact .inl h
  · exact .inr ⟨g, cap, cur, rfl, hb, (hk g rfl).trans hg, rest⟩
theorem OwnB.keep {w w' : World} {base : Nat} {v : Value} {bs : List UInt8} (h : OwnB w base v bs) (hb : Below w.heap.size w w') : OwnB w' base v bs :=
  h.kept fun g hg => hb.block g (h.lt g hg).2
theorem OwnB.alloc {w : World} {base : Nat} {v : Value} {bs : List UInt8} (h : OwnB w base v bs) (o : Obj) : OwnB (w.alloc o) base v bs := h.keep ((Below.refl _ _).alloc (Nat.le_refl _) o)
theorem OwnB.mono {w : World} {base base' : Nat} {v : Value} {bs : List UInt8} (h : OwnB w base v bs) (hb : base' ≤ base) : OwnB w base' v bs := by
  rcases h with h | ⟨g, cap, cur, rfl, hg, rest⟩
  · exact .inl h
  · exact .inr ⟨g, cap, cur, rfl, Nat.le_trans hb hg, rest⟩
theorem OwnB.shape {w : World} {base : Nat} {v : Value} {bs : List UInt8} (h : OwnB w base v bs) {n : Nat} (hn : bs.length = n) : ∃ a c, v = .slice a n c ∧ n ≤ c ∧ c ≤ 9223372036854775807 := by
  subst hn
  rcases h with ⟨rfl, rfl⟩ | ⟨g, cap, cur, rfl, hb, hg, hl, hm, _⟩
  · exact ⟨_, _, rfl, by simp, by simp⟩
  · exact ⟨_, _, rfl, hl, by unfold maxLen at hm; omega⟩
theorem OwnB.at_ {w : World} {base : Nat} {v : Value} {bs : List UInt8} (h : OwnB w base v bs) {n : Nat} (hn : bs.length = n) (h0 : 0 < n) : ∃ g cap, v = .slice (some ⟨g, 0, none⟩) n cap ∧ base ≤ g ∧ g < w.heap.size ∧ n ≤ cap ∧
    ∀ j c, bs[j]? = some c → w.cell? ⟨g, j, none⟩ = some (.int .u8 (c.toNat : Int)) := by
  subst hn
  rcases h with ⟨rfl, rfl⟩ | ⟨g, cap, cur, rfl, hb, hg, hl, hm, hc, ht⟩
  · simp at h0
  · refine ⟨g, cap, rfl, hb, (Array.getElem?_eq_some_iff.1 hg).1, hl, fun j c hj => ?_⟩
    rw [cell_of_row w g j cur 5 (0, 0) hg]
    have h2 : (B8s bs)[j]? = some (.int .u8 (c.toNat : Int)) := by simp [B8s, hj]
    rw [← ht, List.getElem?_take] at h2
    split at h2
    · simpa using h2
    · cases h2
/-- a byte less, its room cut or kept -/
theorem OwnB.pop {w : World} {base g n cap cap' : Nat} {bs : List UInt8} {c : UInt8} (h : OwnB w base (.slice (some ⟨g, 0, none⟩) (n + 1) cap) (bs ++ [c])) (hn : bs.length = n) (h1 : n ≤ cap') (h2 : cap' ≤ cap) : OwnB w base (.slice (some ⟨g, 0, none⟩) n cap') bs := by
  subst hn
  rcases h with ⟨h, _⟩ | ⟨g', cap0, cur, hv, hb, hg, hl, hm, hc, ht⟩
  · cases h
  · have hv2 := hv
    simp at hv2
    obtain ⟨rfl, rfl⟩ := hv2
    refine .inr ⟨g, cap', cur, rfl, hb, hg, h1, Nat.le_trans h2 hm, Nat.le_trans h2 hc, ?_⟩
    have h3 : (cur.toList.take (bs ++ [c]).length).take bs.length = (B8s (bs ++ [c])).take bs.length := by rw [ht]
    rw [List.take_take, Nat.min_eq_left (by simp)] at h3
    rw [h3]
    simp [B8s]

theorem run_append_B {P : Program} {w : World} (base : Nat) (t ty : TypeId) (i : TypeInfo) (ht : P.underlying t = some (.slice 5)) (hi : P.info? 5 = some i) (hz : i.zero = some (.int .u8 0))
    (hsize : i.size = 1) (hby : i.bytes = 1) (v : Value) (bs : List UInt8) (hown : OwnB w base v bs) (a : Addr) (c : Nat) (b : UInt8) (hnew : w.cell? a = some (.int .u8 (b.toNat : Int)))
    (hl : bs.length < 1000000000) (hbase : base ≤ w.heap.size) :
    ∃ v' w', (Builtin.append_ #[t, t] ty #[v, .slice (some a) 1 c]).run P w = .ok v' w' ∧ OwnB w' base v' (bs ++ [b]) ∧ w.grownBy w' v.ownBlock ∧ w.drawn ≤ w'.drawn := by
  have hnews : ∀ j u, [Value.int .u8 (b.toNat : Int)][j]? = some u → w.cell? (a.add j) = some u := by
    intro j u hj
    cases j with
    | zero => simp at hj; subst hj; simpa [Addr.add] using hnew
    | succ j => simp at hj
  have hsn : B8s (bs ++ [b]) = B8s bs ++ [Value.int .u8 (b.toNat : Int)] := by simp [B8s]
  have grown : ∀ (old : Nat), old < bs.length + 1 → ∀ (row : Option Nat),
      OwnB (w.drew.alloc (.cells ((B8s bs).toArray ++ [Value.int .u8 (b.toNat : Int)].toArray ++ Builtin.zeroCells (Value.int .u8 0).cells (grownCap w (bs.length + 1) old 5 - (bs.length + 1))) 5)) base
        (.slice (some ⟨w.heap.size, 0, none⟩) (bs.length + 1) (grownCap w (bs.length + 1) old 5)) (bs ++ [b]) ∧
      w.grownBy (w.drew.alloc (.cells ((B8s bs).toArray ++ [Value.int .u8 (b.toNat : Int)].toArray ++ Builtin.zeroCells (Value.int .u8 0).cells (grownCap w (bs.length + 1) old 5 - (bs.length + 1))) 5)) row := by
    intro old ho row
    have hge := grownCap_ge w (bs.length + 1) old 5
    have hcm : grownCap w (bs.length + 1) old 5 ≤ maxLen := grownCap_le_maxLen w (bs.length + 1) old 5 (by unfold maxLen; omega)
    refine ⟨.inr ⟨w.heap.size, _, _, by simp, hbase, heap_alloc_new w.drew _, by simpa using hge, hcm, ?_, ?_⟩, ⟨rfl, rfl, rfl, by simp, fun k hk _ => Below.heap_alloc w.drew _ k hk⟩⟩
    · simp [size_zeroCells, Value.cells]
      omega
    · rw [hsn]
      simp only [Array.toList_append]
      rw [show (bs ++ [b]).length = ((B8s bs).toArray.toList ++ [Value.int .u8 (b.toNat : Int)].toArray.toList).length by simp [B8s]]
      exact List.take_left
  rcases hown with ⟨rfl, rfl⟩ | ⟨g, cap, cur, rfl, hbg, hg, hnc, hcm, hcs, htake⟩
  · have hr := run_append_nil (P := P) w t ty 5 i _ ht hi hz a 1 c [Value.int .u8 (b.toNat : Int)] (by simp [hsize]) hnews (by omega) (by omega) (by rw [hby]; omega)
    have hgr := grown 0 (by simp) (Value.ownBlock (.slice none 0 0))
    simp only [List.length_nil, Nat.zero_add, List.nil_append, List.map_nil, Array.empty_append, B8s] at hgr
    exact ⟨_, _, hr, hgr.1, hgr.2, Nat.le_succ _⟩
  · by_cases hroom : bs.length + 1 ≤ cap
    · have hr := run_append_room (P := P) w t ty 5 i ht hi g bs.length cap cur hg a 1 c [Value.int .u8 (b.toNat : Int)] (by simp [hsize]) hnews (by simp [Value.oneCell']) hroom (by rw [hsize]; simp; omega)
      refine ⟨_, _, hr, .inr ⟨g, cap, _, by simp, hbg, setRow_heap w g cur _ 5 _ hg, by simpa using hroom, hcm, ?_, ?_⟩, ⟨rfl, rfl, rfl, by simp, fun k _ hk => setRow_other w g k _ (fun e => hk (by simp [Value.ownBlock, e]))⟩, Nat.le_refl _⟩
      · rw [hsize]
        simp
        omega
      · rw [hsize, hsn]
        simp only [Nat.mul_one]
        rw [htake]
        rw [show (bs ++ [b]).length = (B8s bs ++ [Value.int .u8 (b.toNat : Int)]).length by simp [B8s]]
        exact List.take_left
    · have holds : ∀ j u, (B8s bs)[j]? = some u → w.cell? ((⟨g, 0, none⟩ : Addr).add j) = some u := by
        intro j u hj
        have h2 := hj
        rw [← htake, List.getElem?_take] at h2
        split at h2
        · rw [show (⟨g, 0, none⟩ : Addr).add j = ⟨g, j, none⟩ by simp [Addr.add_lit], cell_of_row w g j cur 5 (0, 0) hg]
          simpa using h2
        · cases h2
      have hr := run_append_grow (P := P) w t ty 5 i _ ht hi hz ⟨g, 0, none⟩ bs.length cap (B8s bs) (by simp [hsize, B8s]) holds a 1 c [Value.int .u8 (b.toNat : Int)] (by simp [hsize]) hnews (by omega) (by omega) (growslice_fits (by omega) (by rw [hby]; omega))
      have hgr := grown cap (by omega) (Value.ownBlock (.slice (some ⟨g, 0, none⟩) bs.length cap))
      exact ⟨_, _, hr, hgr.1, hgr.2, Nat.le_succ _⟩

/-- append of one byte, which the walk has just laid in a new block. -/
theorem wpList_appB {P : Program} {w : World} {ops : Array Oper} {rest : List Oper} {o : Oper} {a : Act} {Q : Exit → Act → World → Prop} {t : TypeId}
    (hinfo : (P.info? 5).map (fun i => (i.zero, i.size, i.bytes)) = some (some (.int .u8 0), 1, 1)) (ht : P.underlying t = some (.slice 5))
    {base : Nat} {v : Value} {bs : List UInt8} (hown : OwnB w base v bs) (hb : base ≤ w.heap.size) (hl : bs.length < 1000000000)
    (hgd : o.guard = none) (s x : Operand) (ho : o.op = .call { callee := .builtin .append, args := #[s, x], argTypes := #[t, t] })
    {c : UInt8} (hs : a.eval s = v) (hx : a.eval x = .slice (some ⟨w.heap.size, 0, none⟩) 1 1)
    (hK : ∀ v' w', OwnB w' base v' (bs ++ [c]) → w.grownBy w' v.ownBlock → Below base w w' → wpList P ops Q rest (a.put o.dst v') w') :
    wpList P ops Q (o :: rest) a (w.alloc (.cells #[.int .u8 (c.toNat : Int)] 5)) := by
  obtain ⟨i, h2, h3, h4, h5⟩ := info_parts hinfo
  refine wpList_plain hgd fun K hK' => ?_
  obtain ⟨v', w1, hr, hown1, hg1, _⟩ := run_append_B (P := P) (w := w.alloc (.cells #[.int .u8 (c.toNat : Int)] 5)) base t o.type i ht h2 h3 h4 h5 v bs (hown.alloc _) ⟨w.heap.size, 0, none⟩ 1 c (cell_one_new _ _ _ 0 _ rfl) hl (by simp; omega)
  unfold Oper.wp execOp
  simp only [ho, resolve, invoke, builtin, Sem.run_bind, Sem.run_pure, Result.andThen_ok, List.map_toArray, List.map_cons, List.map_nil, hs, hx, hr]
  have hlt := hown.lt
  have hb1 : Below base w w1 := by
    refine ((Below.refl base w).alloc hb _).grown hg1 (by simp; omega) ?_
    intro k hk
    exact (hlt k hk).1
  refine hK' _ _ (hK v' w1 hown1 ?_ hb1)
  refine ⟨hg1.os, hg1.tape, hg1.output, Nat.le_trans (by simp) hg1.size, fun k hk hne => ?_⟩
  rw [hg1.block k (by simp; omega) hne]
  exact Below.heap_alloc w _ k hk

/-- append of one byte, which the walk has just laid in a new block, with the count of draws. -/
theorem wpList_appU {P : Program} {w : World} {ops : Array Oper} {rest : List Oper} {o : Oper} {a : Act} {Q : Exit → Act → World → Prop} {t : TypeId}
    (hinfo : (P.info? 5).map (fun i => (i.zero, i.size, i.bytes)) = some (some (.int .u8 0), 1, 1)) (ht : P.underlying t = some (.slice 5))
    {base : Nat} {v : Value} {bs : List UInt8} (hown : OwnB w base v bs) (hb : base ≤ w.heap.size) (hl : bs.length < 1000000000)
    (hgd : o.guard = none) (s x : Operand) (ho : o.op = .call { callee := .builtin .append, args := #[s, x], argTypes := #[t, t] })
    {c : UInt8} (hs : a.eval s = v) (hx : a.eval x = .slice (some ⟨w.heap.size, 0, none⟩) 1 1)
    (hK : ∀ v' w', OwnB w' base v' (bs ++ [c]) → w.grownBy w' v.ownBlock → Below base w w' → w.drawn ≤ w'.drawn → wpList P ops Q rest (a.put o.dst v') w') :
    wpList P ops Q (o :: rest) a (w.alloc (.cells #[.int .u8 (c.toNat : Int)] 5)) := by
  obtain ⟨i, h2, h3, h4, h5⟩ := info_parts hinfo
  refine wpList_plain hgd fun K hK' => ?_
  obtain ⟨v', w1, hr, hown1, hg1, hd1⟩ := run_append_B (P := P) (w := w.alloc (.cells #[.int .u8 (c.toNat : Int)] 5)) base t o.type i ht h2 h3 h4 h5 v bs (hown.alloc _) ⟨w.heap.size, 0, none⟩ 1 c (cell_one_new _ _ _ 0 _ rfl) hl (by simp; omega)
  unfold Oper.wp execOp
  simp only [ho, resolve, invoke, builtin, Sem.run_bind, Sem.run_pure, Result.andThen_ok, List.map_toArray, List.map_cons, List.map_nil, hs, hx, hr]
  have hlt := hown.lt
  have hb1 : Below base w w1 := by
    refine ((Below.refl base w).alloc hb _).grown hg1 (by simp; omega) ?_
    intro k hk
    exact (hlt k hk).1
  refine hK' _ _ (hK v' w1 hown1 ?_ hb1 hd1)
  refine ⟨hg1.os, hg1.tape, hg1.output, Nat.le_trans (by simp) hg1.size, fun k hk hne => ?_⟩
  rw [hg1.block k (by simp; omega) hne]
  exact Below.heap_alloc w _ k hk
end Go.Proofs.Ytlooclpfoeakgaa

/- Letters: the nail, the other letter: the walks. -/
namespace Go.Proofs.Ytlooclpfoeakgaa
open Go.RowKit

def invB (c : UInt8) : UInt8 := c ^^^ 32
def lowB (c : UInt8) : UInt8 := c ||| 32
def nailB (c : UInt8) : Nat := (lowB c).toNat - 97
theorem for_bytes {p : UInt8 → Prop} (h : ∀ n : Fin 256, p (UInt8.ofNat n.val)) (c : UInt8) : p c := by
  have := h ⟨c.toNat, c.toNat_lt⟩
  simpa using this
theorem bits_inv : ∀ c : UInt8, bits .xor .u8 (c.toNat : Int) 32 = ((invB c).toNat : Int) := for_bytes (by decide +kernel)
theorem bits_low : ∀ c : UInt8, bits .or .u8 (c.toNat : Int) 32 = ((lowB c).toNat : Int) := for_bytes (by decide +kernel)
theorem letter_low : ∀ c : UInt8, letter (c.toNat : Int) = true → 97 ≤ (lowB c).toNat ∧ (lowB c).toNat ≤ 122 := for_bytes (by decide +kernel)
theorem letter_inv : ∀ c : UInt8, letter (c.toNat : Int) = true → letter ((invB c).toNat : Int) = true ∧ invB (invB c) = c ∧ invB c ≠ c ∧ lowB (invB c) = lowB c := for_bytes (by decide +kernel)
theorem letter_other : ∀ c : UInt8, letter (c.toNat : Int) = true → ((97 : Int) ≤ (c.toNat : Int) → IntKind.u8.wrap ((c.toNat : Int) - 32) = ((invB c).toNat : Int) ∧ lowB c = c) ∧ (¬ (97 : Int) ≤ (c.toNat : Int) → IntKind.u8.wrap ((c.toNat : Int) + 32) = ((invB c).toNat : Int) ∧ lowB c = invB c) := for_bytes (by decide +kernel)
theorem inv_inj {a b : UInt8} (h : invB a = invB b) : a = b := by
  have : ∀ c : UInt8, invB (invB c) = c := for_bytes (by decide +kernel)
  rw [← this a, h, this]
theorem nail_eq {a b : UInt8} (ha : letter (a.toNat : Int) = true) (hb : letter (b.toNat : Int) = true) (h : nailB a = nailB b) : b = a ∨ b = invB a := by
  have h1 : ∀ a b : Fin 128, letter (a.val : Int) = true → letter (b.val : Int) = true → nailB (UInt8.ofNat a.val) = nailB (UInt8.ofNat b.val) → UInt8.ofNat b.val = UInt8.ofNat a.val ∨ UInt8.ofNat b.val = invB (UInt8.ofNat a.val) := by decide +kernel
  have la : a.toNat < 128 := by unfold letter at ha; simp at ha; omega
  have lb : b.toNat < 128 := by unfold letter at hb; simp at hb; omega
  have := h1 ⟨a.toNat, la⟩ ⟨b.toNat, lb⟩ ha hb (by simpa using h)
  simpa using this
theorem inverse_any (c : UInt8) (w : World) : Calls Try.prog 148 #[.int .u8 c.toNat] w fun e w' => e = .returned (.int .u8 (invB c).toNat) ∧ w' = w := by
  have hb := bits_inv c
  go_enter Try.func148, Try.ntmps148
  go_wp2_with fail
  go_ret
  exact ⟨by rw [← hb]; rfl, rfl⟩
theorem nailOf_any (c : UInt8) (w : World) (h : letter c.toNat = true) : Calls Try.prog 155 #[.int .u8 c.toNat] w fun e w' => e = .returned (.int .i64 (nailB c)) ∧ w' = w := by
  have hb := bits_low c
  have hl := letter_low c h
  have hw : wrap64 (wrap64 (bits BinOp.or IntKind.u8 (c.toNat : Int) 32) - 97) = (nailB c : Int) := by
    rw [hb]; unfold wrap64 nailB; omega
  clear hb hl
  go_enter Try.func155, Try.ntmps155
  go_wp2_with fail
  go_ret
  exact ⟨by rw [← hw]; rfl, rfl⟩
theorem other_any (c : UInt8) (w : World) (h : letter c.toNat = true) : Calls Try.prog 77 #[.int .u8 c.toNat] w fun e w' => e = .returned (.int .u8 (invB c).toNat) ∧ w' = w := by
  obtain ⟨h1, h2⟩ := letter_other c h
  by_cases hc : (97 : Int) ≤ (c.toNat : Int)
  · have hb := (h1 hc).1
    clear h1 h2
    go_enter Try.func77, Try.ntmps77
    go_wp2_with fail
    go_ret
    exact ⟨by rw [← hb]; rfl, rfl⟩
  · have hb := (h2 hc).1
    clear h1 h2
    go_enter Try.func77, Try.ntmps77
    go_wp2_with fail
    go_ret
    exact ⟨by rw [← hb]; rfl, rfl⟩
theorem rNail_any (c : UInt8) (w : World) (h : letter c.toNat = true) : Calls Try.prog 110 #[.int .u8 c.toNat] w fun e w' => e = .returned (.int .u8 (lowB c).toNat) ∧ w' = w := by
  obtain ⟨h1, h2⟩ := letter_other c h
  by_cases hc : (97 : Int) ≤ (c.toNat : Int)
  · have hb := (h1 hc).2
    clear h1 h2
    go_enter Try.func110, Try.ntmps110
    go_wp2_with fail
    go_ret
    exact ⟨by rw [hb]; rfl, rfl⟩
  · obtain ⟨hb, hb2⟩ := h2 hc
    clear h1 h2
    go_enter Try.func110, Try.ntmps110
    go_wp2_with fail
    go_ret
    exact ⟨rfl, rfl⟩

end Go.Proofs.Ytlooclpfoeakgaa

/- Putting a letter behind a reduced word: the walk. -/
namespace Go.Proofs.Ytlooclpfoeakgaa
open Go.RowKit

def putL (l : List UInt8) (c : UInt8) : List UInt8 := if l.getLast? = some (invB c) then l.dropLast else l ++ [c]
theorem putL_nil (c : UInt8) : putL [] c = [c] := by simp [putL]
theorem putL_pop {l : List UInt8} {c x : UInt8} (h : x = invB c) : putL (l ++ [x]) c = l := by simp [putL, h]
theorem putL_push {l : List UInt8} {c x : UInt8} (h : x ≠ invB c) : putL (l ++ [x]) c = l ++ [x, c] := by simp [putL, h]
theorem putL_len (l : List UInt8) (c : UInt8) : (putL l c).length ≤ l.length + 1 := by unfold putL; split <;> simp; omega

set_option maxRecDepth 100000 in
set_option maxHeartbeats 4000000 in
theorem put_any (v : Value) (bs : List UInt8) (c : UInt8) (w : World) (base : Nat) (hv : OwnB w base v bs) (hb : base ≤ w.heap.size) (hl : bs.length < 100000000) :
    Calls Try.prog 156 #[v, .int .u8 c.toNat] w fun e w' => ∃ v', e = .returned v' ∧ OwnB w' base v' (putL bs c) ∧ w.grownBy w' v.ownBlock ∧ Below base w w' := by
  rcases List.eq_nil_or_concat bs with rfl | ⟨l, x, rfl⟩
  · obtain ⟨a, cp, rfl, h1, h2⟩ := hv.shape (n := 0) rfl
    rw [putL_nil]
    have HV := Lib.hid hv
    clear hv hl
    go_enter Try.func156, Try.ntmps156
    go_wp2_with fail
    go_quiet (fail)
    have hv2 : OwnB (w.drewN nq) base (.slice a 0 cp) [] := HV.out
    go_wp2_with (at_builtin; refine wpList_appB Try.info5 Try.underlying115 hv2 (by simpa using hb) (by simp) rfl _ _ rfl (c := c) rfl rfl ?_; intro v6 w6 hown6 hgrow6 hb6)
    go_ret
    exact ⟨_, rfl, hown6, ⟨hgrow6.os, hgrow6.tape, hgrow6.output, hgrow6.size, hgrow6.block⟩, ((Below.refl _ w).drewN' nq).trans hb6⟩
  · rw [List.concat_eq_append] at *
    obtain ⟨m, hm⟩ : ∃ m, l.length = m := ⟨_, rfl⟩
    have hlen : (l ++ [x]).length = m + 1 := by simp [hm]
    rw [hlen] at hl
    obtain ⟨g, cp, rfl, hg1, hg2, hcp, hcell⟩ := hv.at_ hlen (by omega)
    obtain ⟨_, _, hv3, _, hcp2⟩ := hv.shape hlen
    have hcp3 : cp ≤ 9223372036854775807 := by
      have e : (Value.slice (some ⟨g, 0, none⟩) (m + 1) cp) = _ := hv3
      simp at e
      omega
    clear hv3 hcp2
    have hc0 := hcell m x (by simp [← hm])
    have hinv := fun W => inverse_any c W
    have HV := Lib.hid hv
    have HM := Lib.hid hm
    have HINV := Lib.hid hinv
    clear hv hcell hm hinv hlen
    by_cases hx : x = invB c
    · rw [putL_pop hx]
      have ht : ((x.toNat : Int) == ((invB c).toNat : Int)) = true := by rw [hx]; simp
      clear hx
      go_enter Try.func156, Try.ntmps156
      go_wp2_with fail
      go_quiet ((go_at_call 148; exact Calls.quiet_of_same (HINV.out _)))
      go_wp2_with fail
      go_ret
      exact ⟨_, rfl, OwnB.pop (w := w.drewN nq) (by exact HV.out) HM.out (Nat.le_refl _) (by omega), ⟨rfl, rfl, rfl, Nat.le_refl _, fun _ _ _ => rfl⟩, (Below.refl _ w).drewN' nq⟩
    · rw [putL_push hx]
      have ht : ((x.toNat : Int) == ((invB c).toNat : Int)) = false := by
        simp
        exact fun h => hx (UInt8.toNat_inj.1 (by omega))
      clear hx
      go_enter Try.func156, Try.ntmps156
      go_wp2_with fail
      go_quiet ((go_at_call 148; exact Calls.quiet_of_same (HINV.out _)))
      have hv2 : OwnB (w.drewN nq) base (.slice (some ⟨g, 0, none⟩) (m + 1) cp) (l ++ [x]) := HV.out
      have hlen : (l ++ [x]).length < 1000000000 := by simp [HM.out]; omega
      have HLEN := Lib.hid hlen
      clear hlen
      go_wp2_with (at_builtin; refine wpList_appB Try.info5 Try.underlying115 hv2 (by simpa using hb) HLEN.out rfl _ _ rfl (c := c) rfl rfl ?_; intro v6 w6 hown6 hgrow6 hb6)
      go_ret
      exact ⟨_, rfl, by simpa using hown6, ⟨hgrow6.os, hgrow6.tape, hgrow6.output, hgrow6.size, hgrow6.block⟩, ((Below.refl _ w).drewN' nq).trans hb6⟩
end Go.Proofs.Ytlooclpfoeakgaa

/- Reduced words: the walks of reduce and product. -/
namespace Go.Proofs.Ytlooclpfoeakgaa
open Go.RowKit

/-- the value v reads as the strings ss -/
def Strs (w : World) (v : Value) (ss : List ByteArray) : Prop :=
  ∃ (a : Option Addr) (cap : Nat), v = .slice a ss.length cap ∧ (ss.length ≤ cap ∧ cap ≤ 9223372036854775807) ∧
    (0 < ss.length → ∃ b o, a = some ⟨b, o, none⟩ ∧ b < w.heap.size ∧ ∀ j s, ss[j]? = some s → w.cell? ⟨b, o + j, none⟩ = some (.string s))
theorem Strs.keep {w w' : World} {v : Value} {ss : List ByteArray} (h : Strs w v ss) (hb : Below w.heap.size w w') : Strs w' v ss := by
  obtain ⟨a, cap, rfl, hl, h⟩ := h
  refine ⟨a, cap, rfl, hl, fun hp => ?_⟩
  obtain ⟨b, o, rfl, hlt, hc⟩ := h hp
  exact ⟨b, o, rfl, Nat.lt_of_lt_of_le hlt hb.size, fun j x hj => (hb.cell (p := ⟨b, o + j, none⟩) hlt).trans (hc j x hj)⟩
theorem Strs.open {w : World} {v : Value} {ss : List ByteArray} (h : Strs w v ss) : ∃ a n cap, v = .slice a n cap ∧ Hid (ss.length = n) ∧ n ≤ cap ∧ cap ≤ 9223372036854775807 := by
  obtain ⟨a', cap', hv, hl, h⟩ := h
  exact ⟨a', _, cap', hv, rfl, hl.1, hl.2⟩
theorem Strs.at_ {w : World} {a : Option Addr} {n cap : Nat} {ss : List ByteArray} (h : Strs w (.slice a n cap) ss) {k : Nat} (hk : k < n) :
    ∃ b o s, a = some ⟨b, o, none⟩ ∧ b < w.heap.size ∧ Hid (ss[k]? = some s) ∧ w.cell? ⟨b, o + k, none⟩ = some (.string s) := by
  obtain ⟨a', cap', hv, hl, h⟩ := h
  obtain ⟨rfl, rfl, rfl⟩ : a = a' ∧ n = ss.length ∧ cap = cap' := by simpa using hv
  obtain ⟨b, o, rfl, hlt, hc⟩ := h (by omega)
  have e : ss[k]? = some ss[k] := List.getElem?_eq_getElem hk
  exact ⟨b, o, ss[k], rfl, hlt, e, hc k _ e⟩
theorem Strs.lit (w : World) (e : TypeId) (ss : List ByteArray) (hl : ss.length ≤ 1000000) : Strs (w.alloc (.cells (ss.map Value.string).toArray e)) (.slice (some ⟨w.heap.size, 0, none⟩) ss.length ss.length) ss := by
  refine ⟨_, _, rfl, ⟨Nat.le_refl _, by omega⟩, fun _ => ⟨_, 0, rfl, by simp, fun j s hj => ?_⟩⟩
  exact (Blk.new w e (ss.map Value.string)).cell (by simp [hj])

/-- nails as a value: a mark for each -/
def marksL (f : Nat → Bool) : List Value := (List.range 26).map fun i => .bool (f i)
abbrev nailsV (f : Nat → Bool) : Value := .agg (marksL f).toArray
theorem marks_get {f : Nat → Bool} {i : Nat} (h : i < 26) : (marksL f)[i]? = some (.bool (f i)) := by simp [marksL, h]

def stepR (f : Nat → Bool) (acc : List UInt8) (c : UInt8) : List UInt8 := if f (nailB c) then acc else putL acc c
/-- the reduced form, without some nails -/
def redL (f : Nat → Bool) (l : List UInt8) : List UInt8 := l.foldl (stepR f) []
theorem stepR_len (f : Nat → Bool) (acc : List UInt8) (c : UInt8) : (stepR f acc c).length ≤ acc.length + 1 := by
  unfold stepR
  split
  · omega
  · exact putL_len _ _
theorem fold_len (f : Nat → Bool) : ∀ (l acc : List UInt8), (l.foldl (stepR f) acc).length ≤ acc.length + l.length
  | [], acc => by simp
  | c :: l, acc => by
    rw [List.foldl_cons]
    have h1 := fold_len f l (stepR f acc c)
    have h2 := stepR_len f acc c
    rw [List.length_cons]
    omega
theorem conv_own {w : World} {base : Nat} {v : Value} {bs : List UInt8} (h : OwnB w base v bs) : (convert 115 9 v).run Try.prog w = .ok (.string ⟨bs.toArray⟩) w := by
  rcases h with ⟨rfl, rfl⟩ | ⟨g, cap, cur, rfl, hb, hg, hl, hm, hc, ht⟩
  · exact Lib.run_convert_nil_bytes w 115 9 5 0 Try.underlying115 Try.underlying5 Try.underlying9
  · have hbt : Lib.Bytes w g 0 ⟨bs.toArray⟩ := by
      intro i hi
      rw [cell_of_row w g (0 + i) cur 5 (0, 0) hg, Nat.zero_add]
      have hi2 : i < bs.length := by simpa [ByteArray.size] using hi
      have h2 : (B8s bs)[i]? = some (.int .u8 ((bs[i]'hi2).toNat : Int)) := by simp [B8s, hi2]
      rw [← ht, List.getElem?_take, if_pos hi2] at h2
      rw [← Array.getElem?_toList, h2]
      simp [ByteArray.getElem_eq_getElem_data]
    exact Lib.run_convert_whole w 115 5 9 Try.underlying115 Try.underlying5 Try.underlying9 g 0 ⟨bs.toArray⟩ hbt cap
end Go.Proofs.Ytlooclpfoeakgaa

/- Reduced words: the walk of reduce. -/
namespace Go.Proofs.Ytlooclpfoeakgaa
open Go.RowKit

theorem letter_at {s : ByteArray} (h : isWord (bts s) = true) {k : Nat} (hk : k < s.size) : letter ((s[k]'hk).toNat : Int) = true := by
  have := List.all_eq_true.1 h _ (List.mem_of_getElem? (bts_get hk))
  simpa using this
theorem nail_lt {c : UInt8} (h : letter (c.toNat : Int) = true) : nailB c < 26 := by
  have := letter_low c h
  unfold nailB; omega
theorem drop_bts {s : ByteArray} {k : Nat} (h : k < s.size) : (bts s).drop k = (s[k]'h) :: (bts s).drop (k + 1) := by
  obtain ⟨hk2, he⟩ := List.getElem?_eq_some_iff.1 (bts_get h)
  rw [List.drop_eq_getElem_cons hk2, he]
def restL (ss : List ByteArray) (k : Nat) : List UInt8 := ((ss.drop k).map bts).flatten
theorem rest_at {ss : List ByteArray} {k : Nat} {s : ByteArray} (h : ss[k]? = some s) : restL ss k = bts s ++ restL ss (k + 1) := by
  obtain ⟨hk, rfl⟩ := List.getElem?_eq_some_iff.1 h
  rw [restL, List.drop_eq_getElem_cons hk]
  rfl

structure RS (w W : World) (f : Nat → Bool) (ov : Value) (bs R : List UInt8) (F : List UInt8) (T : Nat) : Prop where
  own : OwnB W (w.heap.size + 1) ov bs
  blk : Blk W w.heap.size 201 (marksL f)
  below : Below w.heap.size w W
  eq : F = R.foldl (stepR f) bs
  len : bs.length + R.length ≤ T
theorem RS.skip {w W : World} {f : Nat → Bool} {ov : Value} {bs R : List UInt8} {F : List UInt8} {T : Nat} {c : UInt8} (h : RS w W f ov bs (c :: R) F T) (hf : f (nailB c) = true) : RS w W f ov bs R F T :=
  ⟨h.own, h.blk, h.below, by rw [h.eq, List.foldl_cons, stepR, hf]; rfl, by have := h.len; rw [List.length_cons] at this; omega⟩
theorem RS.put {w W W' : World} {f : Nat → Bool} {ov ov' : Value} {bs R : List UInt8} {F : List UInt8} {T : Nat} {c : UInt8} (h : RS w W f ov bs (c :: R) F T) (hf : f (nailB c) = false)
    (ho : OwnB W' (w.heap.size + 1) ov' (putL bs c)) (hg : W.grownBy W' ov.ownBlock) (hb : Below (w.heap.size + 1) W W') : RS w W' f ov' (putL bs c) R F T :=
  ⟨ho, h.blk.grown hg (fun e => by have := (h.own.lt _ e.symm).1; omega), h.below.trans (hb.mono (by omega)), by rw [h.eq, List.foldl_cons, stepR, hf]; rfl, by have := h.len; have := putL_len bs c; rw [List.length_cons] at *; omega⟩

set_option maxRecDepth 100000 in
set_option maxHeartbeats 4000000 in
theorem reduce_any (f : Nat → Bool) (v : Value) (ss : List ByteArray) (w : World) (hv : Strs w v ss) (hw : ∀ s ∈ ss, isWord (bts s) = true) (hl : (restL ss 0).length < 100000000) :
    Calls Try.prog 149 #[nailsV f, v] w fun e w' => e = .returned (.string ⟨(redL f (restL ss 0)).toArray⟩) ∧ Below w.heap.size w w' := by
  obtain ⟨a, n, cap, rfl, HN, hn1, hn2⟩ := hv.open
  have hrs : RS w (w.alloc (.cells (marksL f).toArray 201)) f (.slice none 0 0) [] (restL ss 0) (redL f (restL ss 0)) (restL ss 0).length := ⟨OwnB.nil _ _, Blk.new _ _ _, (Below.refl _ _).alloc (Nat.le_refl _) _, rfl, by simp⟩
  obtain ⟨T, hT⟩ : ∃ T, (restL ss 0).length = T := ⟨_, rfl⟩
  rw [hT] at hl hrs
  generalize hF : redL f (restL ss 0) = F at *
  have HRS := Lib.hid hrs
  have HV := Lib.hid hv
  have HW := Lib.hid hw
  clear hrs hv hw hF hT
  go_enter Try.func149, Try.ntmps149
  go_wp2_with fail
  go_loopw [5, 11] (fun ov iv wr => ∃ (k : Nat) (bs : List UInt8), k ≤ n ∧ iv = .int .i64 k ∧ Hid (RS w wr f ov bs (restL ss k) F T)) (fun _ iv _ => n - (intOf iv).toNat)
  case atStart => exact ⟨0, [], by omega, rfl, HRS⟩
  case round =>
    clear HRS
    obtain ⟨k, bs, hk, rfl, HR⟩ := hrel
    by_cases hlt : k < n
    · obtain ⟨b, o, s, rfl, hbl, hgs, hc0⟩ := HV.out.at_ hlt
      have hc1 := (HR.out.below.cell (p := ⟨b, o + k, none⟩) hbl).trans hc0
      have hR := rest_at hgs.out
      have hws := HW.out s (List.mem_of_getElem? hgs.out)
      rw [hR] at HR
      have hsz : s.size ≤ 100000000 := by have := HR.out.len; rw [List.length_append, bts_len] at this; omega
      have HWS := Lib.hid hws
      clear hc0 hR hws hgs
      go_wp2_with fail
      go_loopw [5, 17] (fun ov iv wx => ∃ (j : Nat) (bs : List UInt8), j ≤ s.size ∧ iv = .int .i64 j ∧ Hid (RS w wx f ov bs ((bts s).drop j ++ restL ss (k + 1)) F T)) (fun _ iv _ => s.size - (intOf iv).toNat)
      case atStart => exact ⟨0, bs, by omega, rfl, HR⟩
      case round =>
        clear HR
        obtain ⟨j, bs, hj, rfl, HR⟩ := hrel
        by_cases hlt2 : j < s.size
        · rw [drop_bts hlt2, List.cons_append] at HR
          have hlet := letter_at HWS.out hlt2
          have hno := fun W => nailOf_any (s[j]'hlt2) W hlet
          have hn26 := nail_lt hlet
          have hcell := HR.out.blk.cell (marks_get (f := f) hn26)
          have hT := HR.out.len
          rw [List.length_cons] at hT
          generalize hfn : f (nailB (s[j]'hlt2)) = b1 at *
          obtain ⟨oa, oc, rfl, _, _⟩ := HR.out.own.shape rfl
          have HNO := Lib.hid hno
          clear hno hlet
          cases b1
          · have hpu := put_any _ bs (s[j]'hlt2) wr (w.heap.size + 1) HR.out.own (by have := HR.out.blk.lt; omega) (by omega)
            have HPU := Lib.hid hpu
            have HFN := Lib.hid hfn
            clear hpu hfn hT
            go_wp2_with (first
              | (go_at_call 155; refine (HNO.out _).mono ?_; rintro e w2 ⟨rfl, rfl⟩)
              | (go_at_call 156; refine HPU.out.mono ?_; rintro e w3 ⟨v3, rfl, ho3, hg3, hb3⟩))
            go_roundw
            case rel => exact ⟨j + 1, _, by omega, by go_num, (show Hid _ from HR.out.put HFN.out ho3 hg3 hb3)⟩
            case measure => simp [intOf]; omega
          · have HFN := Lib.hid hfn
            clear hfn hT
            go_wp2_with (go_at_call 155; refine (HNO.out _).mono ?_; rintro e w2 ⟨rfl, rfl⟩)
            go_roundw
            case rel => exact ⟨j + 1, bs, by omega, by go_num, (show Hid _ from HR.out.skip HFN.out)⟩
            case measure => simp [intOf]; omega
        · obtain rfl : j = s.size := by omega
          rw [List.drop_of_length_le (by rw [bts_len]; exact Nat.le_refl _), List.nil_append] at HR
          go_wp2_with fail
          go_roundw
          case rel => exact ⟨k + 1, bs, by omega, by go_num, HR⟩
          case measure => simp [intOf]; omega
    · obtain rfl : k = n := by omega
      have hr0 : restL ss k = [] := by rw [restL, List.drop_of_length_le (by rw [HN.out]; exact Nat.le_refl _)]; rfl
      rw [hr0] at HR
      have hF : F = bs := HR.out.eq
      subst hF
      have hcv := conv_own HR.out.own
      have HBB := Lib.hid HR.out.below
      obtain ⟨oa, oc, rfl, _, _⟩ := HR.out.own.shape rfl
      clear HR hr0
      go_wp2_with fail
      go_ret
      exact ⟨rfl, HBB.out⟩
end Go.Proofs.Ytlooclpfoeakgaa

/- Reduced words: product, Reduce, and the reference's Reduce: the walks. -/
namespace Go.Proofs.Ytlooclpfoeakgaa
open Go.RowKit

/-- the reduced form -/
def redW (l : List UInt8) : List UInt8 := redL (fun _ => false) l
abbrev strB (l : List UInt8) : ByteArray := ⟨l.toArray⟩
theorem bts_str (l : List UInt8) : bts (strB l) = l := rfl
theorem size_str (l : List UInt8) : (strB l).size = l.length := rfl
theorem rest_one (s : ByteArray) : restL [s] 0 = bts s := by simp [restL]
theorem redW_len (l : List UInt8) : (redW l).length ≤ l.length := by
  have := fold_len (fun _ => false) l []
  simpa [redW, redL] using this

theorem product_any (v : Value) (ss : List ByteArray) (w : World) (hv : Strs w v ss) (hw : ∀ s ∈ ss, isWord (bts s) = true) (hl : (restL ss 0).length < 100000000) :
    Calls Try.prog 132 #[v] w fun e w' => e = .returned (.string (strB (redW (restL ss 0)))) ∧ Below w.heap.size w w' := by
  have hca : Calls Try.prog 149 #[nailsV (fun _ => false), v] w fun e w' => e = .returned (.string (strB (redW (restL ss 0)))) ∧ Below w.heap.size w w' := reduce_any (fun _ => false) v ss w hv hw hl
  obtain ⟨a, n, cap, rfl, _, _, _⟩ := hv.open
  have HCA := Lib.hid hca
  clear hca hw hl hv
  go_enter Try.func132, Try.ntmps132
  go_wp2_with (go_at_call 149; refine HCA.out.mono ?_; rintro e w1 ⟨rfl, hb1⟩)
  go_ret
  exact ⟨rfl, hb1⟩

theorem word_size {s : ByteArray} (h : wordErr s = 0) : isWord (bts s) = true ∧ s.size ≤ 30000 := by
  unfold wordErr at h
  split at h
  · rename_i hw
    split at h
    · cases h
    · exact ⟨hw, by omega⟩
  · cases h
theorem err_cases (s : ByteArray) : wordErr s = 0 ∨ wordErr s = 2 ∨ wordErr s = 40 := by
  unfold wordErr
  split
  · split
    · exact .inr (.inl rfl)
    · exact .inl rfl
  · exact .inr (.inr rfl)

theorem product_one (s : ByteArray) (W : World) (h : isWord (bts s) = true) (hl : s.size < 100000000) :
    Calls Try.prog 132 #[.slice (some ⟨W.heap.size, 0, none⟩) 1 1] (W.alloc (.cells #[.string s] 9)) fun e w' => e = .returned (.string (strB (redW (bts s)))) ∧ Below W.heap.size W w' := by
  have h1 := product_any (.slice (some ⟨W.heap.size, 0, none⟩) 1 1) [s] (W.alloc (.cells #[.string s] 9)) (Strs.lit W 9 [s] (by simp)) (by simpa using h) (by rw [rest_one, bts_len]; exact hl)
  rw [rest_one] at h1
  refine h1.mono ?_
  rintro e w' ⟨rfl, hb⟩
  exact ⟨rfl, ((Below.refl _ _).alloc (Nat.le_refl _) _).trans (hb.mono (by simp))⟩
theorem reduce_one (f : Nat → Bool) (s : ByteArray) (W : World) (h : isWord (bts s) = true) (hl : s.size < 100000000) :
    Calls Try.prog 149 #[nailsV f, .slice (some ⟨W.heap.size, 0, none⟩) 1 1] (W.alloc (.cells #[.string s] 9)) fun e w' => e = .returned (.string (strB (redL f (bts s)))) ∧ Below W.heap.size W w' := by
  have h1 := reduce_any f (.slice (some ⟨W.heap.size, 0, none⟩) 1 1) [s] (W.alloc (.cells #[.string s] 9)) (Strs.lit W 9 [s] (by simp)) (by simpa using h) (by rw [rest_one, bts_len]; exact hl)
  rw [rest_one] at h1
  refine h1.mono ?_
  rintro e w' ⟨rfl, hb⟩
  exact ⟨rfl, ((Below.refl _ _).alloc (Nat.le_refl _) _).trans (hb.mono (by simp))⟩

/-- what Reduce answers -/
theorem Reduce_any (s : ByteArray) (w : World) (hs : s.size ≤ 9223372036854775807) :
    Calls Try.prog 119 #[.string s] w fun e w' => e = .returned (.tuple #[.string (if wordErr s = 0 then strB (redW (bts s)) else ⟨#[]⟩), .int .i64 (wordErr s)]) ∧ Below w.heap.size w w' := by
  have hck := check_any s w hs
  rcases err_cases s with h0 | h0
  · obtain ⟨h1, h2⟩ := word_size h0
    have hpr := fun W => product_one s W h1 (by omega)
    rw [h0] at hck ⊢
    rw [if_pos rfl]
    generalize redW (bts s) = R at *
    have HCK := Lib.hid hck
    have HPR := Lib.hid hpr
    clear hck hpr h0 h1 h2
    go_enter Try.func119, Try.ntmps119
    go_wp2_with (first
      | (go_at_call 132; go_loud (refine (HPR.out _).mono ?_; rintro e w2 ⟨rfl, hb2⟩))
      | (go_at_call 59; refine HCK.out.mono ?_; rintro e w1 ⟨rfl, hb1⟩))
    go_ret2
    exact ⟨rfl, hb1.trans (hb2.mono hb1.size)⟩
  · have hne : wordErr s ≠ 0 := by omega
    have t0 : (wordErr s != 0) = true := by simpa using hne
    rw [if_neg hne]
    generalize wordErr s = E at *
    have HCK := Lib.hid hck
    clear hck hne h0
    go_enter Try.func119, Try.ntmps119
    go_wp2_with (go_at_call 59; refine HCK.out.mono ?_; rintro e w1 ⟨rfl, hb1⟩)
    go_ret2
    exact ⟨rfl, hb1⟩

/-- make of no bytes, with room for n. -/
theorem wpList_makeB {P : Program} {w : World} {ops : Array Oper} {rest : List Oper} {o : Oper} {a : Act} {Q : Exit → Act → World → Prop} {t : TypeId}
    (hinfo : (P.info? 5).map (fun i => (i.zero, i.size, i.bytes)) = some (some (.int .u8 0), 1, 1)) (ht : P.underlying t = some (.slice 5)) {base : Nat} (hb : base ≤ w.heap.size)
    (hg : o.guard = none) (l c : Operand) (hop : o.op = Op.makeSlice t l c) (n : Nat)
    {kl kc : IntKind} {C : Int} (hl : a.eval l = .int kl 0) (hc : a.eval c = .int kc C) (hC : C = (n : Int)) (hn : n ≤ 100000000)
    (hK : ∀ w', OwnB w' base (.slice (some ⟨w.heap.size, 0, none⟩) 0 n) [] → Below w.heap.size w w' → w'.heap.size = w.heap.size + 1 → wpList P ops Q rest (a.put o.dst (.slice (some ⟨w.heap.size, 0, none⟩) 0 n)) w') :
    wpList P ops Q (o :: rest) a w := by
  obtain ⟨i, h2, h3, h4, h5⟩ := info_parts hinfo
  refine wpList_plain hg fun K hK' => ?_
  subst hC
  have hrun := run_make (P := P) w t 5 i _ ht h2 h3 kl kc 0 (n : Int) (by omega) (by omega) (by rw [h5]; omega) (by omega)
  unfold Oper.wp
  simp [execOp, hop, hl, hc, hrun, Result.andThen, h4, Value.cells]
  refine hK' _ _ (hK _ (.inr ⟨w.heap.size, n, _, rfl, hb, heap_alloc_new w _, by simp, by unfold maxLen; omega, ?_, by simp⟩) ?_ ?_)
  · rw [← Array.length_toList, toList_madeCells_one]
    simp
  · exact (Below.refl _ _).alloc (Nat.le_refl _) _
  · simp
end Go.Proofs.Ytlooclpfoeakgaa

/- Inverses: the reference's walk. -/
namespace Go.Proofs.Ytlooclpfoeakgaa
open Go.RowKit

/-- the inverse -/
def invL (l : List UInt8) : List UInt8 := (l.map invB).reverse
theorem invL_len (l : List UInt8) : (invL l).length = l.length := by simp [invL]
theorem invL_drop {s : ByteArray} {k : Nat} (h : k < s.size) : invL ((bts s).drop k) = invL ((bts s).drop (k + 1)) ++ [invB (s[k]'h)] := by
  rw [drop_bts h, invL, List.map_cons, List.reverse_cons]; rfl

set_option maxHeartbeats 2000000 in
theorem rInverse_any (s : ByteArray) (w : World) (hw : isWord (bts s) = true) (hs : s.size < 100000000) :
    Calls Try.prog 38 #[.string s] w fun e w' => e = .returned (.string (strB (invL (bts s)))) ∧ Below w.heap.size w w' := by
  have HW := Lib.hid hw
  clear hw
  go_enter Try.func38, Try.ntmps38
  go_wp2_with (refine wpList_makeB (base := w.heap.size) Try.info5 Try.underlying115 (Nat.le_refl _) rfl _ _ rfl s.size rfl rfl rfl (by omega) ?_; intro w1 hown1 hb1 hz1)
  have HO := Lib.hid hown1
  have HB := Lib.hid hb1
  clear hown1 hb1
  go_loopw [3, 4] (fun ov iv wr => ∃ (k : Nat), k ≤ s.size ∧ iv = .int .i64 ((k : Int) - 1) ∧ Hid (OwnB wr w.heap.size ov (invL ((bts s).drop k))) ∧ Below w.heap.size w wr) (fun _ iv _ => (intOf iv + 1).toNat)
  case atStart => exact ⟨s.size, by omega, by go_num, by rw [List.drop_of_length_le (by rw [bts_len]; exact Nat.le_refl _)]; exact HO, HB.out⟩
  case round =>
    clear HO HB
    obtain ⟨k, hk, rfl, HO, hB⟩ := hrel
    have hsz := hB.size
    rcases k with _ | k
    · have hi : ¬ (0 : Int) ≤ ((0 : Nat) : Int) - 1 := by omega
      have hcv := conv_own HO.out
      obtain ⟨oa, oc, rfl, _, _⟩ := HO.out.shape rfl
      simp only [List.drop_zero] at hcv ⊢
      go_wp2_with fail
      go_ret
      exact ⟨rfl, hB⟩
    · have hlt : k < s.size := by omega
      have hlet := letter_at HW.out hlt
      have hot := fun W => other_any (s[k]'hlt) W hlet
      have hl : (invL ((bts s).drop (k + 1))).length < 1000000000 := by rw [invL_len, List.length_drop, bts_len]; omega
      have hd := invL_drop hlt
      generalize invL ((bts s).drop (k + 1)) = bs at *
      have HOT := Lib.hid hot
      have HL := Lib.hid hl
      have HD := Lib.hid hd
      clear hot hl hd hlet
      rw [show ((k + 1 : Nat) : Int) - 1 = k by omega]
      obtain ⟨oa, oc, rfl, _, _⟩ := HO.out.shape rfl
      go_wp2_with (first
        | (go_at_call 77; refine (HOT.out _).mono ?_; rintro e w2 ⟨rfl, rfl⟩)
        | (at_builtin; refine wpList_appB Try.info5 Try.underlying115 HO.out (by simpa using hsz) HL.out rfl _ _ rfl (c := invB (s[k]'hlt)) rfl rfl ?_; intro v6 w6 hown6 hgrow6 hb6))
      go_roundw
      case rel => exact ⟨k, by omega, rfl, by show Hid _; rw [HD.out]; exact hown6, hB.trans hb6⟩
      case measure => simp [intOf]
end Go.Proofs.Ytlooclpfoeakgaa

/- Plain laws of reduced words: the group that they form. -/
namespace Go.Proofs.Ytlooclpfoeakgaa
open Go.RowKit

theorem inv_inv : ∀ c : UInt8, invB (invB c) = c := for_bytes (by decide +kernel)
theorem inv_ne : ∀ c : UInt8, invB c ≠ c := for_bytes (by decide +kernel)
theorem low_inv : ∀ c : UInt8, lowB (invB c) = lowB c := for_bytes (by decide +kernel)
theorem nail_inv (c : UInt8) : nailB (invB c) = nailB c := by unfold nailB; rw [low_inv]

/-- no two letters beside one another undo each other -/
inductive Rd : List UInt8 → Prop
  | nil : Rd []
  | one (c : UInt8) : Rd [c]
  | cons (a b : UInt8) (l : List UInt8) : a ≠ invB b → Rd (b :: l) → Rd (a :: b :: l)

theorem Rd.tail {a : UInt8} {l : List UInt8} (h : Rd (a :: l)) : Rd l := by
  cases h with
  | one => exact .nil
  | cons _ _ _ _ h => exact h
theorem Rd.ne {a b : UInt8} {l : List UInt8} (h : Rd (a :: b :: l)) : a ≠ invB b := by
  cases h with
  | cons _ _ _ h _ => exact h
theorem Rd.app_left {l : List UInt8} : ∀ {k : List UInt8}, Rd (k ++ l) → Rd k
  | [], _ => .nil
  | [a], _ => .one a
  | a :: b :: k, h => .cons a b k (Rd.ne h) (Rd.app_left (k := b :: k) h.tail)
theorem Rd.app_right {l : List UInt8} : ∀ {k : List UInt8}, Rd (k ++ l) → Rd l
  | [], h => h
  | _ :: k, h => Rd.app_right (k := k) (Rd.tail h)
theorem Rd.snoc {x c : UInt8} : ∀ {l : List UInt8}, Rd (l ++ [x]) → x ≠ invB c → Rd (l ++ [x, c])
  | [], _, h => .cons x c [] h (.one c)
  | [a], h, h2 => .cons a x [c] (Rd.ne h) (.cons x c [] h2 (.one c))
  | a :: b :: l, h, h2 => .cons a b _ (Rd.ne h) (Rd.snoc (l := b :: l) h.tail h2)
theorem Rd.join {x y : UInt8} {k : List UInt8} : ∀ {l : List UInt8}, Rd (l ++ [x]) → Rd (y :: k) → x ≠ invB y → Rd (l ++ x :: y :: k)
  | [], _, h2, h3 => .cons x y k h3 h2
  | [a], h, h2, h3 => .cons a x _ (Rd.ne h) (.cons x y k h3 h2)
  | a :: b :: l, h, h2, h3 => .cons a b _ (Rd.ne h) (Rd.join (l := b :: l) h.tail h2 h3)

theorem putL_cases (l : List UInt8) (c : UInt8) : (∃ k, l = k ++ [invB c] ∧ putL l c = k) ∨ (l = [] ∧ putL l c = [c]) ∨ ∃ k x, l = k ++ [x] ∧ x ≠ invB c ∧ putL l c = k ++ [x, c] := by
  rcases List.eq_nil_or_concat l with rfl | ⟨k, x, rfl⟩
  · exact .inr (.inl ⟨rfl, putL_nil c⟩)
  · rw [List.concat_eq_append]
    by_cases hx : x = invB c
    · subst hx; exact .inl ⟨k, rfl, putL_pop rfl⟩
    · exact .inr (.inr ⟨k, x, rfl, hx, putL_push hx⟩)
theorem putL_rd {l : List UInt8} (h : Rd l) (c : UInt8) : Rd (putL l c) := by
  rcases putL_cases l c with ⟨k, rfl, e⟩ | ⟨rfl, e⟩ | ⟨k, x, rfl, hx, e⟩
  · rw [e]; exact h.app_left
  · rw [e]; exact .one c
  · rw [e]; exact h.snoc hx
theorem putL_back {l : List UInt8} (h : Rd l) (c : UInt8) : putL (putL l c) (invB c) = l := by
  rcases putL_cases l c with ⟨k, rfl, e⟩ | ⟨rfl, e⟩ | ⟨k, x, rfl, hx, e⟩
  · rw [e]
    rcases List.eq_nil_or_concat k with rfl | ⟨k, x, rfl⟩
    · exact putL_nil _
    · rw [List.concat_eq_append] at *
      rw [putL_push]
      · simp
      · have h2 : Rd ([x] ++ [invB c]) := by
          refine Rd.app_right (k := k) ?_
          simpa using h
        exact Rd.ne h2
  · rw [e]
    exact putL_pop (l := []) (inv_inv c).symm
  · rw [e, show k ++ [x, c] = (k ++ [x]) ++ [c] by simp]
    exact putL_pop (inv_inv c).symm

/-- the word's letters put behind -/
def act (st w : List UInt8) : List UInt8 := w.foldl putL st
theorem act_nil (st : List UInt8) : act st [] = st := rfl
theorem act_cons (st : List UInt8) (c : UInt8) (w : List UInt8) : act st (c :: w) = act (putL st c) w := rfl
theorem act_app (st u w : List UInt8) : act st (u ++ w) = act (act st u) w := List.foldl_append ..
theorem act_rd {st : List UInt8} (h : Rd st) : ∀ (w : List UInt8), Rd (act st w)
  | [] => h
  | c :: w => act_rd (putL_rd h c) w
theorem stepR_false : stepR (fun _ => false) = putL := by funext l c; simp [stepR]
theorem redW_act (l : List UInt8) : redW l = act [] l := by unfold redW redL act; rw [stepR_false]
theorem redW_rd (l : List UInt8) : Rd (redW l) := by rw [redW_act]; exact act_rd .nil l
theorem redW_snoc (l : List UInt8) (c : UInt8) : redW (l ++ [c]) = putL (redW l) c := by rw [redW_act, redW_act, act_app]; rfl

theorem act_red {st : List UInt8} (h : Rd st) (l : List UInt8) : act st (redW l) = act st l := by
  suffices H : ∀ (n : Nat) (l : List UInt8), l.length = n → act st (redW l) = act st l from H _ l rfl
  intro n
  induction n with
  | zero => intro l hl; obtain rfl := List.eq_nil_of_length_eq_zero hl; rfl
  | succ n ih =>
    intro l hl
    rcases List.eq_nil_or_concat l with rfl | ⟨k, c, rfl⟩
    · rfl
    · rw [List.concat_eq_append] at *
      have hk := ih k (by simpa using hl)
      rw [redW_snoc, act_app, ← hk]
      rcases putL_cases (redW k) c with ⟨m, e1, e⟩ | ⟨e1, e⟩ | ⟨m, x, e1, hx, e⟩
      · rw [e, e1, act_app]
        have := putL_back (act_rd h m) (invB c)
        rw [inv_inv] at this
        exact this.symm
      · rw [e, e1]; rfl
      · rw [e, e1, ← act_app]; simp

theorem act_self {l : List UInt8} : ∀ (k : List UInt8), Rd (k ++ l) → act k l = k ++ l := by
  induction l with
  | nil => intro k _; simp [act_nil]
  | cons c l ih =>
    intro k h
    rw [act_cons]
    have e : putL k c = k ++ [c] := by
      rcases putL_cases k c with ⟨m, rfl, _⟩ | ⟨rfl, e⟩ | ⟨m, x, rfl, hx, e⟩
      · exfalso
        have h2 : Rd (invB c :: c :: l) := by refine Rd.app_right (k := m) ?_; simpa using h
        exact Rd.ne h2 rfl
      · exact e
      · rw [e]; simp
    rw [e, ih _ (by simpa using h)]
    simp
theorem redW_self {l : List UInt8} (h : Rd l) : redW l = l := by
  rw [redW_act, act_self [] (by simpa using h)]; rfl
theorem redW_idem (l : List UInt8) : redW (redW l) = redW l := redW_self (redW_rd l)
theorem redW_app (a b : List UInt8) : redW (a ++ b) = act (redW a) b := by rw [redW_act, act_app, ← redW_act]
theorem redW_right (a b : List UInt8) : redW (a ++ redW b) = redW (a ++ b) := by rw [redW_app, redW_app, act_red (redW_rd a)]
theorem redW_left (a b : List UInt8) : redW (redW a ++ b) = redW (a ++ b) := by rw [redW_app, redW_app, redW_idem]
theorem redW_nil : redW [] = [] := rfl

/-- the same wire -/
def Eqv (a b : List UInt8) : Prop := redW a = redW b
theorem Eqv.refl (a : List UInt8) : Eqv a a := rfl
theorem Eqv.symm {a b : List UInt8} (h : Eqv a b) : Eqv b a := Eq.symm h
theorem Eqv.trans {a b c : List UInt8} (h : Eqv a b) (h2 : Eqv b c) : Eqv a c := Eq.trans h h2
theorem Eqv.red (a : List UInt8) : Eqv (redW a) a := redW_idem a
theorem Eqv.app {a b c d : List UInt8} (h : Eqv a b) (h2 : Eqv c d) : Eqv (a ++ c) (b ++ d) := by
  unfold Eqv at *
  rw [← redW_left, ← redW_right, h, h2, redW_right, redW_left]
theorem Eqv.left (x : List UInt8) {a b : List UInt8} (h : Eqv a b) : Eqv (x ++ a) (x ++ b) := (Eqv.refl x).app h
theorem Eqv.right (x : List UInt8) {a b : List UInt8} (h : Eqv a b) : Eqv (a ++ x) (b ++ x) := h.app (Eqv.refl x)
theorem Eqv.of_rd {a b : List UInt8} (h : Eqv a b) (ha : Rd a) (hb : Rd b) : a = b := by
  have := h; unfold Eqv at this; rwa [redW_self ha, redW_self hb] at this

theorem redW_pair (c : UInt8) : redW [c, invB c] = [] := by
  rw [show [c, invB c] = [c] ++ [invB c] from rfl, redW_snoc, redW_self (.one c)]
  exact putL_pop (l := []) (inv_inv c).symm
theorem invL_app (a b : List UInt8) : invL (a ++ b) = invL b ++ invL a := by unfold invL; simp
theorem invL_cons (c : UInt8) (a : List UInt8) : invL (c :: a) = invL a ++ [invB c] := by unfold invL; simp
theorem invL_inv (a : List UInt8) : invL (invL a) = a := by
  unfold invL
  rw [List.map_reverse, List.reverse_reverse, List.map_map]
  conv => rhs; rw [← List.map_id a]
  congr 1
  funext c
  exact inv_inv c
theorem Eqv.inv_right : ∀ (a : List UInt8), Eqv (a ++ invL a) []
  | [] => rfl
  | c :: a => by
    rw [invL_cons, show c :: a ++ (invL a ++ [invB c]) = [c] ++ ((a ++ invL a) ++ [invB c]) by simp]
    refine (Eqv.left [c] (Eqv.right [invB c] (Eqv.inv_right a))).trans ?_
    exact redW_pair c
theorem Eqv.inv_left (a : List UInt8) : Eqv (invL a ++ a) [] := by
  have := Eqv.inv_right (invL a)
  rwa [invL_inv] at this
theorem Eqv.inv {a b : List UInt8} (h : Eqv a b) : Eqv (invL a) (invL b) := by
  have h1 : Eqv (invL a) (invL a ++ (b ++ invL b)) := by
    have := Eqv.left (invL a) (Eqv.inv_right b).symm
    simpa using this
  have h2 : Eqv (invL a ++ (b ++ invL b)) ((invL a ++ a) ++ invL b) := by
    rw [← List.append_assoc]
    exact Eqv.right _ (Eqv.left _ h.symm)
  have h3 : Eqv ((invL a ++ a) ++ invL b) (invL b) := by
    have := Eqv.right (invL b) (Eqv.inv_left a)
    simpa using this
  exact h1.trans (h2.trans h3)
theorem Rd.rev {l : List UInt8} (h : Rd l) : Rd (invL l) := by
  induction h with
  | nil => exact .nil
  | one c => exact .one _
  | cons a b l hab _ ih =>
    rw [invL_cons, invL_cons, List.append_assoc]
    rw [invL_cons] at ih
    refine Rd.snoc ih ?_
    intro e
    rw [inv_inv] at e
    exact hab e.symm
theorem redW_inv (l : List UInt8) : redW (invL l) = invL (redW l) := by
  have h1 : Eqv (invL l) (invL (redW l)) := (Eqv.red l).symm.inv
  have h2 := h1
  unfold Eqv at h2
  rw [h2, redW_self (redW_rd l).rev]

/-- the letters of other nails -/
def keep (f : Nat → Bool) (l : List UInt8) : List UInt8 := l.filter fun c => !f (nailB c)
theorem redL_keep (f : Nat → Bool) (l : List UInt8) : redL f l = redW (keep f l) := by
  have H : ∀ (l acc : List UInt8), l.foldl (stepR f) acc = act acc (keep f l) := by
    intro l
    induction l with
    | nil => intro acc; rfl
    | cons c l ih =>
      intro acc
      rw [List.foldl_cons, ih]
      unfold keep stepR
      cases hf : f (nailB c)
      · rw [List.filter_cons_of_pos (by simp [hf])]; rfl
      · rw [List.filter_cons_of_neg (by simp [hf])]; rfl
  rw [redW_act]
  exact H l []
theorem keep_app (f : Nat → Bool) (a b : List UInt8) : keep f (a ++ b) = keep f a ++ keep f b := by simp [keep]
theorem keep_inv (f : Nat → Bool) (a : List UInt8) : keep f (invL a) = invL (keep f a) := by
  unfold keep invL
  rw [List.filter_reverse, List.filter_map]
  congr 2
  apply List.filter_congr
  intro c _
  simp [nail_inv]
theorem keep_red (f : Nat → Bool) (l : List UInt8) : Eqv (keep f (redW l)) (keep f l) := by
  suffices H : ∀ (n : Nat) (l : List UInt8), l.length = n → Eqv (keep f (redW l)) (keep f l) from H _ l rfl
  intro n
  induction n with
  | zero => intro l hl; obtain rfl := List.eq_nil_of_length_eq_zero hl; rfl
  | succ n ih =>
    intro l hl
    rcases List.eq_nil_or_concat l with rfl | ⟨k, c, rfl⟩
    · rfl
    · rw [List.concat_eq_append] at *
      have hk := ih k (by simpa using hl)
      rw [redW_snoc, keep_app]
      refine Eqv.trans ?_ (Eqv.right _ hk)
      rcases putL_cases (redW k) c with ⟨m, e1, e⟩ | ⟨e1, e⟩ | ⟨m, x, e1, hx, e⟩
      · rw [e, e1, keep_app, List.append_assoc]
        have : Eqv (keep f [invB c] ++ keep f [c]) [] := by
          unfold keep
          cases hf : f (nailB c)
          · rw [List.filter_cons_of_pos (by simp [hf, nail_inv]), List.filter_cons_of_pos (by simp [hf])]
            have := redW_pair (invB c)
            rw [inv_inv] at this
            exact this
          · rw [List.filter_cons_of_neg (by simp [hf, nail_inv]), List.filter_cons_of_neg (by simp [hf])]
            rfl
        have := Eqv.left (keep f m) this.symm
        simpa using this
      · rw [e, e1]; exact Eqv.refl _
      · rw [e, e1, ← keep_app]
        simp [Eqv.refl]
theorem Eqv.keep {a b : List UInt8} (f : Nat → Bool) (h : Eqv a b) : Eqv (keep f a) (keep f b) := by
  have h1 := keep_red f a
  have h2 := keep_red f b
  rw [show redW a = redW b from h] at h1
  exact h1.symm.trans h2
theorem keep_keep (f g : Nat → Bool) (h : ∀ i, f i = true → g i = true) (l : List UInt8) : Go.Proofs.Ytlooclpfoeakgaa.keep g (Go.Proofs.Ytlooclpfoeakgaa.keep f l) = Go.Proofs.Ytlooclpfoeakgaa.keep g l := by
  unfold Go.Proofs.Ytlooclpfoeakgaa.keep
  rw [List.filter_filter]
  apply List.filter_congr
  intro c _
  cases hg : g (nailB c)
  · cases hf : f (nailB c)
    · rfl
    · rw [h _ hf] at hg; cases hg
  · rfl
/-- what falls with some nails falls with more -/
theorem falls_more {f g : Nat → Bool} (h : ∀ i, f i = true → g i = true) {l : List UInt8} (hf : redL f l = []) : redL g l = [] := by
  rw [redL_keep] at *
  have : Eqv (keep f l) [] := hf
  have h2 := this.keep g
  rw [keep_keep f g h] at h2
  exact h2
theorem redL_congr {f g : Nat → Bool} {l : List UInt8} (h : ∀ c ∈ l, f (nailB c) = g (nailB c)) : redL f l = redL g l := by
  rw [redL_keep, redL_keep]
  congr 1
  unfold keep
  apply List.filter_congr
  intro c hc
  rw [h c hc]
theorem redL_eqv {f : Nat → Bool} {a b : List UInt8} (h : Eqv a b) : redL f a = redL f b := by
  rw [redL_keep, redL_keep]
  exact h.keep f
end Go.Proofs.Ytlooclpfoeakgaa

/- Folded graphs: what is read in them. Plain laws. -/
namespace Go.Proofs.Ytlooclpfoeakgaa

/-- where a word leads -/
def runS {V : Type} (s : V → UInt8 → Option V) : V → List UInt8 → Option V
  | v, [] => some v
  | v, c :: w => (s v c).bind fun u => runS s u w
/-- each edge leads back by the other letter -/
def Foldd {V : Type} (s : V → UInt8 → Option V) : Prop := ∀ v c u, s v c = some u → s u (invB c) = some v

section
variable {V : Type} {s : V → UInt8 → Option V}
theorem run_app (v : V) (a b : List UInt8) : runS s v (a ++ b) = (runS s v a).bind fun u => runS s u b := by
  induction a generalizing v with
  | nil => rfl
  | cons c a ih =>
    show (s v c).bind _ = ((s v c).bind _).bind _
    cases s v c with
    | none => rfl
    | some u => exact ih u
theorem run_app_some {v u x : V} {a b : List UInt8} (h1 : runS s v a = some u) (h2 : runS s u b = some x) : runS s v (a ++ b) = some x := by
  rw [run_app, h1]; exact h2
theorem run_split {v x : V} {a b : List UInt8} (h : runS s v (a ++ b) = some x) : ∃ u, runS s v a = some u ∧ runS s u b = some x := by
  rw [run_app] at h
  cases h1 : runS s v a with
  | none => rw [h1] at h; cases h
  | some u => rw [h1] at h; exact ⟨u, rfl, h⟩
theorem run_one (v : V) (c : UInt8) : runS s v [c] = s v c := by
  show (s v c).bind _ = _
  cases s v c <;> rfl
theorem run_inv (hf : Foldd s) : ∀ {w : List UInt8} {v u : V}, runS s v w = some u → runS s u (invL w) = some v := by
  intro w
  induction w with
  | nil => intro v u h; exact (Option.some.inj h) ▸ rfl
  | cons c w ih =>
    intro v u h
    rw [show c :: w = [c] ++ w from rfl] at h
    obtain ⟨x, h1, h2⟩ := run_split h
    rw [run_one] at h1
    rw [invL_cons]
    refine run_app_some (ih h2) ?_
    rw [run_one]
    exact hf _ _ _ h1
theorem run_red (hf : Foldd s) : ∀ {w : List UInt8} {v u : V}, runS s v w = some u → runS s v (redW w) = some u := by
  intro w
  suffices H : ∀ (n : Nat) (w : List UInt8), w.length = n → ∀ v u, runS s v w = some u → runS s v (redW w) = some u from fun {v u} => H _ w rfl v u
  intro n
  induction n with
  | zero => intro w hw v u h; obtain rfl := List.eq_nil_of_length_eq_zero hw; exact h
  | succ n ih =>
    intro w hw v u h
    rcases List.eq_nil_or_concat w with rfl | ⟨k, c, rfl⟩
    · exact h
    · rw [List.concat_eq_append] at *
      obtain ⟨x, h1, h2⟩ := run_split h
      rw [run_one] at h2
      have h3 := ih k (by simpa using hw) v x h1
      rw [redW_snoc]
      rcases putL_cases (redW k) c with ⟨m, e1, e⟩ | ⟨e1, e⟩ | ⟨m, y, e1, hx, e⟩
      · rw [e]
        rw [e1] at h3
        obtain ⟨y, h4, h5⟩ := run_split h3
        rw [run_one] at h5
        have h6 := hf _ _ _ h5
        rw [inv_inv, h2] at h6
        rw [h4, ← Option.some.inj h6]
      · rw [e]
        rw [e1] at h3
        obtain rfl : v = x := Option.some.inj h3
        rw [run_one]; exact h2
      · rw [e, show m ++ [y, c] = (m ++ [y]) ++ [c] by simp, ← e1]
        exact run_app_some h3 (by rw [run_one]; exact h2)
/-- what ends alike, back and forth -/
theorem run_back (hf : Foldd s) {o v : V} {a b : List UInt8} (ha : runS s o a = some v) (hb : runS s o b = some v) : runS s o (redW (a ++ invL b)) = some o :=
  run_red hf (run_app_some ha (run_inv hf hb))
theorem run_same (hf : Foldd s) {o v : V} {a b : List UInt8} (hra : Rd a) (hb : runS s o b = some v) (h : runS s o (redW (a ++ invL b)) = some o) : runS s o a = some v := by
  have h1 := run_red hf (run_app_some h hb)
  have e : redW (redW (a ++ invL b) ++ b) = a := by
    rw [redW_left, List.append_assoc, ← redW_right, show redW (invL b ++ b) = [] from Eqv.inv_left b, List.append_nil, redW_self hra]
  rwa [e] at h1
end

/-- what some words make -/
inductive Gen (S : List UInt8 → Prop) : List UInt8 → Prop
  | nil : Gen S []
  | mul {a w : List UInt8} : S a → Gen S w → Gen S (a ++ w)
  | inv {a w : List UInt8} : S a → Gen S w → Gen S (invL a ++ w)
  | eqv {a b : List UInt8} : Eqv a b → Gen S a → Gen S b
theorem Gen.prod {S : List UInt8 → Prop} {a b : List UInt8} (ha : Gen S a) (hb : Gen S b) : Gen S (a ++ b) := by
  induction ha with
  | nil => exact hb
  | mul h _ ih => rw [List.append_assoc]; exact .mul h ih
  | inv h _ ih => rw [List.append_assoc]; exact .inv h ih
  | eqv h _ ih => exact .eqv (h.right b) ih
theorem Gen.one {S : List UInt8 → Prop} {a : List UInt8} (h : S a) : Gen S a := by
  have := Gen.mul h Gen.nil
  rwa [List.append_nil] at this
theorem Gen.back {S : List UInt8 → Prop} {a : List UInt8} (ha : Gen S a) : Gen S (invL a) := by
  induction ha with
  | nil => exact .nil
  | @mul a w h _ ih =>
    rw [invL_app]
    refine ih.prod ?_
    have := Gen.inv h Gen.nil
    rwa [List.append_nil] at this
  | @inv a w h _ ih =>
    rw [invL_app, invL_inv]
    exact ih.prod (.one h)
  | eqv h _ ih => exact .eqv h.inv ih
theorem Gen.mono {S T : List UInt8 → Prop} (h : ∀ a, S a → Gen T a) {a : List UInt8} (ha : Gen S a) : Gen T a := by
  induction ha with
  | nil => exact .nil
  | mul h1 _ ih => exact (h _ h1).prod ih
  | inv h1 _ ih => exact (h _ h1).back.prod ih
  | eqv h1 _ ih => exact .eqv h1 ih

section
variable {V : Type} {s : V → UInt8 → Option V}
/-- what the words make is read, if they are -/
theorem gen_loop (hf : Foldd s) {o : V} {S : List UInt8 → Prop} (h : ∀ a, S a → runS s o a = some o) {w : List UInt8} (hw : Gen S w) : runS s o (redW w) = some o := by
  induction hw with
  | nil => rfl
  | mul h1 _ ih =>
    have := run_red hf (run_app_some (h _ h1) ih)
    rwa [redW_right] at this
  | inv h1 _ ih =>
    have := run_red hf (run_app_some (run_inv hf (h _ h1)) ih)
    rwa [redW_right] at this
  | eqv h1 _ ih =>
    rw [← show redW _ = redW _ from h1]; exact ih
/-- what is read is made, if each edge is -/
theorem loop_gen {S : List UInt8 → Prop} (φ : V → List UInt8) (h : ∀ v c u, s v c = some u → Gen S (φ v ++ [c] ++ invL (φ u))) : ∀ {w : List UInt8} {v u : V}, runS s v w = some u → Gen S (φ v ++ w ++ invL (φ u)) := by
  intro w
  induction w with
  | nil =>
    intro v u hw
    obtain rfl := Option.some.inj hw
    rw [List.append_nil]
    exact .eqv (Eqv.inv_right _).symm .nil
  | cons c w ih =>
    intro v u hw
    rw [show c :: w = [c] ++ w from rfl] at *
    obtain ⟨x, h1, h2⟩ := run_split hw
    rw [run_one] at h1
    have h3 := (h _ _ _ h1).prod (ih h2)
    refine .eqv ?_ h3
    have h4 : Eqv (φ v ++ [c] ++ (invL (φ x) ++ φ x) ++ (w ++ invL (φ u))) (φ v ++ [c] ++ [] ++ (w ++ invL (φ u))) := (Eqv.left (φ v ++ [c]) (Eqv.inv_left (φ x))).right _
    simpa [List.append_assoc] using h4
end

/-! ### two graphs that read the same loops -/
section
variable {V W : Type} {s : V → UInt8 → Option V} {t : W → UInt8 → Option W} {o : V} {p : W}
/-- what is read from one on can be gone on to a loop -/
def Coree {V : Type} (s : V → UInt8 → Option V) (o : V) : Prop := ∀ g v, Rd g → runS s o g = some v → ∃ e, Rd (g ++ e) ∧ runS s o (g ++ e) = some o
/-- two vertices to which one reduced word leads -/
def Alike (s : V → UInt8 → Option V) (t : W → UInt8 → Option W) (o : V) (p : W) (v : V) (w : W) : Prop := ∃ g, Rd g ∧ runS s o g = some v ∧ runS t p g = some w
theorem read_both (hc : Coree s o) (hl : ∀ g, Rd g → runS s o g = some o → runS t p g = some p) {g : List UInt8} {v : V} (hg : Rd g) (h : runS s o g = some v) : ∃ w, runS t p g = some w := by
  obtain ⟨e, h1, h2⟩ := hc g v hg h
  obtain ⟨u, h3, _⟩ := run_split (hl _ h1 h2)
  exact ⟨u, h3⟩
theorem alike_fun (hs : Foldd s) (ht : Foldd t) (hl : ∀ g, Rd g → runS s o g = some o → runS t p g = some p) {v : V} {w w2 : W} (h1 : Alike s t o p v w) (h2 : Alike s t o p v w2) : w = w2 := by
  obtain ⟨a, ha, ha1, ha2⟩ := h1
  obtain ⟨b, hb, hb1, hb2⟩ := h2
  have h3 := hl _ (redW_rd _) (run_back hs ha1 hb1)
  have h4 := run_same ht ha hb2 h3
  rw [ha2] at h4
  exact Option.some.inj h4
theorem alike_symm {v : V} {w : W} (h : Alike s t o p v w) : Alike t s p o w v := by
  obtain ⟨g, h1, h2, h3⟩ := h
  exact ⟨g, h1, h3, h2⟩
theorem alike_zero : Alike s t o p o p := ⟨[], .nil, rfl, rfl⟩
theorem snoc_cases {g : List UInt8} (hg : Rd g) (c : UInt8) : Rd (g ++ [c]) ∨ ∃ m, g = m ++ [invB c] := by
  rcases List.eq_nil_or_concat g with rfl | ⟨k, x, rfl⟩
  · left; exact .one c
  · rw [List.concat_eq_append] at *
    by_cases hx : x = invB c
    · subst hx; right; exact ⟨k, rfl⟩
    · left
      have := Rd.snoc hg hx
      rwa [List.append_assoc]
theorem alike_step (hs : Foldd s) (ht : Foldd t) (hc : Coree s o) (hl : ∀ g, Rd g → runS s o g = some o → runS t p g = some p) {v : V} {w : W} (h : Alike s t o p v w) {c : UInt8} {u : V} (hu : s v c = some u) : ∃ x, t w c = some x ∧ Alike s t o p u x := by
  obtain ⟨g, h1, h2, h3⟩ := h
  rcases snoc_cases h1 c with h4 | ⟨m, rfl⟩
  · have h5 : runS s o (g ++ [c]) = some u := run_app_some h2 (by rw [run_one]; exact hu)
    obtain ⟨x, h6⟩ := read_both hc hl h4 h5
    obtain ⟨y, h7, h8⟩ := run_split h6
    rw [h3] at h7
    obtain rfl := Option.some.inj h7
    rw [run_one] at h8
    exact ⟨x, h8, _, h4, h5, h6⟩
  · obtain ⟨y, h5, h6⟩ := run_split h2
    obtain ⟨z, h7, h8⟩ := run_split h3
    rw [run_one] at h6 h8
    have h9 := hs _ _ _ h6
    have h10 := ht _ _ _ h8
    rw [inv_inv] at h9 h10
    rw [hu] at h9
    obtain rfl := Option.some.inj h9
    exact ⟨z, h10, m, h1.app_left, h5, h7⟩
end
end Go.Proofs.Ytlooclpfoeakgaa

/- Folded graphs: what is read can be gone on to a loop, if each vertex has two edges. Plain laws. -/
namespace Go.Proofs.Ytlooclpfoeakgaa

theorem pigeon : ∀ (N : Nat) (f : Nat → Nat), (∀ i, i ≤ N → f i < N) → ∃ i j, i < j ∧ j ≤ N ∧ f i = f j
  | 0, f, h => absurd (h 0 (Nat.le_refl _)) (by omega)
  | N + 1, f, h => by
    by_cases hx : ∃ i, i ≤ N ∧ f i = f (N + 1)
    · obtain ⟨i, h1, h2⟩ := hx
      exact ⟨i, N + 1, by omega, by omega, h2⟩
    · have hne : ∀ i, i ≤ N → f i ≠ f (N + 1) := fun i hi e => hx ⟨i, hi, e⟩
      obtain ⟨i, j, h1, h2, h3⟩ := pigeon N (fun i => if f i < f (N + 1) then f i else f i - 1) (fun i hi => by
        have h4 := hne i hi
        have h5 := h i (by omega)
        have h6 := h (N + 1) (by omega)
        show (if f i < f (N + 1) then f i else f i - 1) < N
        split <;> omega)
      refine ⟨i, j, h1, by omega, ?_⟩
      have h4 := hne i (by omega)
      have h5 := hne j h2
      have h3 : (if f i < f (N + 1) then f i else f i - 1) = (if f j < f (N + 1) then f j else f j - 1) := h3
      split at h3 <;> split at h3 <;> omega

section
variable {V : Type} {s : V → UInt8 → Option V}
theorem run_inj (hf : Foldd s) {u v x : V} {a : List UInt8} (h1 : runS s u a = some x) (h2 : runS s v a = some x) : u = v := by
  have h3 := run_inv hf h1
  have h4 := run_inv hf h2
  rw [h3] at h4
  exact Option.some.inj h4
/-- the longest end in common undoes itself -/
theorem cancel : ∀ (n : Nat) (X Y : List UInt8), X.length = n → Rd X → Rd Y → ∃ s X' Y', X = X' ++ s ∧ Y = Y' ++ s ∧ Rd (X' ++ invL Y')
  | 0, X, Y, hn, hX, hY => by
    obtain rfl := List.eq_nil_of_length_eq_zero hn
    exact ⟨[], [], Y, rfl, by simp, hY.rev⟩
  | n + 1, X, Y, hn, hX, hY => by
    rcases List.eq_nil_or_concat X with rfl | ⟨X1, x, rfl⟩
    · simp at hn
    rcases List.eq_nil_or_concat Y with rfl | ⟨Y1, y, rfl⟩
    · exact ⟨[], X1.concat x, [], by simp, by simp, by simpa [invL] using hX⟩
    rw [List.concat_eq_append] at *
    rw [List.concat_eq_append] at *
    by_cases hxy : x = y
    · subst hxy
      obtain ⟨s, X', Y', e1, e2, h⟩ := cancel n X1 Y1 (by simpa using hn) hX.app_left hY.app_left
      exact ⟨s ++ [x], X', Y', by rw [e1, List.append_assoc], by rw [e2, List.append_assoc], h⟩
    · refine ⟨[], X1 ++ [x], Y1 ++ [y], by simp, by simp, ?_⟩
      have h1 : Rd (invL (Y1 ++ [y])) := hY.rev
      rw [invL_app] at *
      show Rd (X1 ++ [x] ++ ([invB y] ++ invL Y1))
      have h2 := Rd.join hX (y := invB y) (k := invL Y1) (by simpa [invL] using h1) (by rw [inv_inv]; exact hxy)
      simpa using h2
def repW (z : List UInt8) : Nat → List UInt8
  | 0 => []
  | n + 1 => repW z n ++ z
theorem peel {z : List UInt8} (hz : z ≠ []) : ∀ (n : Nat) (p : List UInt8), p.length ≤ n → ∃ q m, p = q ++ repW z m ∧ ∀ r, q ≠ r ++ z
  | 0, p, hp => by
    obtain rfl := List.eq_nil_of_length_eq_zero (Nat.le_zero.1 hp)
    exact ⟨[], 0, rfl, fun r e => hz (List.append_eq_nil_iff.1 e.symm).2⟩
  | n + 1, p, hp => by
    by_cases h : ∃ r, p = r ++ z
    · obtain ⟨r, rfl⟩ := h
      have hz0 := List.length_pos_iff.2 hz
      obtain ⟨q, m, e, h2⟩ := peel hz n r (by rw [List.length_append] at hp; omega)
      exact ⟨q, m + 1, by rw [e, repW, List.append_assoc], h2⟩
    · exact ⟨p, 0, by simp [repW], fun r e => h ⟨r, e⟩⟩
theorem run_rep (hf : Foldd s) {u : V} {z : List UInt8} (hz : runS s u z = some u) : ∀ m, runS s u (repW z m) = some u
  | 0 => rfl
  | m + 1 => run_app_some (run_rep hf hz m) hz
/-- from a round back to where one began -/
theorem round_back (hf : Foldd s) {o u : V} {p z : List UInt8} (hz : z ≠ []) (hr : Rd (p ++ z)) (h1 : runS s o p = some u) (h2 : runS s u z = some u) : ∃ e, Rd (p ++ e) ∧ runS s o (p ++ e) = some o := by
  obtain ⟨q, m, hp, hq⟩ := peel hz p.length p (Nat.le_refl _)
  obtain ⟨x, h3, h4⟩ := run_split (hp ▸ h1)
  obtain rfl := run_inj hf h4 (run_rep hf h2 m)
  have hrq : Rd q := by have := hr.app_left; rw [hp] at this; exact this.app_left
  obtain ⟨t, X, Y, e1, e2, h⟩ := cancel _ (p ++ z) q rfl hr hrq
  have hlt : t.length < z.length := by
    rcases Nat.lt_or_ge t.length z.length with h5 | h5
    · exact h5
    · exfalso
      have h6 : (p ++ z).drop ((p ++ z).length - z.length) = z := by
        rw [List.length_append, Nat.add_sub_cancel, List.drop_left]
      have h7 : (X ++ t).drop ((X ++ t).length - z.length) = t.drop (t.length - z.length) := by
        rw [List.length_append, List.drop_append, List.drop_of_length_le (by omega), List.nil_append]
        congr 1; omega
      rw [e1, h7] at h6
      apply hq (Y ++ t.take (t.length - z.length))
      rw [e2, List.append_assoc]
      congr 1
      conv => lhs; rw [← List.take_append_drop (t.length - z.length) t]
      rw [h6]
  obtain ⟨z1, rfl, rfl⟩ : ∃ z1, X = p ++ z1 ∧ z = z1 ++ t := by
    rcases List.append_eq_append_iff.1 e1 with ⟨a, ha, hb⟩ | ⟨a, ha, hb⟩
    · exact ⟨a, ha, hb⟩
    · have := congrArg List.length hb
      rw [List.length_append] at this
      obtain rfl : a = [] := List.eq_nil_of_length_eq_zero (by omega)
      exact ⟨[], by simpa using ha.symm, by simpa using hb.symm⟩
  obtain ⟨y, h5, h6⟩ := run_split h2
  obtain ⟨y2, h7, h8⟩ := run_split (e2 ▸ h3)
  obtain rfl := run_inj hf h6 h8
  refine ⟨z1 ++ invL Y, by simpa [List.append_assoc] using h, ?_⟩
  rw [← List.append_assoc]
  exact run_app_some (run_app_some h1 h5) (run_inv hf h7)
end

/-- two ways out of each vertex that is met -/
def Twos (s : Nat → UInt8 → Option Nat) (o : Nat) : Prop := ∀ v g, v ≠ o → Rd g → runS s o g = some v → ∃ c d, c ≠ d ∧ s v c ≠ none ∧ s v d ≠ none
theorem core_of {s : Nat → UInt8 → Option Nat} {o N : Nat} (hf : Foldd s) (ho : o < N) (hN : ∀ v c u, s v c = some u → u < N) (h2 : Twos s o) : Coree s o := by
  intro g v hg hgv
  have long : ∀ n, (∃ e, Rd (g ++ e) ∧ runS s o (g ++ e) = some o) ∨ ∃ e u, e.length = n ∧ Rd (g ++ e) ∧ runS s o (g ++ e) = some u := by
    intro n
    induction n with
    | zero => exact .inr ⟨[], v, rfl, by rwa [List.append_nil], by rwa [List.append_nil]⟩
    | succ n ih =>
      rcases ih with h | ⟨e, u, hl, he, hu⟩
      · exact .inl h
      · by_cases huo : u = o
        · subst huo; exact .inl ⟨e, he, hu⟩
        · obtain ⟨c, d, hcd, hc, hd⟩ := h2 u _ huo he hu
          have go : ∀ x, s u x ≠ none → Rd (g ++ e ++ [x]) → ∃ e u, e.length = n + 1 ∧ Rd (g ++ e) ∧ runS s o (g ++ e) = some u := by
            intro x hx hrx
            cases hs : s u x with
            | none => exact absurd hs hx
            | some y => exact ⟨e ++ [x], y, by simp [hl], by rwa [← List.append_assoc], by rw [← List.append_assoc]; exact run_app_some hu (by rw [run_one]; exact hs)⟩
          rcases snoc_cases he c with h3 | ⟨m, h3⟩
          · exact .inr (go c hc h3)
          · rcases snoc_cases he d with h4 | ⟨m2, h4⟩
            · exact .inr (go d hd h4)
            · rw [h3] at h4
              have h5 := List.append_inj_right' h4 rfl
              simp only [List.cons.injEq, and_true] at h5
              exact absurd (by have := congrArg invB h5; rwa [inv_inv, inv_inv] at this) hcd
  rcases long N with h | ⟨e, u, hl, he, hu⟩
  · exact h
  have bound : ∀ (w : List UInt8) x, runS s o w = some x → x < N := by
    intro w x hw
    rcases List.eq_nil_or_concat w with rfl | ⟨k, c, rfl⟩
    · exact (Option.some.inj hw) ▸ ho
    · rw [List.concat_eq_append] at hw
      obtain ⟨y, _, h4⟩ := run_split hw
      rw [run_one] at h4
      exact hN _ _ _ h4
  have at_ : ∀ i, ∃ x, runS s o (g ++ e.take i) = some x := by
    intro i
    rw [← List.take_append_drop i e, ← List.append_assoc] at hu
    obtain ⟨x, h3, _⟩ := run_split hu
    exact ⟨x, h3⟩
  obtain ⟨i, j, hij, hj, hfe⟩ := pigeon N (fun i => (runS s o (g ++ e.take i)).getD 0) (fun i _ => by
    obtain ⟨x, hx⟩ := at_ i
    show (runS s o (g ++ e.take i)).getD 0 < N
    rw [hx]
    exact bound _ _ hx)
  obtain ⟨x, hx⟩ := at_ i
  obtain ⟨y, hy⟩ := at_ j
  simp only [hx, hy, Option.getD_some] at hfe
  subst hfe
  have ht : e.take j = e.take i ++ (e.take j).drop i := by
    conv => lhs; rw [← List.take_append_drop i (e.take j)]
    rw [List.take_take, Nat.min_eq_left (by omega)]
  have hz : (e.take j).drop i ≠ [] := by
    intro h
    have := congrArg List.length h
    rw [List.length_drop, List.length_take, List.length_nil] at this
    omega
  have hrj : Rd (g ++ e.take i ++ (e.take j).drop i) := by
    rw [List.append_assoc, ← ht]
    rw [← List.take_append_drop j e, ← List.append_assoc] at he
    exact he.app_left
  have hxj : runS s x ((e.take j).drop i) = some x := by
    rw [ht, ← List.append_assoc] at hy
    obtain ⟨w, h3, h4⟩ := run_split hy
    rw [hx] at h3
    obtain rfl := Option.some.inj h3
    exact h4
  obtain ⟨k, h3, h4⟩ := round_back hf hz hrj hx hxj
  exact ⟨e.take i ++ k, by rwa [← List.append_assoc], by rwa [← List.append_assoc]⟩
end Go.Proofs.Ytlooclpfoeakgaa

/- Slices of strings and of ints that came in: opened. -/
namespace Go.Proofs.Ytlooclpfoeakgaa
open Go.ChangeShapes Go.WideShapes Go.ChangeAt Go.RowKit

theorem addr_plain {w : World} {x : Addr} {v : Value} (h0 : w.cell? (x.add 0) = some v) : ∃ b o, x = ⟨b, o, none⟩ ∧ b < w.heap.size := by
  have hs : x.spot = none := by
    unfold Addr.add at h0
    rw [if_pos rfl] at h0
    unfold World.cell? at h0
    split at h0
    · split at h0
      · cases h0
      · rename_i hsp
        cases hx : x.spot with
        | none => rfl
        | some _ => rw [hx] at hsp; simp at hsp
    · cases h0
  obtain ⟨b, o, s⟩ := x
  simp only at hs
  subst hs
  exact ⟨b, o, rfl, World.block_lt_of_cell? w _ h0⟩
theorem addr_add (b o j : Nat) : (⟨b, o, none⟩ : Addr).add j = ⟨b, o + j, none⟩ := by
  unfold Addr.add
  split
  · rename_i h; subst h; rfl
  · rfl
theorem open_strs {H : Type} {enc : TypeId × Value → H} {P : Program} {W : World} {base : Nat} {sp : Nat → Bool} {held : Bool} {t e : TypeId} {a : Option Addr} {len cap : Nat} {d : DataW H} {p : List MemPlace}
    (ht : P.underlying t = some (.slice e)) (he : P.underlying e = some .string) (hc : P.cellsOf e = 1) (h : DataW.Trod enc P W base sp held t (.slice a len cap) d p) :
    ∃ ss : List ByteArray, Strs W (.slice a len cap) ss ∧ ∀ s ∈ ss, s.size ≤ 9223372036854775807 := by
  obtain ⟨fuel, hf⟩ := h
  rcases open_strings ht he hc hf with ⟨hcs, _⟩ | ⟨x, l, c, ss, hcs, _, hl, hm, hz, _, hcell, hws⟩
  · simp [Value.cells] at hcs
    obtain ⟨rfl, rfl, rfl⟩ := hcs
    exact ⟨[], ⟨none, 0, rfl, by simp, by simp⟩, by simp⟩
  · simp [Value.cells] at hcs
    obtain ⟨rfl, rfl, rfl⟩ := hcs
    have hlen : len ≤ ss.length := by rw [hz]; split <;> omega
    have hl2 : (ss.take len).length = len := by rw [List.length_take]; omega
    refine ⟨ss.take len, ⟨some x, cap, by rw [hl2], ⟨by omega, by unfold maxLen at hm; omega⟩, fun hp => ?_⟩, fun s hs => by have := hws s (List.mem_of_mem_take hs); unfold maxLen at this; omega⟩
    obtain ⟨b, o, rfl, hb⟩ := addr_plain (hcell 0 (by omega))
    refine ⟨b, o, rfl, hb, fun j y hj => ?_⟩
    rw [List.getElem?_take] at hj
    split at hj
    · have := hcell j (by omega)
      rw [addr_add] at this
      rw [this]
      simp [List.getD, hj]
    · cases hj
theorem open_ints_ {H : Type} {enc : TypeId × Value → H} {P : Program} {W : World} {base : Nat} {sp : Nat → Bool} {held : Bool} {t e : TypeId} {a : Option Addr} {len cap : Nat} {d : DataW H} {p : List MemPlace}
    (ht : P.underlying t = some (.slice e)) (he : P.underlying e = some (.int .i64)) (hc : P.cellsOf e = 1) (h : DataW.Trod enc P W base sp held t (.slice a len cap) d p) :
    ∃ zs : List Int, Ints W (.slice a len cap) zs ∧ ∀ z ∈ zs, (Lit.int .i64 z).wf = true := by
  obtain ⟨fuel, hf⟩ := h
  rcases open_ints ht he hc hf with ⟨hcs, _⟩ | ⟨x, l, c, zs, hcs, _, hl, hm, hz, _, hcell, hws⟩
  · simp [Value.cells] at hcs
    obtain ⟨rfl, rfl, rfl⟩ := hcs
    exact ⟨[], Ints.nil W, by simp⟩
  · simp [Value.cells] at hcs
    obtain ⟨rfl, rfl, rfl⟩ := hcs
    have hlen : len ≤ zs.length := by rw [hz]; split <;> omega
    have hl2 : (zs.take len).length = len := by rw [List.length_take]; omega
    refine ⟨zs.take len, ⟨some x, cap, by rw [hl2], ⟨by omega, by unfold maxLen at hm; omega⟩, fun hp => ?_⟩, fun s hs => hws s (List.mem_of_mem_take hs)⟩
    obtain ⟨b, o, rfl, hb⟩ := addr_plain (hcell 0 (by omega))
    refine ⟨b, o, rfl, hb, fun j y hj => ?_⟩
    rw [List.getElem?_take] at hj
    split at hj
    · have := hcell j (by omega)
      rw [addr_add] at this
      rw [this]
      simp [List.getD, hj]
    · cases hj
theorem int_of_wf {n : Int} (h : (Lit.int .i64 n).wf = true) : -9223372036854775808 ≤ n ∧ n ≤ 9223372036854775807 := by
  have hmin : IntKind.i64.min = -9223372036854775808 := by decide
  have hmax : IntKind.i64.max = 9223372036854775807 := by decide
  simp only [Lit.wf, hmin, hmax, Bool.and_eq_true, decide_eq_true_eq] at h
  exact h
end Go.Proofs.Ytlooclpfoeakgaa
