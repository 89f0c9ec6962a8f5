/- Block trees in memory, and what the program's tree makes. -/
import Derived.Test.YtgajaccnjjiiaaaW14
import Derived.Deep.AppendLies
import Derived.Deep.RegionHeldLaw
import Derived.Deep.RegionLaw
namespace Go.Proofs.Ytgajaccnjjiiaaa
open Go.RowKit

theorem Try.info41 : (Try.prog.info? 41).map (fun i => (i.zero, i.size, i.bytes)) = some (some (.agg #[.int .i64 0, .slice none 0 0, .slice none 0 0]), 3, 56) := by kernel_rfl
theorem Try.size41 : (Try.prog.info? 41).map (·.size) = some 3 := by kernel_rfl

inductive TM where
  | mk (kind : Int) (perm : List Int) (parts : List TM)

/-- The value v reads as the tree t in w, whose blocks are ok. -/
inductive TreeAt (w : World) (ok : Nat → Prop) : Value → TM → Prop where
  | mk (k : Int) (pv : Value) (perm : List Int) (a : Option Addr) (n cap : Nat) (parts : List TM) (f : Nat → Int × Value × Value) :
    Ints w pv perm → (∀ b, pv.ownBlock = some b → 0 < perm.length → ok b) → parts.length = n → n ≤ cap → cap ≤ 9223372036854775807 →
    (0 < n → ∃ b o, a = some ⟨b, o, none⟩ ∧ b < w.heap.size ∧ ok b ∧ ∀ j, j < n → w.cell? ⟨b, o + j * 3, none⟩ = some (.int .i64 (f j).1) ∧ w.cell? ⟨b, o + j * 3 + 1, none⟩ = some (f j).2.1 ∧ w.cell? ⟨b, o + j * 3 + 2, none⟩ = some (f j).2.2) →
    (∀ j t, parts[j]? = some t → TreeAt w ok (.agg #[.int .i64 (f j).1, (f j).2.1, (f j).2.2]) t) →
    TreeAt w ok (.agg #[.int .i64 k, pv, .slice a n cap]) (.mk k perm parts)

theorem Ints.kept {w w' : World} {v : Value} {xs : List Int} (h : Ints w v xs) (hs : w.heap.size ≤ w'.heap.size) (hk : ∀ b, v.ownBlock = some b → 0 < xs.length → b < w.heap.size → w'.heap[b]? = w.heap[b]?) : Ints w' v xs := by
  obtain ⟨a, cap, rfl, hl, h⟩ := h
  refine ⟨a, cap, rfl, hl, fun hp => ?_⟩
  obtain ⟨b, o, rfl, hlt, hc⟩ := h hp
  exact ⟨b, o, rfl, Nat.lt_of_lt_of_le hlt hs, fun j x hj => (World.cell?_of_block (w := w) (a := ⟨b, o + j, none⟩) (hk b rfl hp hlt)).trans (hc j x hj)⟩
theorem Ints.block_lt {w : World} {v : Value} {xs : List Int} (h : Ints w v xs) (hp : 0 < xs.length) {b : Nat} (hb : v.ownBlock = some b) : b < w.heap.size := by
  obtain ⟨a, cap, rfl, hl, h⟩ := h
  obtain ⟨b', o, rfl, hlt, hc⟩ := h hp
  cases hb
  exact hlt

theorem TreeAt.kept {w w' : World} {ok ok' : Nat → Prop} {v : Value} {t : TM} (h : TreeAt w ok v t) (hs : w.heap.size ≤ w'.heap.size) (hk : ∀ b, ok b → b < w.heap.size → ok' b ∧ w'.heap[b]? = w.heap[b]?) : TreeAt w' ok' v t := by
  induction h with
  | mk k pv perm a n cap parts f hp hpo hn hc hc2 hcells _ ih =>
    refine TreeAt.mk k pv perm a n cap parts f (hp.kept hs fun b hb h0 hlt => (hk b (hpo b hb h0) hlt).2) (fun b hb h0 => (hk b (hpo b hb h0) (hp.block_lt h0 hb)).1) hn hc hc2 (fun h0 => ?_) ih
    obtain ⟨b, o, rfl, hlt, hok, hcs⟩ := hcells h0
    obtain ⟨hok', hblk⟩ := hk b hok hlt
    refine ⟨b, o, rfl, Nat.lt_of_lt_of_le hlt hs, hok', fun j hj => ?_⟩
    have e : ∀ i, w'.cell? ⟨b, i, none⟩ = w.cell? ⟨b, i, none⟩ := fun i => World.cell?_of_block (w := w) (a := ⟨b, i, none⟩) hblk
    rw [e, e, e]
    exact hcs j hj

abbrev cells3 (cs : List (Int × Value × Value)) : List Value := cs.flatMap fun c => [.int .i64 c.1, c.2.1, c.2.2]
theorem cells3_len (cs : List (Int × Value × Value)) : (cells3 cs).length = cs.length * 3 := by
  induction cs with
  | nil => rfl
  | cons c cs ih => simp only [cells3, List.flatMap_cons, List.length_append, List.length_cons, List.length_nil] at *; omega
theorem cells3_get {cs : List (Int × Value × Value)} : ∀ {j : Nat} {c : Int × Value × Value}, cs[j]? = some c →
    (cells3 cs)[j * 3]? = some (.int .i64 c.1) ∧ (cells3 cs)[j * 3 + 1]? = some c.2.1 ∧ (cells3 cs)[j * 3 + 2]? = some c.2.2 := by
  induction cs with
  | nil => intro j c h; simp at h
  | cons d cs ih =>
    intro j c h
    cases j with
    | zero => simp at h; subst h; simp [cells3]
    | succ j =>
      have := ih (j := j) (c := c) (by simpa using h)
      have e : (j + 1) * 3 = j * 3 + 3 := by omega
      rw [e]
      simpa [cells3] using this

/-- The value v owns the trees ts, whose blocks are ok. -/
def TreesOwn (w : World) (base : Nat) (ok : Nat → Prop) (v : Value) (ts : List TM) : Prop :=
  ∃ cs : List (Int × Value × Value), cs.length = ts.length ∧ w.ownsRow base 41 3 v ts.length (cells3 cs) ∧ ∀ (j : Nat) (t : TM), ts[j]? = some t → ∃ c : Int × Value × Value, cs[j]? = some c ∧ TreeAt w ok (.agg #[.int .i64 c.1, c.2.1, c.2.2]) t

theorem TreesOwn.nil (w : World) (base : Nat) (ok : Nat → Prop) : TreesOwn w base ok (.slice none 0 0) [] := ⟨[], rfl, World.ownsRow_nil _ _ _ _, fun j t h => by simp at h⟩

theorem TreesOwn.kept {w w' : World} {base : Nat} {ok ok' : Nat → Prop} {v : Value} {ts : List TM} (h : TreesOwn w base ok v ts) (hs : w.heap.size ≤ w'.heap.size)
    (hv : ∀ g, v.ownBlock = some g → w'.heap[g]? = w.heap[g]?) (hk : ∀ b, ok b → b < w.heap.size → ok' b ∧ w'.heap[b]? = w.heap[b]?) : TreesOwn w' base ok' v ts := by
  obtain ⟨cs, h1, h2, h3⟩ := h
  refine ⟨cs, h1, ⟨h2.1, ?_⟩, fun j t ht => ?_⟩
  · rcases h2.2 with hn | ⟨g, cap, cur, rfl, hb, hg, rest⟩
    · exact .inl hn
    · exact .inr ⟨g, cap, cur, rfl, hb, (hv g rfl).trans hg, rest⟩
  · obtain ⟨c, hc, ht'⟩ := h3 j t ht
    exact ⟨c, hc, ht'.kept hs hk⟩

theorem TreesOwn.keep {w w' : World} {base : Nat} {ok : Nat → Prop} {v : Value} {ts : List TM} (h : TreesOwn w base ok v ts) (hb : Below w.heap.size w w') : TreesOwn w' base ok v ts := by
  refine h.kept hb.size (fun g hg => hb.block g ?_) (fun b hk hlt => ⟨hk, hb.block b hlt⟩)
  obtain ⟨cs, _, h2, _⟩ := h
  exact (World.ownsRow.lt h2 g hg).2

theorem TreesOwn.value {w : World} {base : Nat} {ok : Nat → Prop} {v : Value} {ts : List TM} (h : TreesOwn w base ok v ts) : v = .slice none 0 0 ∧ ts = [] ∨ ∃ g cap, v = .slice (some ⟨g, 0, none⟩) ts.length cap := by
  obtain ⟨cs, _, h2, _⟩ := h
  rcases h2.2 with ⟨h, h0⟩ | ⟨g, cap, cur, rfl, _⟩
  · exact .inl ⟨h, List.eq_nil_of_length_eq_zero h0⟩
  · exact .inr ⟨g, cap, rfl⟩

theorem TreesOwn.lt {w : World} {base : Nat} {ok : Nat → Prop} {v : Value} {ts : List TM} (h : TreesOwn w base ok v ts) : ∀ k, v.ownBlock = some k → base ≤ k ∧ k < w.heap.size := by
  obtain ⟨cs, _, h2, _⟩ := h
  exact World.ownsRow.lt h2

/-- The whole tree: a kind, an owned list, owned parts. -/
theorem TreesOwn.tree {w : World} {base : Nat} {ok : Nat → Prop} {v pv : Value} {ts : List TM} {perm : List Int} (h : TreesOwn w base ok v ts) (hp : Own w base 3 pv perm) (k : Int) :
    TreeAt w (fun b => ok b ∨ base ≤ b) (.agg #[.int .i64 k, pv, v]) (.mk k perm ts) := by
  have hpo : ∀ b, pv.ownBlock = some b → 0 < perm.length → (ok b ∨ base ≤ b) := fun b hb _ => .inr (World.ownsRow.lt hp b hb).1
  obtain ⟨cs, h1, h2, h3⟩ := h
  have h2' := h2
  rcases h2.2 with ⟨rfl, h0⟩ | ⟨g, cap, cur, rfl, hb, hg, hn, hm, hs, ht⟩
  · have : ts = [] := List.eq_nil_of_length_eq_zero h0
    subst this
    exact TreeAt.mk k pv perm none 0 0 [] (fun _ => (0, .slice none 0 0, .slice none 0 0)) (Own.ints hp) hpo rfl (by omega) (by omega) (by omega) (by simp)
  · refine TreeAt.mk k pv perm _ _ cap ts (fun j => cs[j]?.getD (0, .slice none 0 0, .slice none 0 0)) (Own.ints hp) hpo rfl hn hm (fun h0 => ⟨g, 0, rfl, (Array.getElem?_eq_some_iff.1 hg).1, .inr hb, fun j hj => ?_⟩) (fun j t hj => ?_)
    · have hc : cs[j]? = some cs[j] := List.getElem?_eq_getElem (by omega)
      obtain ⟨c1, c2, c3⟩ := cells3_get hc
      have hcell : ∀ i u, (cells3 cs)[i]? = some u → w.cell? ⟨g, i, none⟩ = some u := by
        intro i u hi
        rw [World.ownsRow.cellAt h2' i ?_]
        · exact hi
        · have := (List.getElem?_eq_some_iff.1 hi).1
          rw [cells3_len] at this
          omega
      rw [hc, Nat.zero_add]
      exact ⟨hcell _ _ c1, hcell _ _ c2, hcell _ _ c3⟩
    · obtain ⟨c, hc, ht'⟩ := h3 j t hj
      rw [hc]
      exact ht'.kept (Nat.le_refl _) (fun b hk _ => ⟨.inl hk, rfl⟩)

section
variable {P : Program} {w : World} {ops : Array Oper} {o : Oper} {a : Act} {K : Act → World → Prop} {Q : Exit → Act → World → Prop} {E : Prop}
theorem step_appI {e t : TypeId} (hinfo : (P.info? e).map (fun i => (i.zero, i.size, i.bytes)) = some (some (.int .i64 0), 1, 8)) (ht : P.underlying t = some (.slice e))
    {base : Nat} {v : Value} {zs : List Int} (hown : Own w base e v zs) (hl : zs.length < 1000000000000) (hgd : o.guard = none) (s x : Operand)
    (ho : o.op = .call { callee := .builtin .append, args := #[s, x], argTypes := #[t, t] }) {B : Nat} {z : Int} (hs : a.eval s = v) (hx : a.eval x = .slice (some ⟨B, 0, none⟩) 1 1) (hc : w.cell? ⟨B, 0, none⟩ = some (.int .i64 z))
    (hbase : base ≤ w.heap.size) (H : Nat) (hH : w.heap.size = H)
    (h : ∀ g cap w', Own w' base e (.slice (some ⟨g, 0, none⟩) (zs.length + 1) cap) (zs ++ [z]) → w.grownBy w' v.ownBlock → (v.ownBlock = some g ∨ g = H) → g < w'.heap.size → K (a.put o.dst (.slice (some ⟨g, 0, none⟩) (zs.length + 1) cap)) w') :
    if Region.wanted o (yielded ops a.tmps) = true then Oper.wp P o a w K Q else E := by
  obtain ⟨i, h2, h3, h4, h5⟩ := info_parts hinfo
  refine step_append_lies w hgd s x t ho base e i (.int .i64 0) 1 8 ht h2 h3 h4 h5 rfl (by decide) v zs.length _ hs hown ⟨B, 0, none⟩ 1 1 [.int .i64 z] hx rfl ?_ ?_ (by decide) ?_ ?_ hbase H hH ?_
  · intro j u hu
    cases j with
    | zero => simp at hu; subst hu; exact hc
    | succ j => simp at hu
  · intro u hu; simp at hu; subst hu; rfl
  · unfold maxLen; omega
  · omega
  · intro g cap w' hown' hg hat hlt
    exact h g cap w' (by simpa [Own, I64s] using hown') hg hat hlt

theorem step_appT {t : TypeId} (hinfo : (P.info? 41).map (fun i => (i.zero, i.size, i.bytes)) = some (some (.agg #[.int .i64 0, .slice none 0 0, .slice none 0 0]), 3, 56)) (ht : P.underlying t = some (.slice 41))
    {base : Nat} {ok ok' : Nat → Prop} {v : Value} {ts : List TM} (hown : TreesOwn w base ok v ts) (hl : ts.length < 1000000000000) (hgd : o.guard = none) (s x : Operand)
    (ho : o.op = .call { callee := .builtin .append, args := #[s, x], argTypes := #[t, t] }) {B : Nat} {z : Int} {pv tv : Value} {tm : TM} (hs : a.eval s = v) (hx : a.eval x = .slice (some ⟨B, 0, none⟩) 1 1)
    (hc1 : w.cell? ⟨B, 0, none⟩ = some (.int .i64 z)) (hc2 : w.cell? ⟨B, 1, none⟩ = some pv) (hc3 : w.cell? ⟨B, 2, none⟩ = some tv) (ho1 : pv.oneCell' = true) (ho2 : tv.oneCell' = true)
    (htm : TreeAt w ok (.agg #[.int .i64 z, pv, tv]) tm) (hok : ∀ b, ok b → b < w.heap.size → some b ≠ v.ownBlock ∧ ok' b)
    (hbase : base ≤ w.heap.size) (H : Nat) (hH : w.heap.size = H)
    (h : ∀ g cap w', TreesOwn w' base ok' (.slice (some ⟨g, 0, none⟩) (ts.length + 1) cap) (ts ++ [tm]) → w.grownBy w' v.ownBlock → (v.ownBlock = some g ∨ g = H) → g < w'.heap.size → K (a.put o.dst (.slice (some ⟨g, 0, none⟩) (ts.length + 1) cap)) w') :
    if Region.wanted o (yielded ops a.tmps) = true then Oper.wp P o a w K Q else E := by
  obtain ⟨i, h2, h3, h4, h5⟩ := info_parts hinfo
  obtain ⟨cs, hl1, hr, hts⟩ := hown
  refine step_append_lies w hgd s x t ho base 41 i (.agg #[.int .i64 0, .slice none 0 0, .slice none 0 0]) 3 56 ht h2 h3 h4 h5 rfl (by decide) v ts.length _ hs hr ⟨B, 0, none⟩ 1 1 [.int .i64 z, pv, tv] hx rfl ?_ ?_ (by decide) ?_ ?_ hbase H hH ?_
  · intro j u hu
    match j, hu with
    | 0, hu => simp at hu; subst hu; exact hc1
    | 1, hu => simp at hu; subst hu; exact hc2
    | 2, hu => simp at hu; subst hu; exact hc3
    | j + 3, hu => simp at hu
  · intro u hu
    simp at hu
    rcases hu with rfl | rfl | rfl
    · rfl
    · exact ho1
    · exact ho2
  · unfold maxLen; omega
  · omega
  · intro g cap w' hown' hg hat hlt
    refine h g cap w' ⟨cs ++ [(z, pv, tv)], by simp [hl1], ?_, fun j t' hj => ?_⟩ hg hat hlt
    · have e : cells3 (cs ++ [(z, pv, tv)]) = cells3 cs ++ [.int .i64 z, pv, tv] := by simp [cells3]
      rw [e]
      simpa using hown'
    · have hkeep : ∀ {v' t''}, TreeAt w ok v' t'' → TreeAt w' ok' v' t'' := fun ht'' => ht''.kept hg.size fun b hb hlt => ⟨(hok b hb hlt).2, hg.block b hlt (hok b hb hlt).1⟩
      rw [List.getElem?_append] at hj
      by_cases hjl : j < ts.length
      · rw [if_pos hjl] at hj
        obtain ⟨c, hc, hct⟩ := hts j t' hj
        exact ⟨c, by rw [List.getElem?_append_left (by omega)]; exact hc, hkeep hct⟩
      · rw [if_neg hjl] at hj
        have : j = ts.length := by
          have := (List.getElem?_eq_some_iff.1 hj).1
          simp at this; omega
        subst this
        simp at hj
        subst hj
        exact ⟨(z, pv, tv), by rw [← hl1]; simp, hkeep htm⟩
end

/-! What the program's tree makes. -/
def Marks (n : Nat) (zs : List Int) : Prop := zs.Pairwise (· < ·) ∧ ∀ x ∈ zs, 0 ≤ x ∧ x < n
theorem cutsTo_marks (p : List Int) (r : Bool) : ∀ k, (cutsTo p r k).Pairwise (· < ·) ∧ ∀ x ∈ cutsTo p r k, 0 ≤ x ∧ x ≤ k
  | 0 => by simp [cutsTo]
  | k + 1 => by
    obtain ⟨h1, h2⟩ := cutsTo_marks p r k
    rw [cutsTo]
    split
    · refine ⟨List.pairwise_append.2 ⟨h1, by simp, fun x hx y hy => ?_⟩, fun x hx => ?_⟩
      · have := h2 x hx; simp at hy; omega
      · rw [List.mem_append] at hx
        rcases hx with hx | hx
        · have := h2 x hx; omega
        · simp at hx; omega
    · simp only [List.append_nil]
      exact ⟨h1, fun x hx => by have := h2 x hx; omega⟩
theorem cutsM_marks {p : List Int} {r : Bool} (h0 : 0 < p.length) : Marks p.length (cutsM p r) := by
  obtain ⟨h1, h2⟩ := cutsTo_marks p r (p.length - 1)
  exact ⟨h1, fun x hx => by have := h2 x hx; omega⟩
theorem blocksFrom_marks (p : List Int) (i : Nat) : (blocksFrom p i).Pairwise (· < ·) ∧ ∀ x ∈ blocksFrom p i, (i : Int) ≤ x ∧ x < p.length := by
  induction i using blocksFrom.induct p with
  | case1 i h ih =>
    rw [blocksFrom, dif_pos h]
    have hlt := endTo_lt p i (p.length - (i + 1))
    have hlt' : i < endM p i := hlt
    refine ⟨List.pairwise_cons.2 ⟨fun x hx => ?_, ih.1⟩, fun x hx => ?_⟩
    · have := ih.2 x hx; omega
    · rcases List.mem_cons.1 hx with rfl | hx
      · omega
      · have := ih.2 x hx; omega
  | case2 i h => rw [blocksFrom, dif_neg h]; simp
theorem blocksM_marks (p : List Int) : Marks p.length (blocksM p) := by
  obtain ⟨h1, h2⟩ := blocksFrom_marks p 0
  exact ⟨h1, fun x hx => by have := h2 x hx; omega⟩
theorem endTo_short (p : List Int) (h : 1 < p.length) : ∀ m, endTo p 0 m < p.length
  | 0 => by simpa [endTo] using h
  | m + 1 => by
    rw [endTo]
    split
    · omega
    · exact endTo_short p h m
theorem blocksM_two {p : List Int} (h : 1 < p.length) : 2 ≤ (blocksM p).length := by
  have h2 : endM p 0 < p.length := endTo_short p h _
  rw [blocksM, blocksFrom, dif_pos (by omega), blocksFrom, dif_pos h2]
  simp

def pieceM (p : List Int) (at_ : List Int) (k : Nat) : List Int := (p.take ((at_[k + 1]?.map Int.toNat).getD p.length)).drop ((at_[k]?.getD 0).toNat)
def kindM (p : List Int) : Int := if (cutsM p true).length = 1 then (if (cutsM p false).length = 1 then 3 else 2) else 1
def marksM (p : List Int) : List Int := if (cutsM p true).length = 1 then (if (cutsM p false).length = 1 then blocksM p else cutsM p false) else cutsM p true
def pickM (p : List Int) : List Int := (blocksM p).map fun i => p[i.toNat]?.getD 0
def topsM (p : List Int) : List Int := if (cutsM p true).length = 1 then (if (cutsM p false).length = 1 then flatM (pickM p) else []) else []
def treeF : Nat → List Int → TM
  | 0, _ => .mk 0 [] []
  | d + 1, p => if p.length = 1 then .mk 0 [] [] else .mk (kindM p) (topsM p) ((List.range (marksM p).length).map fun k => treeF d (flatM (pieceM p (marksM p) k)))
theorem marksM_two {p : List Int} (h : 1 < p.length) : 2 ≤ (marksM p).length := by
  unfold marksM
  have h1 := cutsTo_length p true (p.length - 1)
  have h2 := cutsTo_length p false (p.length - 1)
  change 0 < (cutsM p true).length ∧ _ at h1
  change 0 < (cutsM p false).length ∧ _ at h2
  split
  · split
    · exact blocksM_two h
    · omega
  · omega
theorem marksM_marks {p : List Int} (h : 0 < p.length) : Marks p.length (marksM p) := by
  unfold marksM
  split
  · split
    · exact blocksM_marks p
    · exact cutsM_marks h
  · exact cutsM_marks h
theorem marks_len {n : Nat} {zs : List Int} (h : Marks n zs) : zs.length ≤ n := by
  obtain ⟨h1, h2⟩ := h
  have key : ∀ (zs : List Int) (lo : Int), zs.Pairwise (· < ·) → (∀ x ∈ zs, lo ≤ x ∧ x < (n : Int)) → (zs.length : Int) ≤ max 0 ((n : Int) - lo) := by
    intro zs
    induction zs with
    | nil => intro lo _ _; simp; omega
    | cons x zs ih =>
      intro lo hp hb
      have hx := hb x (by simp)
      have := ih (x + 1) (List.pairwise_cons.1 hp).2 (fun y hy => ⟨by have := (List.pairwise_cons.1 hp).1 y hy; omega, (hb y (by simp [hy])).2⟩)
      simp only [List.length_cons]
      omega
  have := key zs 0 h1 h2
  omega
theorem marksM_len {p : List Int} (h : 0 < p.length) : (marksM p).length ≤ p.length := marks_len (marksM_marks h)
/-- the bounds of a piece -/
theorem piece_box {n : Nat} {zs : List Int} (hm : Marks n zs) (h2 : 2 ≤ zs.length) {k : Nat} {x : Int} (hx : zs[k]? = some x) :
    0 ≤ x ∧ x < n ∧ (∀ y, zs[k + 1]? = some y → x < y ∧ y < n) ∧ (zs.length ≤ k + 1 → 0 < x) := by
  have hxm := hm.2 x (List.mem_of_getElem? hx)
  refine ⟨hxm.1, hxm.2, fun y hy => ⟨?_, (hm.2 y (List.mem_of_getElem? hy)).2⟩, fun hk => ?_⟩
  · have hp := List.pairwise_iff_getElem.1 hm.1 k (k + 1) (List.getElem?_eq_some_iff.1 hx).1 (List.getElem?_eq_some_iff.1 hy).1 (by omega)
    rw [(List.getElem?_eq_some_iff.1 hx).2, (List.getElem?_eq_some_iff.1 hy).2] at hp
    exact hp
  · have hlt := (List.getElem?_eq_some_iff.1 hx).1
    have hp := List.pairwise_iff_getElem.1 hm.1 0 k (by omega) hlt (by omega)
    rw [(List.getElem?_eq_some_iff.1 hx).2] at hp
    have := (hm.2 zs[0] (List.getElem_mem _)).1
    omega
theorem Ints.sub {w : World} {b o n cap : Nat} {p : List Int} (h : Ints w (.slice (some ⟨b, o, none⟩) n cap) p) {i j : Nat} (hij : i < j) (hj : j ≤ n) :
    Ints w (.slice (some ⟨b, o + i, none⟩) (j - i) (cap - i)) ((p.take j).drop i) := by
  obtain ⟨hn, _⟩ := h.len
  obtain ⟨hc1, hc2⟩ := h.cap_
  obtain ⟨a', cap', hv, _, h'⟩ := h
  obtain ⟨rfl, _, rfl⟩ : some ⟨b, o, none⟩ = a' ∧ n = p.length ∧ cap = cap' := by simpa using hv
  obtain ⟨b', o', hv', hlt, hcs⟩ := h' (by omega)
  obtain ⟨rfl, rfl⟩ : b = b' ∧ o = o' := by simpa using hv'
  have hlen : ((p.take j).drop i).length = j - i := by simp; omega
  refine ⟨_, cap - i, by rw [hlen], by rw [hlen]; omega, fun _ => ⟨b, o + i, rfl, hlt, fun k x hk => ?_⟩⟩
  have : p[i + k]? = some x := by
    rw [List.getElem?_drop, List.getElem?_take] at hk
    split at hk
    · exact hk
    · cases hk
  have := hcs (i + k) x this
  rwa [← Nat.add_assoc] at this
theorem flatM_box (p : List Int) : ∀ x ∈ flatM p, 0 ≤ x ∧ x ≤ p.length := by
  intro x hx
  simp only [flatM, List.mem_map] at hx
  obtain ⟨y, _, rfl⟩ := hx
  have := List.countP_le_length (p := fun z => decide (z < y)) (l := p)
  omega
end Go.Proofs.Ytgajaccnjjiiaaa
