/- Folded graphs: how the vertices are numbered. Plain laws. -/
import Derived.Test.YtlooclpfoeakgaaMA
import Derived.StillTail
import Derived.OrdersIn
import Derived.WalkKit
import Derived.StillTailTactics
import Derived.TacticsIn
import Derived.BigQuiet
import Derived.Lib.BufferMore
import Derived.Lib.ConvBytes
import Derived.Deep.AppendLies
import Derived.Deep.RegionHeldLaw
import Derived.Deep.RegionLaw
namespace Go.Proofs.Ytlooclpfoeakgaa

section
variable {V : Type} [DecidableEq V]
/-- where a thing stands in a list -/
def posOf (u : V) : List V → Option Nat
  | [] => none
  | x :: l => if x = u then some 0 else (posOf u l).map (· + 1)
/-- one vertex's row: the vertices that are met for the first time are put behind -/
def rowN (nx : V → Nat → Option V) (v : V) : List Nat → List V → List Int → List V × List Int
  | [], l, r => (l, r)
  | p :: ps, l, r => match nx v p with
    | none => rowN nx v ps l (r ++ [-1])
    | some u => match posOf u l with
      | some n => rowN nx v ps l (r ++ [(n : Int)])
      | none => rowN nx v ps (l ++ [u]) (r ++ [(l.length : Int)])
/-- all rows -/
def numN (nx : V → Nat → Option V) (ps : List Nat) : Nat → Nat → List V → List (List Int) → List (List Int)
  | 0, _, _, g => g
  | f + 1, i, l, g => match l[i]? with
    | none => g
    | some v => numN nx ps f (i + 1) (rowN nx v ps l []).1 (g ++ [(rowN nx v ps l []).2])
end

section
variable {V W : Type} {ρ : V → W → Prop}
/-- lists of things that go together -/
def Pairs (ρ : V → W → Prop) : List V → List W → Prop
  | [], [] => True
  | v :: l, w :: m => ρ v w ∧ Pairs ρ l m
  | _, _ => False
theorem Pairs.len : ∀ {l : List V} {m : List W}, Pairs ρ l m → l.length = m.length
  | [], [], _ => rfl
  | _ :: _, _ :: _, h => by rw [List.length_cons, List.length_cons, Pairs.len h.2]
  | [], _ :: _, h => h.elim
  | _ :: _, [], h => h.elim
theorem Pairs.snoc {v : V} {w : W} (hv : ρ v w) : ∀ {l : List V} {m : List W}, Pairs ρ l m → Pairs ρ (l ++ [v]) (m ++ [w])
  | [], [], _ => ⟨hv, trivial⟩
  | _ :: _, _ :: _, h => ⟨h.1, Pairs.snoc hv h.2⟩
  | [], _ :: _, h => h.elim
  | _ :: _, [], h => h.elim
theorem Pairs.get : ∀ {l : List V} {m : List W} (i : Nat), Pairs ρ l m → (l[i]? = none ∧ m[i]? = none) ∨ ∃ v w, l[i]? = some v ∧ m[i]? = some w ∧ ρ v w
  | [], [], i, _ => .inl ⟨by simp, by simp⟩
  | v :: _, w :: _, 0, h => .inr ⟨v, w, rfl, rfl, h.1⟩
  | _ :: _, _ :: _, i + 1, h => by simpa using Pairs.get i h.2
  | [], _ :: _, _, h => h.elim
  | _ :: _, [], _, h => h.elim
end
section
variable {V W : Type} [DecidableEq V] [DecidableEq W] {ρ : V → W → Prop}
theorem Pairs.pos (h1 : ∀ v w w2, ρ v w → ρ v w2 → w = w2) (h2 : ∀ v v2 w, ρ v w → ρ v2 w → v = v2) {v : V} {w : W} (hv : ρ v w) : ∀ {l : List V} {m : List W}, Pairs ρ l m → posOf v l = posOf w m
  | [], [], _ => rfl
  | x :: l, y :: m, h => by
    rw [posOf, posOf, Pairs.pos h1 h2 hv h.2]
    by_cases hx : x = v
    · subst hx
      rw [if_pos rfl, if_pos (h1 _ _ _ h.1 hv)]
    · rw [if_neg hx, if_neg (fun e => hx (h2 _ _ _ h.1 (by rw [e]; exact hv)))]
  | [], _ :: _, h => h.elim
  | _ :: _, [], h => h.elim
/-- things that go together have edges that go together -/
def Like (nx : V → Nat → Option V) (ny : W → Nat → Option W) (ρ : V → W → Prop) (ps : List Nat) : Prop :=
  ∀ v w p, ρ v w → p ∈ ps → (nx v p = none ∧ ny w p = none) ∨ ∃ u x, nx v p = some u ∧ ny w p = some x ∧ ρ u x
theorem rowN_alike {nx : V → Nat → Option V} {ny : W → Nat → Option W} (h1 : ∀ v w w2, ρ v w → ρ v w2 → w = w2) (h2 : ∀ v v2 w, ρ v w → ρ v2 w → v = v2) {v : V} {w : W} (hv : ρ v w) : ∀ (ps : List Nat), Like nx ny ρ ps → ∀ {l : List V} {m : List W} (r : List Int), Pairs ρ l m →
    Pairs ρ (rowN nx v ps l r).1 (rowN ny w ps m r).1 ∧ (rowN nx v ps l r).2 = (rowN ny w ps m r).2
  | [], _, _, _, _, h => ⟨h, rfl⟩
  | p :: ps, hl, l, m, r, h => by
    have hl2 : Like nx ny ρ ps := fun v w q hq hm => hl v w q hq (by simp [hm])
    rw [rowN, rowN]
    rcases hl v w p hv (by simp) with ⟨e1, e2⟩ | ⟨u, x, e1, e2, hux⟩
    · rw [e1, e2]
      exact rowN_alike h1 h2 hv ps hl2 _ h
    · rw [e1, e2]
      simp only
      rw [← Pairs.pos h1 h2 hux h]
      cases posOf u l with
      | some n => exact rowN_alike h1 h2 hv ps hl2 _ h
      | none =>
        simp only
        rw [h.len]
        exact rowN_alike h1 h2 hv ps hl2 _ (h.snoc hux)
theorem numN_alike {nx : V → Nat → Option V} {ny : W → Nat → Option W} (h1 : ∀ v w w2, ρ v w → ρ v w2 → w = w2) (h2 : ∀ v v2 w, ρ v w → ρ v2 w → v = v2) {ps : List Nat} (hl : Like nx ny ρ ps) : ∀ (f i : Nat) {l : List V} {m : List W} (g : List (List Int)), Pairs ρ l m →
    numN nx ps f i l g = numN ny ps f i m g
  | 0, _, _, _, _, _ => rfl
  | f + 1, i, l, m, g, h => by
    rw [numN, numN]
    rcases h.get i with ⟨e1, e2⟩ | ⟨v, w, e1, e2, hv⟩
    · rw [e1, e2]
    · rw [e1, e2]
      simp only
      obtain ⟨e3, e4⟩ := rowN_alike h1 h2 hv ps hl [] h
      rw [← e4]
      exact numN_alike h1 h2 hl f (i + 1) _ e3
end

/-! ### letters and places -/
def letP (p : Nat) : UInt8 := if p % 2 = 0 then UInt8.ofNat (97 + p / 2) else UInt8.ofNat (65 + p / 2)
def placeB (c : UInt8) : Nat := if 97 ≤ c.toNat then 2 * (c.toNat - 97) else 2 * (c.toNat - 65) + 1
theorem place_let : ∀ p : Nat, p < 52 → placeB (letP p) = p := by decide
theorem let_inv : ∀ p : Nat, p < 52 → invB (letP p) = letP (p ^^^ 1) := by decide
theorem let_place : ∀ c : UInt8, letter c.toNat = true → letP (placeB c) = c ∧ placeB c < 52 := for_bytes (by decide +kernel)
theorem place_inv : ∀ c : UInt8, letter c.toNat = true → placeB (invB c) = placeB c ^^^ 1 := for_bytes (by decide +kernel)
theorem letP_letter : ∀ p : Nat, p < 52 → letter (letP p).toNat = true := by decide
/-- the steps by letters, of the steps by places -/
def stepL {V : Type} (k : Nat) (nx : V → Nat → Option V) (v : V) (c : UInt8) : Option V := if letter c.toNat = true ∧ placeB c < 2 * k then nx v (placeB c) else none
theorem stepL_place {V : Type} {k : Nat} (hk : k ≤ 26) (nx : V → Nat → Option V) (v : V) {p : Nat} (hp : p < 2 * k) : stepL k nx v (letP p) = nx v p := by
  unfold stepL
  rw [if_pos ⟨letP_letter p (by omega), by rw [place_let p (by omega)]; exact hp⟩, place_let p (by omega)]
theorem xor_one_lt : ∀ k p : Nat, k ≤ 26 → p < 2 * k → p ^^^ 1 < 2 * k := by
  intro k p hk hp
  have : ∀ k : Nat, k < 27 → ∀ p : Nat, p < 52 → p < 2 * k → p ^^^ 1 < 2 * k := by decide +kernel
  exact this k (by omega) p (by omega) hp
theorem xor_xor : ∀ p : Nat, p < 52 → (p ^^^ 1) ^^^ 1 = p := by decide
/-- each edge by a place leads back by the other one -/
def FoldP {V : Type} (k : Nat) (nx : V → Nat → Option V) : Prop := ∀ v p u, p < 2 * k → nx v p = some u → nx u (p ^^^ 1) = some v
theorem FoldP.foldd {V : Type} {k : Nat} (hk : k ≤ 26) {nx : V → Nat → Option V} (h : FoldP k nx) : Foldd (stepL k nx) := by
  intro v c u hu
  unfold stepL at *
  split at hu
  · rename_i hc
    have h1 := h v _ u hc.2 hu
    have h2 := place_inv c hc.1
    have h3 := xor_one_lt k _ hk hc.2
    have h4 := (let_place c hc.1)
    have h5 : letter (invB c).toNat = true := by rw [← h4.1, let_inv _ h4.2]; exact letP_letter _ (by omega)
    rw [if_pos ⟨h5, by rw [h2]; exact h3⟩, h2]
    exact h1
  · cases hu

/-- two folded graphs that read the same loops are numbered alike -/
theorem same_numbers {V W : Type} [DecidableEq V] [DecidableEq W] {k : Nat} (hk : k ≤ 26) {nx : V → Nat → Option V} {ny : W → Nat → Option W} {o : V} {p : W} (hx : FoldP k nx) (hy : FoldP k ny)
    (cx : Coree (stepL k nx) o) (cy : Coree (stepL k ny) p) (hl : ∀ g, Rd g → (runS (stepL k nx) o g = some o ↔ runS (stepL k ny) p g = some p)) (f : Nat) :
    numN nx (List.range (2 * k)) f 0 [o] [] = numN ny (List.range (2 * k)) f 0 [p] [] := by
  have fx := hx.foldd hk
  have fy := hy.foldd hk
  have l1 : ∀ g, Rd g → runS (stepL k nx) o g = some o → runS (stepL k ny) p g = some p := fun g hg => (hl g hg).1
  have l2 : ∀ g, Rd g → runS (stepL k ny) p g = some p → runS (stepL k nx) o g = some o := fun g hg => (hl g hg).2
  refine numN_alike (ρ := Alike (stepL k nx) (stepL k ny) o p) (fun v w w2 h1 h2 => alike_fun fx fy l1 h1 h2) (fun v v2 w h1 h2 => alike_fun fy fx l2 (alike_symm h1) (alike_symm h2)) ?_ f 0 [] ⟨alike_zero, trivial⟩
  intro v w q hv hq
  rw [List.mem_range] at hq
  have e1 := stepL_place hk nx v hq
  have e2 := stepL_place hk ny w hq
  cases h1 : nx v q with
  | some u =>
    rw [h1] at e1
    obtain ⟨x, h2, h3⟩ := alike_step fx fy cx l1 hv e1
    rw [e2] at h2
    exact .inr ⟨u, x, rfl, h2, h3⟩
  | none =>
    cases h2 : ny w q with
    | none => exact .inl ⟨rfl, rfl⟩
    | some x =>
      rw [h2] at e2
      obtain ⟨u, h3, _⟩ := alike_step fy fx cy l2 (alike_symm hv) e2
      rw [e1, h1] at h3
      cases h3
end Go.Proofs.Ytlooclpfoeakgaa

/- Folded graphs without what hangs loose: what is read stays. Plain laws. -/
namespace Go.Proofs.Ytlooclpfoeakgaa

/-- the edges between vertices that are not gone -/
def nxG (nx : Nat → Nat → Option Nat) (G : Nat → Bool) (v p : Nat) : Option Nat := if G v then none else (nx v p).bind fun u => if G u then none else some u
theorem nxG_some {nx : Nat → Nat → Option Nat} {G : Nat → Bool} {v p u : Nat} : nxG nx G v p = some u ↔ nx v p = some u ∧ G v = false ∧ G u = false := by
  unfold nxG
  cases hv : G v
  · simp only [Bool.false_eq_true, if_false]
    cases hx : nx v p with
    | none => simp
    | some x =>
      show (if G x = true then none else some x) = some u ↔ _
      cases hg : G x
      · simp only [Bool.false_eq_true, if_false, Option.some.injEq]
        constructor
        · rintro rfl; exact ⟨rfl, trivial, hg⟩
        · exact fun h => h.1
      · simp only [if_true]
        constructor
        · intro h; cases h
        · rintro ⟨h1, _, h2⟩
          rw [Option.some.inj h1, h2] at hg
          cases hg
  · simp
theorem nxG_fold {k : Nat} {nx : Nat → Nat → Option Nat} (h : FoldP k nx) (G : Nat → Bool) : FoldP k (nxG nx G) := by
  intro v p u hp hu
  rw [nxG_some] at *
  exact ⟨h v p u hp hu.1, hu.2.2, hu.2.1⟩
/-- vertices that went one after the other, each with one edge at most -/
inductive Peel (k : Nat) (nx : Nat → Nat → Option Nat) (o : Nat) : (Nat → Bool) → Prop
  | zero : Peel k nx o fun _ => false
  | more {G G2 : Nat → Bool} (x : Nat) : Peel k nx o G → x ≠ o → (∀ p q, p < 2 * k → q < 2 * k → nxG nx G x p ≠ none → nxG nx G x q ≠ none → p = q) → (∀ v, G2 v = (G v || decide (v = x))) → Peel k nx o G2
theorem Peel.root {k : Nat} {nx : Nat → Nat → Option Nat} {o : Nat} {G : Nat → Bool} (h : Peel k nx o G) : G o = false := by
  induction h with
  | zero => rfl
  | more x _ hx _ h2 ih => rw [h2, ih]; simpa using fun e => hx e.symm
theorem stepG {k : Nat} {nx : Nat → Nat → Option Nat} {G : Nat → Bool} {v u : Nat} {c : UInt8} : stepL k (nxG nx G) v c = some u ↔ stepL k nx v c = some u ∧ G v = false ∧ G u = false := by
  unfold stepL
  split
  · exact nxG_some
  · simp
theorem stepL_some {k : Nat} {nx : Nat → Nat → Option Nat} {v u : Nat} {c : UInt8} (h : stepL k nx v c = some u) : letter c.toNat = true ∧ placeB c < 2 * k ∧ nx v (placeB c) = some u := by
  unfold stepL at h
  split at h
  · rename_i hc; exact ⟨hc.1, hc.2, h⟩
  · cases h
/-- a reduced loop goes through no vertex that has one edge -/
theorem peel_run {k : Nat} (hk : k ≤ 26) {nx : Nat → Nat → Option Nat} {o : Nat} (hf : FoldP k nx) {G : Nat → Bool} (h : Peel k nx o G) {w : List UInt8} (hw : Rd w) (hr : runS (stepL k nx) o w = some o) : runS (stepL k (nxG nx G)) o w = some o := by
  induction h with
  | zero =>
    have e : nxG nx (fun _ => false) = nx := by
      funext v p
      unfold nxG
      cases nx v p <;> rfl
    rw [e]; exact hr
  | @more G G2 x hG hx h1 h2 ih =>
    have fG := (nxG_fold hf G).foldd hk
    have ho := hG.root
    -- from a vertex on that is not x, the rest leads without x
    have H : ∀ (b : List UInt8) (v : Nat), v ≠ x → Rd b → runS (stepL k (nxG nx G)) v b = some o → runS (stepL k (nxG nx G2)) v b = some o := by
      intro b
      suffices H : ∀ (n : Nat) (b : List UInt8), b.length = n → ∀ v, v ≠ x → Rd b → runS (stepL k (nxG nx G)) v b = some o → runS (stepL k (nxG nx G2)) v b = some o from H _ b rfl
      intro n
      induction n with
      | zero => intro b hb v _ _ hr; obtain rfl := List.eq_nil_of_length_eq_zero hb; exact hr
      | succ n ihn =>
        intro b hb v hv hrd hr
        cases b with
        | nil => simp at hb
        | cons c b =>
          obtain ⟨u, h3, h4⟩ := run_split (a := [c]) (b := b) hr
          rw [run_one] at h3
          have hux : u ≠ x := by
            intro hux
            subst hux
            cases b with
            | nil =>
              have : u = o := Option.some.inj h4
              exact hx this
            | cons d b =>
              obtain ⟨y, h5, _⟩ := run_split (a := [d]) (b := b) h4
              rw [run_one] at h5
              have h6 := fG _ _ _ h3
              obtain ⟨l1, l2, l3⟩ := stepL_some h5
              obtain ⟨m1, m2, m3⟩ := stepL_some h6
              have h7 := h1 _ _ l2 m2 (by rw [l3]; simp) (by rw [m3]; simp)
              have h8 : d = invB c := by rw [← (let_place d l1).1, ← (let_place (invB c) m1).1, h7]
              exact Rd.ne hrd (by rw [h8, inv_inv])
          have h5 : stepL k (nxG nx G2) v c = some u := by
            rw [stepG] at *
            refine ⟨h3.1, ?_, ?_⟩
            · rw [h2, h3.2.1]; simpa using hv
            · rw [h2, h3.2.2]; simpa using hux
          exact run_app_some (a := [c]) (by rw [run_one]; exact h5) (ihn b (by simpa using hb) u hux hrd.tail h4)
    exact H w o (fun e => hx e.symm) hw ih
/-- what is read without the loose ones is read with them -/
theorem run_with {k : Nat} {nx : Nat → Nat → Option Nat} {G : Nat → Bool} : ∀ {w : List UInt8} {v u : Nat}, runS (stepL k (nxG nx G)) v w = some u → runS (stepL k nx) v w = some u := by
  intro w
  induction w with
  | nil => intro v u h; exact h
  | cons c w ih =>
    intro v u h
    obtain ⟨x, h1, h2⟩ := run_split (a := [c]) (b := w) h
    rw [run_one] at h1
    exact run_app_some (a := [c]) (by rw [run_one]; exact (stepG.1 h1).1) (ih h2)
/-- no vertex but the first has just one edge -/
def NoEnds (k : Nat) (nx : Nat → Nat → Option Nat) (o : Nat) : Prop := ∀ v p, v ≠ o → p < 2 * k → nx v p ≠ none → ∃ q, q < 2 * k ∧ q ≠ p ∧ nx v q ≠ none
theorem twos_of {k : Nat} (hk : k ≤ 26) {nx : Nat → Nat → Option Nat} {o : Nat} (hf : FoldP k nx) (h : NoEnds k nx o) : Twos (stepL k nx) o := by
  intro v g hv hg hr
  rcases List.eq_nil_or_concat g with rfl | ⟨m, c, rfl⟩
  · exact absurd (Option.some.inj hr).symm hv
  · rw [List.concat_eq_append] at hr
    obtain ⟨x, _, h2⟩ := run_split hr
    rw [run_one] at h2
    have h3 := hf.foldd hk _ _ _ h2
    obtain ⟨l1, l2, l3⟩ := stepL_some h3
    obtain ⟨q, h4, h5, h6⟩ := h v _ hv l2 (by rw [l3]; simp)
    refine ⟨invB c, letP q, ?_, by rw [h3]; simp, by rw [stepL_place hk nx v h4]; exact h6⟩
    intro e
    apply h5
    rw [e, place_let q (by omega)]
/-- THE GRAPH OF WHAT SOME WORDS MAKE: folded, without what hangs loose, its loops just what the words make -/
structure GraphOf (k : Nat) (S : List UInt8 → Prop) (nx : Nat → Nat → Option Nat) (o : Nat) : Prop where
  fold : FoldP k nx
  core : Coree (stepL k nx) o
  loops : ∀ g, Rd g → (runS (stepL k nx) o g = some o ↔ Gen S g)
theorem graph_of {k N : Nat} (hk : k ≤ 26) {S : List UInt8 → Prop} {nx : Nat → Nat → Option Nat} {o : Nat} {G : Nat → Bool} (hf : FoldP k nx) (ho : o < N) (hN : ∀ v p u, nx v p = some u → u < N)
    (hp : Peel k nx o G) (he : NoEnds k (nxG nx G) o) (hS : ∀ a, S a → runS (stepL k nx) o a = some o) (hG : ∀ w, runS (stepL k nx) o w = some o → Gen S w) : GraphOf k S (nxG nx G) o := by
  have fG := nxG_fold hf G
  refine ⟨fG, core_of (fG.foldd hk) ho (fun v c u h => hN v _ u (nxG_some.1 (stepL_some h).2.2).1) (twos_of hk fG he), fun g hg => ⟨fun h => hG _ (run_with h), fun h => ?_⟩⟩
  have := gen_loop (hf.foldd hk) hS h
  rw [redW_self hg] at this
  exact peel_run hk hf hp hg this
theorem graph_same {k : Nat} (hk : k ≤ 26) {S T : List UInt8 → Prop} {nx ny : Nat → Nat → Option Nat} {o p : Nat} (hx : GraphOf k S nx o) (hy : GraphOf k T ny p) (h : ∀ g, Rd g → (Gen S g ↔ Gen T g)) (f : Nat) :
    numN nx (List.range (2 * k)) f 0 [o] [] = numN ny (List.range (2 * k)) f 0 [p] [] :=
  same_numbers hk hx.fold hy.fold hx.core hy.core (fun g hg => (hx.loops g hg).trans ((h g hg).trans (hy.loops g hg).symm)) f
end Go.Proofs.Ytlooclpfoeakgaa

/- Graphs that are being folded: what stays true. Plain laws. -/
namespace Go.Proofs.Ytlooclpfoeakgaa

/-- a graph that is being folded: how many vertices, by which one each is known, the edges of each, and what is to be joined -/
structure FS where
  n : Nat
  R : Nat → Nat
  has : Nat → Nat → Option Nat
  todo : List (Nat × Nat)
/-- what is one vertex, or is to be -/
inductive Rel (R : Nat → Nat) (todo : List (Nat × Nat)) : Nat → Nat → Prop
  | root {i j : Nat} : R i = R j → Rel R todo i j
  | todo {i j : Nat} : (i, j) ∈ todo → Rel R todo i j
  | symm {i j : Nat} : Rel R todo i j → Rel R todo j i
  | trans {i j k : Nat} : Rel R todo i j → Rel R todo j k → Rel R todo i k
theorem Rel.mono {R R2 : Nat → Nat} {todo todo2 : List (Nat × Nat)} (h1 : ∀ i j, R i = R j → Rel R2 todo2 i j) (h2 : ∀ i j, (i, j) ∈ todo → Rel R2 todo2 i j) {i j : Nat} (h : Rel R todo i j) : Rel R2 todo2 i j := by
  induction h with
  | root h => exact h1 _ _ h
  | todo h => exact h2 _ _ h
  | symm _ ih => exact ih.symm
  | trans _ _ ih1 ih2 => exact ih1.trans ih2
theorem Rel.eq {R : Nat → Nat} {i j : Nat} (h : Rel R [] i j) : R i = R j := by
  induction h with
  | root h => exact h
  | todo h => cases h
  | symm _ ih => exact ih.symm
  | trans _ _ ih1 ih2 => exact ih1.trans ih2
structure Inv (k : Nat) (S : List UInt8 → Prop) (φ : Nat → List UInt8) (E : List (Nat × Nat × Nat)) (x : FS) : Prop where
  idem : ∀ i, x.R (x.R i) = x.R i
  lt : ∀ i, i < x.n → x.R i < x.n
  out : ∀ i, x.n ≤ i → x.R i = i ∧ ∀ p, x.has i p = none
  bound : ∀ v p t, x.has v p = some t → t < x.n ∧ p < 2 * k
  edge : ∀ v p t, x.has v p = some t → Gen S (φ v ++ [letP p] ++ invL (φ t))
  root : ∀ i, i < x.n → Gen S (φ i ++ invL (φ (x.R i)))
  todoG : ∀ a b, (a, b) ∈ x.todo → a < x.n ∧ b < x.n ∧ Gen S (φ a ++ invL (φ b))
  fold : ∀ r p t, x.R r = r → x.has r p = some t → ∃ t2, x.has (x.R t) (p ^^^ 1) = some t2 ∧ Rel x.R x.todo t2 r
  need : ∀ a p b, (a, p, b) ∈ E → ∃ t, x.has (x.R a) p = some t ∧ Rel x.R x.todo t b

/-! ### products -/
theorem Gen.mid {S : List UInt8 → Prop} {a b c : List UInt8} (h1 : Gen S (a ++ invL b)) (h2 : Gen S (b ++ c)) : Gen S (a ++ c) := by
  refine .eqv ?_ (h1.prod h2)
  have h := Eqv.right c (Eqv.left a (Eqv.inv_left b))
  simpa [List.append_assoc] using h
theorem Gen.flip {S : List UInt8 → Prop} {a b : List UInt8} (h : Gen S (a ++ invL b)) : Gen S (b ++ invL a) := by
  have := h.back
  rwa [invL_app, invL_inv] at this
theorem Gen.refl_ (S : List UInt8 → Prop) (a : List UInt8) : Gen S (a ++ invL a) := .eqv (Eqv.inv_right a).symm .nil
theorem Gen.endd {S : List UInt8 → Prop} {a b c : List UInt8} (h1 : Gen S (a ++ invL b)) (h2 : Gen S (b ++ invL c)) : Gen S (a ++ invL c) := h1.mid h2
/-- two edges by one letter from what is one vertex end in what is one vertex -/
theorem Gen.ends {S : List UInt8 → Prop} {a b x y : List UInt8} {c : List UInt8} (h : Gen S (a ++ invL b)) (h1 : Gen S (a ++ c ++ invL x)) (h2 : Gen S (b ++ c ++ invL y)) : Gen S (x ++ invL y) := by
  have h3 : Gen S (invL (a ++ c ++ invL x) ++ (a ++ invL b) ++ (b ++ c ++ invL y)) := (h1.back.prod h).prod h2
  refine .eqv ?_ h3
  rw [invL_app, invL_app, invL_inv]
  have e1 := Eqv.right (invL b ++ (b ++ (c ++ invL y))) (Eqv.left (x ++ invL c) (Eqv.inv_left a))
  have e2 := Eqv.right (c ++ invL y) (Eqv.left (x ++ invL c) (Eqv.inv_left b))
  have e3 := Eqv.right (invL y) (Eqv.left x (Eqv.inv_left c))
  simp only [List.append_assoc, List.nil_append] at *
  exact e1.trans (e2.trans e3)

/-! ### a new vertex -/
def addF (x : FS) : FS := { x with n := x.n + 1 }
theorem inv_add {k : Nat} {S : List UInt8 → Prop} {φ : Nat → List UInt8} {E : List (Nat × Nat × Nat)} {x : FS} (h : Inv k S φ E x) : Inv k S φ E (addF x) := by
  refine ⟨h.idem, fun i hi => ?_, fun i hi => h.out i (by show x.n ≤ i; have : x.n + 1 ≤ i := hi; omega), fun v p t ht => ?_, h.edge, fun i hi => ?_, fun a b hab => ?_, h.fold, h.need⟩
  · show x.R i < x.n + 1
    by_cases h1 : i < x.n
    · have := h.lt i h1; omega
    · rw [(h.out i (by omega)).1]; exact hi
  · have := h.bound v p t ht
    exact ⟨by show t < x.n + 1; omega, this.2⟩
  · by_cases h1 : i < x.n
    · exact h.root i h1
    · show Gen S (φ i ++ invL (φ (x.R i)))
      rw [(h.out i (by omega)).1]; exact Gen.refl_ S _
  · obtain ⟨h1, h2, h3⟩ := h.todoG a b hab
    exact ⟨by show a < x.n + 1; omega, by show b < x.n + 1; omega, h3⟩

/-! ### a new edge -/
def putF (x : FS) (v p t : Nat) : FS :=
  match x.has (x.R v) p with
  | some u => { x with todo := x.todo ++ [(u, t)] }
  | none => { x with has := fun w q => if w = x.R v ∧ q = p then some t else x.has w q }
theorem putF_R (x : FS) (v p t : Nat) : (putF x v p t).R = x.R := by unfold putF; split <;> rfl
theorem putF_n (x : FS) (v p t : Nat) : (putF x v p t).n = x.n := by unfold putF; split <;> rfl
theorem putF_ext {x : FS} {v p t w q u : Nat} (h : x.has w q = some u) : (putF x v p t).has w q = some u := by
  unfold putF
  split
  · exact h
  · rename_i h0
    show (if w = x.R v ∧ q = p then some t else x.has w q) = some u
    rw [if_neg]
    · exact h
    · rintro ⟨rfl, rfl⟩; rw [h] at h0; cases h0
theorem putF_todo {x : FS} {v p t a b : Nat} (h : (a, b) ∈ x.todo) : (a, b) ∈ (putF x v p t).todo := by
  unfold putF
  split
  · exact List.mem_append_left _ h
  · exact h
theorem putF_at (x : FS) (v p t : Nat) : ∃ y, (putF x v p t).has (x.R v) p = some y ∧ (y = t ∨ (y, t) ∈ (putF x v p t).todo) := by
  unfold putF
  split
  · rename_i u h; exact ⟨u, h, .inr (by simp)⟩
  · exact ⟨t, by simp, .inl rfl⟩
theorem putF_old {x : FS} {v p t w q u : Nat} (h : (putF x v p t).has w q = some u) : x.has w q = some u ∨ (w = x.R v ∧ q = p ∧ u = t) := by
  unfold putF at h
  split at h
  · exact .inl h
  · have h : (if w = x.R v ∧ q = p then some t else x.has w q) = some u := h
    split at h
    · rename_i h1; exact .inr ⟨h1.1, h1.2, (Option.some.inj h).symm⟩
    · exact .inl h
theorem putF_new {x : FS} {v p t a b : Nat} (h : (a, b) ∈ (putF x v p t).todo) : (a, b) ∈ x.todo ∨ (x.has (x.R v) p = some a ∧ b = t) := by
  unfold putF at h
  split at h
  · rename_i u hu
    rcases List.mem_append.1 h with h | h
    · exact .inl h
    · simp at h
      exact .inr ⟨by rw [hu, h.1], h.2⟩
  · exact .inl h
def edgeF (x : FS) (a p b : Nat) : FS := putF (putF x a p b) b (p ^^^ 1) a
theorem inv_edge {k : Nat} (hk : k ≤ 26) {S : List UInt8 → Prop} {φ : Nat → List UInt8} {E : List (Nat × Nat × Nat)} {x : FS} (h : Inv k S φ E x) {a p b : Nat} (ha : a < x.n) (hb : b < x.n) (hp : p < 2 * k) (hG : Gen S (φ a ++ [letP p] ++ invL (φ b))) :
    Inv k S φ ((a, p, b) :: E) (edgeF x a p b) := by
  have hp2 := xor_one_lt k p hk hp
  have hpp := xor_xor p (by omega)
  obtain ⟨y1, z1, z2⟩ := putF_at x a p b
  obtain ⟨y2, z3, z4⟩ := putF_at (putF x a p b) b (p ^^^ 1) a
  rw [putF_R] at z3
  have eR : (edgeF x a p b).R = x.R := by unfold edgeF; rw [putF_R, putF_R]
  have en : (edgeF x a p b).n = x.n := by unfold edgeF; rw [putF_n, putF_n]
  have ext : ∀ w q u, x.has w q = some u → (edgeF x a p b).has w q = some u := fun w q u hu => putF_ext (putF_ext hu)
  have old : ∀ w q u, (edgeF x a p b).has w q = some u → x.has w q = some u ∨ (w = x.R a ∧ q = p ∧ u = b) ∨ (w = x.R b ∧ q = p ^^^ 1 ∧ u = a) := by
    intro w q u hu
    rcases putF_old hu with h1 | ⟨h1, h2, h3⟩
    · rcases putF_old h1 with h1 | h1
      · exact .inl h1
      · exact .inr (.inl h1)
    · rw [putF_R] at h1; exact .inr (.inr ⟨h1, h2, h3⟩)
  have z1' : (edgeF x a p b).has (x.R a) p = some y1 := putF_ext z1
  have z3' : (edgeF x a p b).has (x.R b) (p ^^^ 1) = some y2 := z3
  have td : ∀ i j, (i, j) ∈ x.todo → (i, j) ∈ (edgeF x a p b).todo := fun i j hij => putF_todo (putF_todo hij)
  have rmono : ∀ i j, Rel x.R x.todo i j → Rel x.R (edgeF x a p b).todo i j := fun i j hij => hij.mono (fun i j e => .root e) (fun i j e => .todo (td i j e))
  have r1 : Rel x.R (edgeF x a p b).todo y1 b := by
    rcases z2 with rfl | z2
    · exact .root rfl
    · exact .todo (putF_todo z2)
  have r2 : Rel x.R (edgeF x a p b).todo y2 a := by
    rcases z4 with rfl | z4
    · exact .root rfl
    · exact .todo z4
  have gRa := (h.root a ha).flip
  have gRb := (h.root b hb).flip
  have gE1 : Gen S (φ (x.R a) ++ [letP p] ++ invL (φ b)) := by rw [List.append_assoc] at *; exact gRa.mid hG
  have gE2 : Gen S (φ (x.R b) ++ [letP (p ^^^ 1)] ++ invL (φ a)) := by
    have h1 := hG.back
    rw [invL_app, invL_app, invL_inv, show invL [letP p] = [letP (p ^^^ 1)] by rw [← let_inv p (by omega)]; rfl] at h1
    rw [List.append_assoc]
    exact gRb.mid h1
  have gEdge : ∀ w q u, (edgeF x a p b).has w q = some u → Gen S (φ w ++ [letP q] ++ invL (φ u)) := by
    intro w q u hu
    rcases old w q u hu with h1 | ⟨rfl, rfl, rfl⟩ | ⟨rfl, rfl, rfl⟩
    · exact h.edge _ _ _ h1
    · exact gE1
    · exact gE2
  refine ⟨by rw [eR]; exact h.idem, by rw [eR, en]; exact h.lt, ?_, ?_, gEdge, by rw [eR, en]; exact h.root, ?_, ?_, ?_⟩
  · intro i hi
    rw [en] at hi
    rw [eR]
    refine ⟨(h.out i hi).1, fun q => ?_⟩
    cases hq : (edgeF x a p b).has i q with
    | none => rfl
    | some u =>
      exfalso
      rcases old i q u hq with h1 | ⟨h1, _⟩ | ⟨h1, _⟩
      · rw [(h.out i hi).2 q] at h1; cases h1
      · have := h.lt a ha; omega
      · have := h.lt b hb; omega
  · intro w q u hu
    rw [en]
    rcases old w q u hu with h1 | ⟨_, rfl, rfl⟩ | ⟨_, rfl, rfl⟩
    · exact h.bound _ _ _ h1
    · exact ⟨hb, hp⟩
    · exact ⟨ha, hp2⟩
  · intro i j hij
    rw [en]
    rcases putF_new hij with h1 | ⟨h1, hj⟩
    · rcases putF_new h1 with h2 | ⟨h2, rfl⟩
      · exact h.todoG i j h2
      · refine ⟨(h.bound _ _ _ h2).1, hb, ?_⟩
        exact Gen.ends (Gen.refl_ S (φ (x.R a))) (h.edge _ _ _ h2) gE1
    · rw [hj]
      rw [putF_R] at h1
      have h2 : (edgeF x a p b).has (x.R b) (p ^^^ 1) = some i := putF_ext h1
      have h3 := gEdge _ _ _ h2
      refine ⟨?_, ha, Gen.ends (Gen.refl_ S (φ (x.R b))) h3 gE2⟩
      rcases old _ _ _ h2 with h4 | ⟨_, _, rfl⟩ | ⟨_, _, rfl⟩
      · exact (h.bound _ _ _ h4).1
      · exact hb
      · exact ha
  · intro r q t hr ht
    rw [eR] at *
    rcases old r q t ht with h1 | ⟨rfl, rfl, rfl⟩ | ⟨rfl, rfl, rfl⟩
    · obtain ⟨t2, h2, h3⟩ := h.fold r q t hr h1
      exact ⟨t2, ext _ _ _ h2, rmono _ _ h3⟩
    · exact ⟨y2, z3', r2.trans (.root (h.idem a).symm)⟩
    · refine ⟨y1, by rw [hpp]; exact z1', r1.trans (.root (h.idem b).symm)⟩
  · intro c q d hc
    rw [eR]
    rcases List.mem_cons.1 hc with h1 | h1
    · simp only [Prod.mk.injEq] at h1
      obtain ⟨rfl, rfl, rfl⟩ := h1
      exact ⟨y1, z1', r1⟩
    · obtain ⟨t, h2, h3⟩ := h.need c q d h1
      exact ⟨t, ext _ _ _ h2, rmono _ _ h3⟩

/-! ### two vertices are joined -/
def clashF (x : FS) (a b : Nat) : List (Nat × Nat) := (List.range 8).filterMap fun p => match x.has b p, x.has a p with
  | some t, some y => some (y, t)
  | _, _ => none
def joinF (x : FS) (rest : List (Nat × Nat)) (c d : Nat) : FS :=
  if x.R c = x.R d then { x with todo := rest }
  else { n := x.n, R := fun i => if x.R i = x.R d then x.R c else x.R i, has := fun v p => if v = x.R c then (x.has (x.R c) p).or (x.has (x.R d) p) else x.has v p, todo := rest ++ clashF x (x.R c) (x.R d) }
theorem inv_join {k : Nat} (hk : k ≤ 4) {S : List UInt8 → Prop} {φ : Nat → List UInt8} {E : List (Nat × Nat × Nat)} {x : FS} (h : Inv k S φ E x) {rest : List (Nat × Nat)} {c d : Nat} (ht : x.todo = rest ++ [(c, d)]) : Inv k S φ E (joinF x rest c d) := by
  obtain ⟨hc, hd, hG⟩ := h.todoG c d (by rw [ht]; simp)
  have restG : ∀ a b, (a, b) ∈ rest → a < x.n ∧ b < x.n ∧ Gen S (φ a ++ invL (φ b)) := fun a b hab => h.todoG a b (by rw [ht]; simp [hab])
  unfold joinF
  by_cases hcd : x.R c = x.R d
  · rw [if_pos hcd]
    have rm : ∀ i j, Rel x.R x.todo i j → Rel x.R rest i j := by
      intro i j hij
      refine hij.mono (fun i j e => .root e) (fun i j e => ?_)
      rw [ht] at e
      rcases List.mem_append.1 e with e | e
      · exact .todo e
      · simp at e
        obtain ⟨rfl, rfl⟩ := e
        exact .root hcd
    refine ⟨h.idem, h.lt, h.out, h.bound, h.edge, h.root, restG, fun r p t hr hp => ?_, fun a p b hab => ?_⟩
    · obtain ⟨t2, h1, h2⟩ := h.fold r p t hr hp
      exact ⟨t2, h1, rm _ _ h2⟩
    · obtain ⟨t, h1, h2⟩ := h.need a p b hab
      exact ⟨t, h1, rm _ _ h2⟩
  · rw [if_neg hcd]
    have hrc := h.lt c hc
    have hrd := h.lt d hd
    have gcd : Gen S (φ (x.R c) ++ invL (φ (x.R d))) := ((h.root c hc).flip.endd hG).endd (h.root d hd)
    have eC := h.idem c
    have eD := h.idem d
    generalize hA : x.R c = A at *
    generalize hB : x.R d = B at *
    -- the new state's parts
    have R2 : ∀ i, (fun i => if x.R i = B then A else x.R i) i = if x.R i = B then A else x.R i := fun _ => rfl
    have RA : (if x.R A = B then A else x.R A) = A := by rw [eC, if_neg hcd]
    generalize hRR : (fun i => if x.R i = B then A else x.R i) = RR at *
    generalize hHH : (fun v p => if v = A then (x.has A p).or (x.has B p) else x.has v p) = HH at *
    have HHA : ∀ p, HH A p = (x.has A p).or (x.has B p) := by intro p; rw [← hHH]; simp
    have HHo : ∀ v p, v ≠ A → HH v p = x.has v p := by intro v p hv; rw [← hHH]; simp [hv]
    have clash : ∀ p y t, x.has A p = some y → x.has B p = some t → (y, t) ∈ clashF x A B := by
      intro p y t h1 h2
      unfold clashF
      rw [List.mem_filterMap]
      exact ⟨p, by rw [List.mem_range]; have := (h.bound _ _ _ h1).2; omega, by rw [h2, h1]⟩
    have clashed : ∀ y t, (y, t) ∈ clashF x A B → ∃ p, x.has A p = some y ∧ x.has B p = some t := by
      intro y t hyt
      unfold clashF at hyt
      rw [List.mem_filterMap] at hyt
      obtain ⟨p, _, h2⟩ := hyt
      cases h3 : x.has B p with
      | none => rw [h3] at h2; cases h2
      | some t' =>
        cases h4 : x.has A p with
        | none => rw [h3, h4] at h2; cases h2
        | some y' =>
          rw [h3, h4] at h2
          simp only [Option.some.injEq, Prod.mk.injEq] at h2
          obtain ⟨rfl, rfl⟩ := h2
          exact ⟨p, h4, h3⟩
    have rm : ∀ i j, Rel x.R x.todo i j → Rel RR (rest ++ clashF x A B) i j := by
      intro i j hij
      refine hij.mono (fun i j e => .root (by rw [R2, R2, e])) (fun i j e => ?_)
      rw [ht] at e
      rcases List.mem_append.1 e with e | e
      · exact .todo (List.mem_append_left _ e)
      · simp at e
        obtain ⟨rfl, rfl⟩ := e
        refine .root ?_
        rw [R2, R2, hA, hB, if_neg hcd, if_pos rfl]
    -- what an old edge from a root has become
    have keep : ∀ r p t, x.R r = r → x.has r p = some t → ∃ t2, HH (RR r) p = some t2 ∧ Rel RR (rest ++ clashF x A B) t2 t := by
      intro r p t hr hp
      by_cases h1 : r = A
      · subst h1
        refine ⟨t, ?_, .root rfl⟩
        rw [R2, RA, HHA, hp]; rfl
      · by_cases h2 : r = B
        · subst h2
          rw [R2, hr, if_pos rfl, HHA]
          cases h3 : x.has A p with
          | none => exact ⟨t, by rw [hp]; rfl, .root rfl⟩
          | some y => exact ⟨y, rfl, .todo (List.mem_append_right _ (clash p y t h3 hp))⟩
        · refine ⟨t, ?_, .root rfl⟩
          rw [R2, hr, if_neg h2, HHo _ _ h1]; exact hp
    have hRRidem : ∀ i, RR (RR i) = RR i := by
      intro i
      rw [R2 i]
      by_cases h1 : x.R i = B
      · rw [if_pos h1, R2, RA]
      · rw [if_neg h1, R2, h.idem, if_neg h1]
    refine ⟨hRRidem, fun i hi => ?_, fun i hi => ?_, fun v p t hp => ?_, fun v p t hp => ?_, fun i hi => ?_, fun a b hab => ?_, fun r p t hr hp => ?_, fun a p b hab => ?_⟩
    · show RR i < x.n
      rw [R2]
      split
      · exact hrc
      · exact h.lt i hi
    · have h1 := h.out i hi
      refine ⟨?_, fun p => ?_⟩
      · show RR i = i
        have h2 : i ≠ B := by have : x.n ≤ i := hi; omega
        rw [R2, h1.1, if_neg h2]
      · show HH i p = none
        have h2 : i ≠ A := by have : x.n ≤ i := hi; omega
        rw [HHo _ _ h2, h1.2]
    · by_cases h1 : v = A
      · subst h1
        have hp : HH v p = some t := hp
        rw [HHA] at hp
        cases h2 : x.has v p with
        | some y => rw [h2] at hp; exact (Option.some.inj hp) ▸ h.bound _ _ _ h2
        | none => rw [h2] at hp; exact h.bound _ _ _ hp
      · have hp : HH v p = some t := hp
        rw [HHo _ _ h1] at hp
        exact h.bound _ _ _ hp
    · by_cases h1 : v = A
      · subst h1
        have hp : HH v p = some t := hp
        rw [HHA] at hp
        cases h2 : x.has v p with
        | some y => rw [h2] at hp; exact (Option.some.inj hp) ▸ h.edge _ _ _ h2
        | none =>
          rw [h2] at hp
          have h3 := h.edge _ _ _ (show x.has B p = some t from hp)
          rw [List.append_assoc] at *
          exact gcd.mid h3
      · have hp : HH v p = some t := hp
        rw [HHo _ _ h1] at hp
        exact h.edge _ _ _ hp
    · show Gen S (φ i ++ invL (φ (RR i)))
      rw [R2]
      by_cases h1 : x.R i = B
      · rw [if_pos h1]
        have := h.root i hi
        rw [h1] at this
        exact this.endd gcd.flip
      · rw [if_neg h1]; exact h.root i hi
    · rcases List.mem_append.1 hab with h1 | h1
      · exact restG a b h1
      · obtain ⟨p, h2, h3⟩ := clashed a b h1
        exact ⟨(h.bound _ _ _ h2).1, (h.bound _ _ _ h3).1, Gen.ends gcd (h.edge _ _ _ h2) (h.edge _ _ _ h3)⟩
    · replace hr : RR r = r := hr
      replace hp : HH r p = some t := hp
      show ∃ t2, HH (RR t) (p ^^^ 1) = some t2 ∧ Rel RR (rest ++ clashF x A B) t2 r
      -- an old edge of a root that is now r
      have main : ∀ r0, x.R r0 = r0 → RR r0 = r → x.has r0 p = some t → ∃ t2, HH (RR t) (p ^^^ 1) = some t2 ∧ Rel RR (rest ++ clashF x A B) t2 r := by
        intro r0 h1 h2 h3
        obtain ⟨t2, h4, h5⟩ := h.fold r0 p t h1 h3
        obtain ⟨t3, h6, h7⟩ := keep (x.R t) (p ^^^ 1) t2 (h.idem t) h4
        have e : RR (x.R t) = RR t := by rw [R2, R2, h.idem]
        rw [e] at h6
        exact ⟨t3, h6, h7.trans ((rm _ _ h5).trans (.root (by rw [h2, hr])))⟩
      by_cases h1 : r = A
      · subst h1
        rw [HHA] at hp
        cases h2 : x.has r p with
        | some y =>
          rw [h2] at hp
          exact main r eC (by rw [R2, RA]) (by rw [h2]; exact hp)
        | none =>
          rw [h2] at hp
          exact main B eD (by rw [R2, eD, if_pos rfl]) hp
      · rw [HHo _ _ h1] at hp
        have h2 : x.R r = r := by
          have h3 : (if x.R r = B then A else x.R r) = r := by rw [← R2]; exact hr
          by_cases h4 : x.R r = B
          · rw [if_pos h4] at h3; exact absurd h3.symm h1
          · rwa [if_neg h4] at h3
        exact main r h2 hr hp
    · obtain ⟨t, h1, h2⟩ := h.need a p b hab
      obtain ⟨t2, h3, h4⟩ := keep (x.R a) p t (h.idem a) h1
      have e : RR (x.R a) = RR a := by rw [R2, R2, h.idem]
      rw [e] at h3
      exact ⟨t2, h3, h4.trans (rm _ _ h2)⟩
end Go.Proofs.Ytlooclpfoeakgaa

/- Graphs that are folded: what they read. Plain laws. -/
namespace Go.Proofs.Ytlooclpfoeakgaa

/-- the folded graph: where an edge leads from a vertex by which others are known -/
def nxF (x : FS) (v p : Nat) : Option Nat := if x.R v = v then (x.has v p).map x.R else none
theorem nxF_some {x : FS} {v p u : Nat} (h : nxF x v p = some u) : x.R v = v ∧ ∃ t, x.has v p = some t ∧ x.R t = u := by
  unfold nxF at h
  split at h
  · rename_i hv
    cases ht : x.has v p with
    | none => rw [ht] at h; cases h
    | some t => rw [ht] at h; exact ⟨hv, t, rfl, Option.some.inj h⟩
  · cases h
theorem nxF_of {x : FS} {v p t : Nat} (hv : x.R v = v) (ht : x.has v p = some t) : nxF x v p = some (x.R t) := by
  unfold nxF
  rw [if_pos hv, ht]; rfl
section
variable {k : Nat} {S : List UInt8 → Prop} {φ : Nat → List UInt8} {E : List (Nat × Nat × Nat)} {x : FS}
theorem settled_fold (h : Inv k S φ E x) (h0 : x.todo = []) : FoldP k (nxF x) := by
  intro v p u _ hu
  obtain ⟨hv, t, ht, rfl⟩ := nxF_some hu
  obtain ⟨t2, h1, h2⟩ := h.fold v p t hv ht
  rw [h0] at h2
  rw [nxF_of (h.idem t) h1, h2.eq, hv]
theorem settled_bound (h : Inv k S φ E x) {v p u : Nat} (hu : nxF x v p = some u) : u < x.n ∧ p < 2 * k := by
  obtain ⟨hv, t, ht, rfl⟩ := nxF_some hu
  have := h.bound _ _ _ ht
  exact ⟨h.lt t this.1, this.2⟩
theorem settled_need (h : Inv k S φ E x) (h0 : x.todo = []) {a p b : Nat} (hE : (a, p, b) ∈ E) : nxF x (x.R a) p = some (x.R b) := by
  obtain ⟨t, h1, h2⟩ := h.need a p b hE
  rw [h0] at h2
  rw [nxF_of (h.idem a) h1, h2.eq]
theorem settled_sound (h : Inv k S φ E x) {s : Nat} (hs : s < x.n) (hφ : φ s = []) {w : List UInt8} (hw : runS (stepL k (nxF x)) (x.R s) w = some (x.R s)) : Gen S w := by
  have h1 := loop_gen (s := stepL k (nxF x)) φ (S := S) (fun v c u hu => by
    obtain ⟨l1, l2, l3⟩ := stepL_some hu
    obtain ⟨hv, t, ht, rfl⟩ := nxF_some l3
    have h2 := h.edge _ _ _ ht
    rw [(let_place c l1).1] at h2
    exact h2.endd (h.root t (h.bound _ _ _ ht).1)) hw
  have h2 := h.root s hs
  rw [hφ, List.nil_append] at h2
  have h3 := (h2.prod h1).prod h2.back
  rw [invL_inv] at h3
  refine .eqv ?_ h3
  have e1 := Eqv.right (w ++ (invL (φ (x.R s)) ++ φ (x.R s))) (Eqv.inv_left (φ (x.R s)))
  have e2 := Eqv.left w (Eqv.inv_left (φ (x.R s)))
  simp only [List.append_assoc, List.nil_append, List.append_nil] at *
  exact e1.trans e2
end
/-- edges that a word goes along -/
inductive Along (E : List (Nat × Nat × Nat)) : Nat → List UInt8 → Nat → Prop
  | nil (a : Nat) : Along E a [] a
  | cons {a b d : Nat} {c : UInt8} {w : List UInt8} : letter c.toNat = true → (a, placeB c, b) ∈ E → Along E b w d → Along E a (c :: w) d
theorem Along.mono {E F : List (Nat × Nat × Nat)} (h : ∀ e, e ∈ E → e ∈ F) {a b : Nat} {w : List UInt8} (hw : Along E a w b) : Along F a w b := by
  induction hw with
  | nil a => exact .nil a
  | cons h1 h2 _ ih => exact .cons h1 (h _ h2) ih
theorem Along.snoc {E : List (Nat × Nat × Nat)} {a b d : Nat} {w : List UInt8} {c : UInt8} (hw : Along E a w b) (h1 : letter c.toNat = true) (h2 : (b, placeB c, d) ∈ E) : Along E a (w ++ [c]) d := by
  induction hw with
  | nil a => exact .cons h1 h2 (.nil _)
  | cons h3 h4 _ ih => exact .cons h3 h4 (ih h2)
theorem settled_along {k : Nat} {S : List UInt8 → Prop} {φ : Nat → List UInt8} {E : List (Nat × Nat × Nat)} {x : FS} (h : Inv k S φ E x) (h0 : x.todo = []) {a b : Nat} {w : List UInt8} (hw : Along E a w b) : runS (stepL k (nxF x)) (x.R a) w = some (x.R b) := by
  induction hw with
  | nil a => rfl
  | @cons a b d c w h1 h2 _ ih =>
    have h3 := settled_need h h0 h2
    refine run_app_some (a := [c]) ?_ ih
    rw [run_one]
    unfold stepL
    rw [if_pos ⟨h1, (settled_bound h h3).2⟩]
    exact h3
end Go.Proofs.Ytlooclpfoeakgaa

/- The reference's Reduce: the walk. -/
namespace Go.Proofs.Ytlooclpfoeakgaa
open Go.RowKit

theorem redW_at {s : ByteArray} {k : Nat} (h : k < s.size) (acc : List UInt8) : ((bts s).drop k).foldl (stepR fun _ => false) acc = ((bts s).drop (k + 1)).foldl (stepR fun _ => false) (putL acc (s[k]'h)) := by
  rw [drop_bts h, List.foldl_cons, stepR]
  rfl

set_option maxRecDepth 100000 in
set_option maxHeartbeats 4000000 in
theorem rReduce_any (s : ByteArray) (w : World) (hw : isWord (bts s) = true) (hs : s.size < 100000000) :
    Calls Try.prog 66 #[.string s] w fun e w' => e = .returned (.string (strB (redW (bts s)))) ∧ Below w.heap.size w w' := by
  generalize hF : redW (bts s) = F
  have HW := Lib.hid hw
  have HFF := Lib.hid hF
  clear hw hF
  go_enter Try.func66, Try.ntmps66
  go_wp2_with (refine wpList_makeB (base := w.heap.size) Try.info5 Try.underlying115 (Nat.le_refl _) rfl _ _ rfl s.size rfl rfl rfl (by omega) ?_; intro w1 hown1 hb1 hz1)
  have HO := Lib.hid hown1
  have HB := Lib.hid hb1
  clear hown1 hb1
  go_loopw [3, 4] (fun ov iv wr => ∃ (k : Nat) (bs : List UInt8), k ≤ s.size ∧ iv = .int .i64 k ∧ bs.length ≤ k ∧ Hid (OwnB wr w.heap.size ov bs) ∧ Below w.heap.size w wr ∧ Hid (F = ((bts s).drop k).foldl (stepR fun _ => false) bs)) (fun _ iv _ => s.size - (intOf iv).toNat)
  case atStart => exact ⟨0, [], by omega, rfl, by simp, HO, HB.out, (show Hid (_ = _) from HFF.out.symm)⟩
  case round =>
    clear HO HB
    obtain ⟨k, bs, hk, rfl, hbl, HO, hB, HA⟩ := hrel
    have hsz := hB.size
    by_cases hlt : k < s.size
    · have hlet := letter_at HW.out hlt
      have hot := fun W => other_any (s[k]'hlt) W hlet
      have hst := redW_at hlt bs
      have HOT := Lib.hid hot
      have HST := Lib.hid hst
      clear hot hst hlet
      rcases List.eq_nil_or_concat bs with rfl | ⟨l, x, rfl⟩
      · obtain ⟨a, cp, rfl, h1, h2⟩ := HO.out.shape (n := 0) rfl
        rw [putL_nil] at HST
        go_wp2_with fail
        go_quiet (fail)
        have hv2 : OwnB (wr.drewN nq) w.heap.size (.slice a 0 cp) [] := HO.out
        go_wp2_with (at_builtin; refine wpList_appB Try.info5 Try.underlying115 hv2 (by simpa using hsz) (by simp) rfl _ _ rfl (c := s[k]'hlt) rfl rfl ?_; intro v6 w6 hown6 hgrow6 hb6)
        go_roundw
        case rel => exact ⟨k + 1, [s[k]'hlt], by omega, by go_num, by simp, hown6, (hB.drewN' nq).trans hb6, by show _ = _; rw [HA.out, HST.out]⟩
        case measure => simp [intOf]; omega
      · rw [List.concat_eq_append] at *
        obtain ⟨m, hm⟩ : ∃ m, l.length = m := ⟨_, rfl⟩
        have hlen : (l ++ [x]).length = m + 1 := by simp [hm]
        rw [hlen] at hbl
        obtain ⟨g, cp, rfl, hg1, hg2, hcp, hcell⟩ := HO.out.at_ hlen (by omega)
        obtain ⟨_, _, hv3, _, hcp2⟩ := HO.out.shape hlen
        have hcp3 : cp ≤ 9223372036854775807 := by
          have e : (Value.slice (some ⟨g, 0, none⟩) (m + 1) cp) = _ := hv3
          simp at e
          omega
        clear hv3 hcp2
        have hc0 := hcell m x (by simp [← hm])
        have HM := Lib.hid hm
        clear hcell hm hlen
        by_cases hx : x = invB (s[k]'hlt)
        · rw [putL_pop hx] at HST
          have ht : ((x.toNat : Int) == ((invB (s[k]'hlt)).toNat : Int)) = true := by rw [hx]; simp
          clear hx
          go_wp2_with fail
          go_quiet ((go_at_call 77; exact Calls.quiet_of_same (HOT.out _)))
          go_wp2_with fail
          go_roundw
          case rel => exact ⟨k + 1, l, by omega, by go_num, by rw [HM.out]; omega, OwnB.pop (w := wr.drewN nq) (by exact HO.out) HM.out (by omega) (Nat.le_refl _), hB.drewN' nq, by show _ = _; rw [HA.out, HST.out]⟩
          case measure => simp [intOf]; omega
        · rw [putL_push hx] at HST
          have ht : ((x.toNat : Int) == ((invB (s[k]'hlt)).toNat : Int)) = false := by
            simp
            exact fun h => hx (UInt8.toNat_inj.1 (by omega))
          clear hx
          go_wp2_with fail
          go_quiet ((go_at_call 77; exact Calls.quiet_of_same (HOT.out _)))
          have hv2 : OwnB (wr.drewN nq) w.heap.size (.slice (some ⟨g, 0, none⟩) (m + 1) cp) (l ++ [x]) := HO.out
          have hlen : (l ++ [x]).length < 1000000000 := by simp [HM.out]; omega
          have HLEN := Lib.hid hlen
          clear hlen
          go_wp2_with (at_builtin; refine wpList_appB Try.info5 Try.underlying115 hv2 (by simpa using hsz) HLEN.out rfl _ _ rfl (c := s[k]'hlt) rfl rfl ?_; intro v6 w6 hown6 hgrow6 hb6)
          go_roundw
          case rel => exact ⟨k + 1, l ++ [x, s[k]'hlt], by omega, by go_num, by simp [HM.out]; omega, by simpa [Hid] using hown6, (hB.drewN' nq).trans hb6, by show _ = _; rw [HA.out, HST.out]⟩
          case measure => simp [intOf]; omega
    · obtain rfl : k = s.size := by omega
      have hF2 : F = bs := by rw [HA.out, List.drop_of_length_le (by rw [bts_len]; exact Nat.le_refl _)]; rfl
      have hcv := conv_own HO.out
      obtain ⟨oa, oc, rfl, _, _⟩ := HO.out.shape rfl
      subst hF2
      clear HA HFF
      go_wp2_with fail
      go_ret
      exact ⟨rfl, hB⟩
end Go.Proofs.Ytlooclpfoeakgaa

/- A region that draws its order, reads first and writes last, inside a fence that allows all: walked once, in the order of the text. -/
namespace Go.Proofs.Ytlooclpfoeakgaa
open Go

/-- an operation that calls nothing and defers nothing -/
def calmOp : Op → Bool
  | .load .. | .move _ | .assign _ | .indexAddr .. | .store .. | .binOp .. | .unOp .. | .nilCheck _ | .pick .. => true
  | _ => false

theorem v_run {P : Program} {w w' : World} {s : Sem Value} {d : Next} (h : (do pure (Next.value (← s)) : Sem Next).run P w = .ok d w') : ∃ x, d = .value x := by
  rw [Sem.run_bind] at h
  cases hs : s.run P w with
  | ok x w1 => rw [hs] at h; simp [Result.andThen] at h; exact ⟨x, h.1.symm⟩
  | halt a b => rw [hs] at h; simp [Result.andThen] at h
theorem then_ok {α β : Type} {r : Result α} {f : α → World → Result β} {d : β} {w' : World} (h : r.andThen f = .ok d w') : ∃ a w1, r = .ok a w1 ∧ f a w1 = .ok d w' := by
  cases r with
  | ok a w1 => exact ⟨a, w1, rfl, h⟩
  | halt a b => simp [Result.andThen] at h
theorem u_run {P : Program} {w w' : World} {s : Sem Unit} {d : Next} (h : (do s; pure Next.skip : Sem Next).run P w = .ok d w') : d = .skip := by
  rw [Sem.run_bind] at h
  cases hs : s.run P w with
  | ok x w1 => rw [hs] at h; simp [Result.andThen] at h; exact h.1.symm
  | halt a b => rw [hs] at h; simp [Result.andThen] at h
theorem p_run {P : Program} {w w' : World} {x : Value} {d : Next} (h : (pure (Next.value x) : Sem Next).run P w = .ok d w') : ∃ x, d = .value x := by
  simp at h; exact ⟨x, h.1.symm⟩

theorem pick_run {P : Program} {w w' : World} {m : Sem Bool} {x y : Value} {d : Next} (h : (do pure (Next.value (if ← m then x else y)) : Sem Next).run P w = .ok d w') : ∃ x, d = .value x := by
  rw [Sem.run_bind] at h
  obtain ⟨a, w1, _, h⟩ := then_ok h
  exact p_run h

theorem calm_run {o : Oper} (h : calmOp o.op = true) {P : Program} {ρ : Operand → Value} {w w' : World} {d : Next} (hr : (execOp ρ o).run P w = .ok d w') : (∃ x, d = .value x) ∨ d = .skip := by
  unfold execOp at hr
  cases ho : o.op
  all_goals first | (rw [ho] at h; exact absurd h Bool.false_ne_true) | skip
  all_goals simp only [ho] at hr
  all_goals first
    | exact .inl (v_run hr)
    | exact .inr (u_run hr)
    | exact .inl (p_run hr)
    | exact .inl (pick_run hr)
    | skip
  all_goals
    split at hr
    · simp [runtimePanic] at hr
    · simp [runtimePanic] at hr
    · simp [runtimePanic] at hr
    · split at hr
      · simp [runtimePanic] at hr
      · simp only [Sem.run_bind] at hr
        obtain ⟨a1, w1, _, hr⟩ := then_ok hr
        obtain ⟨a2, w2, _, hr⟩ := then_ok hr
        split at hr
        · rw [Sem.run_bind] at hr
          obtain ⟨a3, w3, h3, _⟩ := then_ok hr
          simp [unsupported] at h3
        · exact .inl (p_run hr)
      · exact .inl (p_run hr)
    · exact .inl (p_run hr)

theorem calm_plain {op : Op} (h : calmOp op = true) : (∀ c, op ≠ .defer c) ∧ (∀ c, op ≠ .call c) := by
  constructor <;> (intro c e; subst e; cases h)

theorem uponIn_of {F : Fence} {n : Nat} {P : Program} {o : Oper} {a : Act} {K : Act → World → Prop} {Q : Exit → Act → World → Prop} {r : Result Next} (hr : ∀ d w', r = .ok d w' → (∃ x, d = .value x) ∨ d = .skip)
    (h : o.upon P a K Q r) : o.uponIn F n P a K Q r := by
  cases r with
  | ok d w' =>
    rcases hr d w' rfl with ⟨x, rfl⟩ | rfl
    · exact h
    · exact h
  | halt hl w' =>
    cases hl <;> first | exact h | exact (h : False).elim

theorem wpIn_of_calm {F : Fence} {n : Nat} (hF : ∀ f, F.fn f) {P : Program} {o : Oper} (hc : calmOp o.op = true) {a : Act} {w : World} {K : Act → World → Prop} {Q : Exit → Act → World → Prop} (h : o.wp P a w K Q) : o.wpIn F n P a w K Q := by
  refine ⟨fun f _ => hF f, ?_⟩
  rw [Oper.semAt_eq _ _ _ (calm_plain hc).1]
  exact uponIn_of (fun d w' e => calm_run hc e) h

theorem anyIn_of_any {F : Fence} {n : Nat} (hF : ∀ f, F.fn f) {P : Program} {md : Region.Mode} {ops : Array Oper} (hc : ∀ (i : Nat) (o : Oper), ops[i]? = some o → calmOp o.op = true) {Q : Exit → Act → World → Prop} (hQ : ¬ LetsOut Q) :
    ∀ (fuel : Nat) (listed : Array Bool) (a : Act) (w : World), wpAny P md ops Q fuel listed a w → wpAnyIn F n P md ops Q fuel listed a w := by
  intro fuel
  induction fuel with
  | zero => intro listed a w h; exact h
  | succ fuel ih =>
    intro listed a w h
    refine ⟨h.1, fun i hi => ?_⟩
    have h1 := h.2 i hi
    unfold wpOp at h1
    unfold wpOpIn
    cases ho : ops[i]? with
    | none => rw [ho] at h1; exact ih _ _ _ h1
    | some o =>
      rw [ho] at h1
      simp only at h1 ⊢
      split
      · rename_i hw
        rw [if_pos hw] at h1
        rcases h1 with h1 | ⟨_, h1⟩
        · exact wpIn_of_calm hF (hc i o ho) (Oper.wp_mono (fun a w h => ih _ a w h) h1)
        · exact absurd h1 hQ
      · rename_i hw
        rw [if_neg hw] at h1
        exact ⟨fun f _ => hF f, ih _ _ _ h1⟩

/-- the exits without the one that the machine's room decides -/
def inRoom (Q : Exit → Act → World → Prop) : Exit → Act → World → Prop := fun e a w => e ≠ .outgrown ∧ Q e a w
theorem inRoom_lets (Q : Exit → Act → World → Prop) : ¬ LetsOut (inRoom Q) := fun ⟨_, _, h, _⟩ => h rfl

/-- A region that draws: its first n operations read, the rest, in one forced order, may write; none calls. -/
theorem wpIn_tail {F : Fence} {m : Nat} (hF : ∀ f, F.fn f) {P : Program} {id : Nat} {Q : Exit → Act → World → Prop} {a : Act} {w : World} {l : List Oper} (n : Nat) (hm : P.follows .mixedOrders = true) (hB : Region.lexTailB .any l.toArray n = true)
    (hc : l.all (fun o => calmOp o.op) = true) (h : wpStill P l.toArray w.drew (fun a' => wpList P l.toArray (inRoom Q) (l.drop n) a' w.drew) (l.take n) a) : (Code.region id l.toArray true).wpIn F m P Q a w := by
  unfold Region.lexTailB at hB
  rw [Bool.and_eq_true, Bool.and_eq_true, Bool.and_eq_true, Bool.and_eq_true] at hB
  have hsz : l.toArray.size = l.length := by simp
  have hlt : n < l.length := by have := of_decide_eq_true hB.1.1.1.2; omega
  have hT : (l.take n).length = n := by rw [List.length_take]; omega
  have hD : (l.drop n).length = l.toArray.size - n := by rw [List.length_drop, hsz]
  have start : HeadInv .any l.toArray n (Array.replicate l.toArray.size false) :=
    ⟨by simp, fun j oj _ hl => (by rw [getD_replicate_false] at hl; cases hl), fun t _ ht => getD_in (by simpa using ht) (getD_replicate_false _ _)⟩
  have one := wpAnyL_lex (md := .any) (w := w.drew) (g := l.toArray.size - n) hB.1.1.1.1 hB.1.1.2 hB.1.2 (by omega) (l.take n) 0 _ a
    (fun j hj => by rw [Nat.zero_add, List.getElem?_take_of_lt (by omega)]; simp) (by omega) start (by rw [hT]; exact hB.2) h
  refine wpIn_mono (Q := inRoom Q) (wpIn_region_any hm ?_) (fun e a w h => h.2)
  refine anyIn_of_any hF (fun i o ho => ?_) (inRoom_lets Q) _ _ _ _ ?_
  · rw [List.all_eq_true] at hc
    exact hc o (List.mem_of_getElem? (by simpa using ho))
  · have two := wpAny_of_head (Q' := inRoom Q) (g := l.toArray.size - n) (fun listed a' hL => by
      have three := wpAny_of_seq (md := .any) (Q' := inRoom Q) (l.drop n) n listed a' w.drew (fun j => by simp [List.getElem?_drop]) (by rw [hD]; exact hL.1) hL.2
      rw [hD] at three
      exact three) _ _ _ one
    rw [hT, show n + (l.toArray.size - n) = l.toArray.size by omega] at two
    exact two
end Go.Proofs.Ytlooclpfoeakgaa
namespace Go.Proofs.Ytlooclpfoeakgaa
open Go

/-- What reads quietly in all worlds ahead by draws reads in the next one. -/
theorem still_of_quiet {P : Program} {ops : Array Oper} {w : World} {Q : Act → Prop} : ∀ (l : List Oper) (a : Act), (∀ o ∈ l, calmOp o.op = true) →
    wpQuiet P ops (fun w' => ∃ n, w' = w.drewN n) Q l a → wpStill P ops w.drew Q l a := by
  intro l
  induction l with
  | nil => intro a _ h; exact h
  | cons o l ih =>
    intro a hc h
    have hl : ∀ o ∈ l, calmOp o.op = true := fun o ho => hc o (List.mem_cons_of_mem _ ho)
    unfold wpQuiet at h
    unfold wpStill
    split
    · rename_i hw
      rw [if_pos hw] at h
      obtain ⟨v, h1, h2⟩ := h
      have h3 := h1 w.drew ⟨1, rfl⟩
      unfold Oper.quietAt at h3
      unfold Oper.still
      cases hr : (execOp a.eval o).run P w.drew with
      | ok d w' =>
        rw [hr] at h3
        rcases calm_run (hc o (by simp)) hr with ⟨x, rfl⟩ | rfl
        · obtain ⟨h4, h5⟩ := h3
          subst h4
          subst h5
          exact ⟨rfl, ih _ hl h2⟩
        · obtain ⟨h4, h5⟩ := h3
          subst h4
          subst h5
          exact ⟨rfl, ih _ hl h2⟩
      | halt b c => rw [hr] at h3; cases b <;> exact h3.elim
    · rename_i hw
      rw [if_neg hw] at h
      exact ih _ hl h

/-- A region that draws: its first n operations, which call nothing, read; the rest, in one forced order, may write. -/
theorem wp_tailQ {P : Program} {id : Nat} {Q : Exit → Act → World → Prop} {a : Act} {w : World} {l : List Oper} (n : Nat) (hm : P.follows .mixedOrders = true) (hB : Region.lexTailB .any l.toArray n = true)
    (hc : (l.take n).all (fun o => calmOp o.op) = true) (h : wpQuiet P l.toArray (fun w' => ∃ n, w' = w.drewN n) (fun a' => wpList P l.toArray Q (l.drop n) a' w.drew) (l.take n) a) : (Code.region id l.toArray true).wp P Q a w :=
  wp_region_still_tail n hm hB (still_of_quiet _ _ (fun o ho => (List.all_eq_true.1 hc) o ho) h)
end Go.Proofs.Ytlooclpfoeakgaa

/- Inverses: the program's turned: the walks. -/
namespace Go.Proofs.Ytlooclpfoeakgaa
open Go.RowKit Go.BigFrame

/-- block g holds the bytes cs, which may be written -/
def RowB (w : World) (g : Nat) (cs : List UInt8) : Prop :=
  ∃ (cur : Array Value) (fr : Nat × Nat), w.heap[g]? = some (.cells cur 5 fr) ∧ cs.length ≤ fr.1 ∧ cs.length ≤ cur.size ∧ cur.toList.take cs.length = B8s cs
theorem RowB.lt {w : World} {g : Nat} {cs : List UInt8} (h : RowB w g cs) : g < w.heap.size := by
  obtain ⟨cur, fr, hg, _⟩ := h
  exact (Array.getElem?_eq_some_iff.1 hg).1
theorem RowB.cell {w : World} {g : Nat} {cs : List UInt8} (h : RowB w g cs) {j : Nat} {c : UInt8} (hj : cs[j]? = some c) : w.cell? ⟨g, j, none⟩ = some (.int .u8 (c.toNat : Int)) := by
  obtain ⟨cur, fr, hg, h1, h2, h3⟩ := h
  rw [cell_of_row w g j cur 5 fr hg]
  have h4 : (B8s cs)[j]? = some (.int .u8 (c.toNat : Int)) := by simp [B8s, hj]
  rw [← h3, List.getElem?_take] at h4
  split at h4
  · simpa using h4
  · cases h4
theorem RowB.free {w : World} {g : Nat} {cs : List UInt8} (h : RowB w g cs) {j : Nat} (hj : j < cs.length) : w.frozen? ⟨g, j, none⟩ = false := by
  obtain ⟨cur, fr, hg, h1, h2, h3⟩ := h
  simp [World.frozen?, hg]
  omega
theorem RowB.set {w : World} {g : Nat} {cs : List UInt8} (h : RowB w g cs) (j : Nat) (c : UInt8) : RowB (w.setCell ⟨g, j, none⟩ (.int .u8 (c.toNat : Int))) g (cs.set j c) := by
  obtain ⟨cur, fr, hg, h1, h2, h3⟩ := h
  refine ⟨_, fr, Lib.heap_setCell_same hg _, by simpa using h1, by simpa using h2, ?_⟩
  rw [Array.toList_setIfInBounds, List.length_set, List.take_set, h3]
  simp [B8s, List.map_set]
theorem RowB.drewN {w : World} {g : Nat} {cs : List UInt8} (h : RowB w g cs) (n : Nat) : RowB (w.drewN n) g cs := h
theorem RowB.keep {w w' : World} {g : Nat} {cs : List UInt8} (h : RowB w g cs) (hb : Below w.heap.size w w') : RowB w' g cs := by
  have hl := h.lt
  obtain ⟨cur, fr, hg, rest⟩ := h
  exact ⟨cur, fr, (hb.block g hl).trans hg, rest⟩
theorem conv_bytes (w : World) (s : ByteArray) : ∃ cap W, (convert 9 115 (.string s)).run Try.prog w = .ok (.slice (some ⟨w.heap.size, 0, none⟩) s.size cap) W ∧ s.size ≤ cap ∧ RowB W w.heap.size (bts s) ∧ Below w.heap.size w W ∧ W.heap.size = w.heap.size + 1 := by
  refine ⟨_, _, Lib.run_convert_string_bytes w 9 115 5 s Try.underlying9 Try.underlying115 Try.underlying5, grownCap_ge w s.size 0 5, ⟨_, _, Lib.bytesWorld_at_new w 5 s, ?_, ?_, ?_⟩, ?_, Lib.bytesWorld_size w 5 s⟩
  · simp [Lib.bytesCells]
  · simp [Lib.bytesCells]
  · simp [Lib.bytesCells, B8s]
  · exact ⟨rfl, rfl, rfl, by rw [Lib.bytesWorld_size]; omega, fun k hk => Lib.bytesWorld_at_old w 5 s k hk⟩
theorem conv_row {w : World} {g n cap : Nat} {cs : List UInt8} (h : RowB w g cs) (hn : cs.length = n) : (convert 115 9 (.slice (some ⟨g, 0, none⟩) n cap)).run Try.prog w = .ok (.string (strB cs)) w := by
  have hbt : Lib.Bytes w g 0 (strB cs) := by
    intro i hi
    have hi2 : i < cs.length := hi
    have := h.cell (j := i) (c := cs[i]'hi2) (List.getElem?_eq_getElem hi2)
    rw [Nat.zero_add, this]
    simp [ByteArray.getElem_eq_getElem_data]
  subst hn
  exact Lib.run_convert_whole w 115 5 9 Try.underlying115 Try.underlying5 Try.underlying9 g 0 (strB cs) hbt cap

/-- the first i, and the last i, exchanged -/
def revTo (cs : List UInt8) : Nat → List UInt8
  | 0 => cs
  | i + 1 => ((revTo cs i).set i ((revTo cs i)[cs.length - 1 - i]?.getD 0)).set (cs.length - 1 - i) ((revTo cs i)[i]?.getD 0)
theorem revTo_len (cs : List UInt8) : ∀ i, (revTo cs i).length = cs.length
  | 0 => rfl
  | i + 1 => by rw [revTo, List.length_set, List.length_set, revTo_len cs i]
theorem revTo_get (cs : List UInt8) : ∀ i, 2 * i ≤ cs.length + 1 → ∀ j, j < cs.length → (revTo cs i)[j]? = if j < i ∨ cs.length - 1 - i < j then cs[cs.length - 1 - j]? else cs[j]?
  | 0, _, j, hj => by rw [revTo, if_neg (by omega)]
  | i + 1, hi, j, hj => by
    have ih := revTo_get cs i (by omega)
    have hl := revTo_len cs i
    have e1 := ih i (by omega)
    rw [if_neg (by omega)] at e1
    have e2 := ih (cs.length - 1 - i) (by omega)
    rw [if_neg (by omega)] at e2
    rw [revTo, List.getElem?_set, List.length_set, hl, e1, e2]
    by_cases h1 : cs.length - 1 - i = j
    · rw [if_pos h1, if_pos (by omega), if_pos (by omega)]
      have : cs.length - 1 - j = i := by omega
      rw [this, List.getElem?_eq_getElem (by omega)]
      rfl
    · rw [if_neg h1, List.getElem?_set, hl]
      by_cases h2 : i = j
      · rw [if_pos h2, if_pos (by omega), if_pos (by omega)]
        subst h2
        rw [List.getElem?_eq_getElem (by omega)]
        rfl
      · rw [if_neg h2, ih j hj]
        by_cases h3 : j < i ∨ cs.length - 1 - i < j
        · rw [if_pos h3, if_pos (by omega)]
        · rw [if_neg h3, if_neg (by omega)]
theorem revTo_end {cs : List UInt8} {i : Nat} (h1 : cs.length ≤ 2 * i + 1) (h2 : 2 * i ≤ cs.length + 1) : revTo cs i = cs.reverse := by
  apply List.ext_getElem?
  intro j
  by_cases hj : j < cs.length
  · rw [revTo_get cs i h2 j hj, List.getElem?_reverse hj]
    split
    · rfl
    · congr 1; omega
  · rw [List.getElem?_eq_none (by rw [revTo_len]; omega), List.getElem?_eq_none (by rw [List.length_reverse]; omega)]

set_option maxRecDepth 100000 in
set_option maxHeartbeats 4000000 in
theorem reverse_any (g cap n : Nat) (cs : List UInt8) (w : World) (hr : RowB w g cs) (hn : cs.length = n) (h2 : n ≤ 9223372036854775807) (B : Nat) (hB : B ≤ g) :
    Calls Try.prog 147 #[.slice (some ⟨g, 0, none⟩) n cap] w fun e w' => e = .returned (.tuple #[]) ∧ RowB w' g cs.reverse ∧ Below B w w' := by
  have HR := Lib.hid hr
  have HN := Lib.hid hn
  clear hr hn
  go_enter Try.func147, Try.ntmps147
  go_wp2_with fail
  go_loopw [2, 3] (fun iv jv wr => ∃ i : Nat, 2 * i ≤ n + 1 ∧ iv = .int .i64 i ∧ jv = .int .i64 ((n : Int) - 1 - i) ∧ Hid (RowB wr g (revTo cs i)) ∧ Below B w wr) (fun iv _ _ => n - (intOf iv).toNat)
  case atStart => exact ⟨0, by omega, rfl, by go_num, HR, Below.refl _ _⟩
  case round =>
    clear HR
    obtain ⟨i, hi, rfl, rfl, HR, hBB⟩ := hrel
    by_cases hlt : (i : Int) < (n : Int) - 1 - i
    · have hl := revTo_len cs i
      rw [HN.out] at hl
      obtain ⟨k, hk⟩ : ∃ k : Nat, k = n - 1 - i := ⟨_, rfl⟩
      have hki : (n : Int) - 1 - i = k := by omega
      rw [hki] at hlt ⊢
      obtain ⟨x, hx⟩ : ∃ x, (revTo cs i)[i]? = some x := ⟨_, List.getElem?_eq_getElem (by omega)⟩
      obtain ⟨y, hy⟩ : ∃ y, (revTo cs i)[k]? = some y := ⟨_, List.getElem?_eq_getElem (by omega)⟩
      have cx := HR.out.cell hx
      have cy := HR.out.cell hy
      have fx := HR.out.free (j := i) (by omega)
      have fy := HR.out.free (j := k) (by omega)
      have hst : revTo cs (i + 1) = ((revTo cs i).set i y).set k x := by rw [revTo, HN.out, ← hk, hx, hy]; rfl
      have hgl := HR.out.lt
      have HST := Lib.hid hst
      have HKI := Lib.hid hki
      have HK := Lib.hid hk
      have hkn : k < n := by omega
      have hkn2 : (k : Int) < n := by omega
      clear hst hx hy hl hki hk
      go_upto_region 3 with fail
      go_region
      have HN1 : Hid ((n : Int) - 1 - ((i + 1 : Nat) : Int) = (k : Int) - 1) := by show _ = _; have := HKI.out; omega
      have HI1 : Hid (2 * (i + 1) ≤ n + 1) := by show _ ≤ _; have := HKI.out; omega
      go_wp2_with fail
      go_roundw
      case rel => exact ⟨i + 1, HI1.out, by go_num, by rw [HN1.out], by show Hid _; rw [HST.out]; exact ((HR.out.drewN 1).set i y).set k x, ((hBB.setCell (p := ⟨g, i, none⟩) hB _).setCell (p := ⟨g, k, none⟩) hB _).drewN' 1⟩
      case measure => simp [intOf]; omega
    · have he : revTo cs i = cs.reverse := revTo_end (by rw [HN.out]; omega) (by rw [HN.out]; exact hi)
      rw [he] at HR
      clear he
      go_wp2_with fail
      go_end0
      exact ⟨rfl, HR.out, hBB⟩

end Go.Proofs.Ytlooclpfoeakgaa

/- Inverses: the program's turned: the walk. -/
namespace Go.Proofs.Ytlooclpfoeakgaa
open Go.RowKit

theorem set_step {l : List UInt8} {k : Nat} {x : UInt8} (f : UInt8 → UInt8) (h : l[k]? = some x) : ((l.take k).map f ++ l.drop k).set k (f x) = (l.take (k + 1)).map f ++ l.drop (k + 1) := by
  obtain ⟨hk, rfl⟩ := List.getElem?_eq_some_iff.1 h
  rw [List.drop_eq_getElem_cons hk, List.set_append_right _ _ (by simp; omega)]
  have e : k - ((l.take k).map f).length = 0 := by simp; omega
  rw [e, List.set_cons_zero, List.take_add_one, h, List.map_append]
  simp
theorem get_step {l : List UInt8} {k : Nat} {x : UInt8} (f : UInt8 → UInt8) (h : l[k]? = some x) : ((l.take k).map f ++ l.drop k)[k]? = some x := by
  obtain ⟨hk, rfl⟩ := List.getElem?_eq_some_iff.1 h
  rw [List.getElem?_append_right (by simp; omega)]
  have e : k - ((l.take k).map f).length = 0 := by simp; omega
  rw [e, List.drop_eq_getElem_cons hk]
  rfl

set_option maxRecDepth 100000 in
set_option maxHeartbeats 1000000 in
theorem turned_any (s : ByteArray) (w : World) (hs : s.size ≤ 1000000000) :
    Calls Try.prog 131 #[.string s] w fun e w' => e = .returned (.string (strB (invL (bts s)))) ∧ Below w.heap.size w w' := by
  obtain ⟨cap, W, hcv, hcap, hrow, hBW, hsz⟩ := conv_bytes w s
  have hlr : (bts s).reverse.length = s.size := by simp
  have hrv := reverse_any w.heap.size cap s.size (bts s) W hrow (bts_len s) (by omega) w.heap.size (Nat.le_refl _)
  have hinv : ((bts s).reverse.take s.size).map invB ++ (bts s).reverse.drop s.size = invL (bts s) := by
    rw [List.take_of_length_le (by omega), List.drop_of_length_le (by omega), List.append_nil, invL, List.map_reverse]
  generalize (bts s).reverse = l at *
  have HRV := Lib.hid hrv
  have HINV := Lib.hid hinv
  have HLR := Lib.hid hlr
  have HBW := Lib.hid hBW
  have HROW := Lib.hid hrow
  clear hrv hinv hlr hBW hrow
  go_enter Try.func131, Try.ntmps131
  go_wp2_with (go_at_call 147; refine HRV.out.mono ?_; rintro e w2 ⟨rfl, hr2, hb2⟩)
  have hB2 := HBW.out.trans hb2
  go_loopw [12] (fun iv wr => ∃ k : Nat, k ≤ s.size ∧ iv = .int .i64 k ∧ Hid (RowB wr w.heap.size ((l.take k).map invB ++ l.drop k)) ∧ Below w.heap.size w wr) (fun iv _ => s.size - (intOf iv).toNat)
  case atStart => exact ⟨0, by omega, rfl, by show Hid _; simpa [Hid] using hr2, hB2⟩
  case round =>
    clear hr2 hb2 hB2
    obtain ⟨k, hk, rfl, HR, hB⟩ := hrel
    by_cases hlt : k < s.size
    · obtain ⟨x, hx⟩ : ∃ x, l[k]? = some x := ⟨_, List.getElem?_eq_getElem (by have := HLR.out; omega)⟩
      have hst := set_step invB hx
      have cx := HR.out.cell (get_step invB hx)
      have fx := HR.out.free (j := k) (by have := HLR.out; simp; omega)
      have hset := HR.out.set k (invB x)
      rw [hst] at hset
      have hiv := fun W => inverse_any x W
      have HSET := Lib.hid hset
      have HIV := Lib.hid hiv
      have hgl := HR.out.lt
      clear hst hset hiv hx
      go_wp2_with (go_at_call 148; refine (HIV.out _).mono ?_; rintro e w3 ⟨rfl, rfl⟩)
      go_roundw
      case rel => exact ⟨k + 1, by omega, by go_num, HSET, hB.setCell (p := ⟨w.heap.size, k, none⟩) (Nat.le_refl _) _⟩
      case measure => simp [intOf]; omega
    · obtain rfl : k = s.size := by omega
      rw [HINV.out] at HR
      have hcv2 := conv_row (n := s.size) (cap := cap) HR.out (by rw [invL_len, bts_len])
      clear hcv
      go_wp2_with fail
      go_ret
      exact ⟨rfl, hB⟩
end Go.Proofs.Ytlooclpfoeakgaa

/- Inverse, Contains, the law's same, and the reference's Falls: the walks. -/
namespace Go.Proofs.Ytlooclpfoeakgaa
open Go.RowKit

/-- what Inverse answers -/
theorem Inverse_any (s : ByteArray) (w : World) (hs : s.size ≤ 9223372036854775807) :
    Calls Try.prog 118 #[.string s] w fun e w' => e = .returned (.tuple #[.string (if wordErr s = 0 then strB (invL (bts s)) else ⟨#[]⟩), .int .i64 (wordErr s)]) ∧ Below w.heap.size w w' := by
  have hck := check_any s w hs
  rcases err_cases s with h0 | h0
  · obtain ⟨h1, h2⟩ := word_size h0
    have hpr := fun W => turned_any s W (by omega)
    rw [h0] at hck ⊢
    rw [if_pos rfl]
    generalize invL (bts s) = R at *
    have HCK := Lib.hid hck
    have HPR := Lib.hid hpr
    clear hck hpr h0 h1 h2
    go_enter Try.func118, Try.ntmps118
    go_wp2_with (first
      | (go_at_call 131; refine (HPR.out _).mono ?_; rintro e w2 ⟨rfl, hb2⟩)
      | (go_at_call 59; refine HCK.out.mono ?_; rintro e w1 ⟨rfl, hb1⟩))
    go_ret2
    exact ⟨rfl, hb1.trans (hb2.mono hb1.size)⟩
  · have hne : wordErr s ≠ 0 := by omega
    have t0 : (wordErr s != 0) = true := by simpa using hne
    rw [if_neg hne]
    generalize wordErr s = E at *
    have HCK := Lib.hid hck
    clear hck hne h0
    go_enter Try.func118, Try.ntmps118
    go_wp2_with (go_at_call 59; refine HCK.out.mono ?_; rintro e w1 ⟨rfl, hb1⟩)
    go_ret2
    exact ⟨rfl, hb1⟩

end Go.Proofs.Ytlooclpfoeakgaa

/- Places of letters, and a vertex without edges: the walks. -/
namespace Go.Proofs.Ytlooclpfoeakgaa
open Go.RowKit

theorem place_val : ∀ c : UInt8, letter c.toNat = true → ((97 : Int) ≤ (c.toNat : Int) → 2 * ((c.toNat : Int) - 97) = (placeB c : Int)) ∧ (¬ (97 : Int) ≤ (c.toNat : Int) → 2 * ((c.toNat : Int) - 65) + 1 = (placeB c : Int) ∧ (65 : Int) ≤ (c.toNat : Int)) := for_bytes (by decide +kernel)
set_option maxHeartbeats 1000000 in
theorem place_any (c : UInt8) (w : World) (hc : letter c.toNat = true) : Calls Try.prog 76 #[.int .u8 c.toNat] w fun e w' => e = .returned (.int .i64 (placeB c)) ∧ w' = w := by
  obtain ⟨h1, h2⟩ := place_val c hc
  have hlt := (let_place c hc).2
  have hu := c.toNat_lt
  by_cases h : (97 : Int) ≤ (c.toNat : Int)
  · have h3 := h1 h
    clear h1 h2
    go_enter Try.func76, Try.ntmps76
    go_wp2_with fail
    go_ret
    exact ⟨rfl, rfl⟩
  · obtain ⟨h3, h4⟩ := h2 h
    clear h1 h2
    go_enter Try.func76, Try.ntmps76
    go_wp2_with fail
    go_ret
    exact ⟨rfl, rfl⟩

theorem Try.size152 : (Try.prog.info? 152).map (·.size) = some 8 := by kernel_rfl
def bareL : List Value := List.replicate 8 (.int .i64 (-1))
theorem ret101 {w : World} {tmps : Array Value} {g : Nat} {M : List Value} (hM : M.length = 8) (hp : tmps.getD 0 undef = .pointer (some ⟨g, 0, none⟩)) (hb : Blk w g 152 M) : (results Try.f101 tmps).run Try.prog w = .ok (.agg M.toArray) w :=
  results_cell_row rfl tmps w g 152 _ (0, 0) _ hp hb Try.underlying152 rfl (by rw [Try.size152]; simp [hM])
def bareK (k : Nat) : List Value := List.replicate k (.int .i64 (-1)) ++ List.replicate (8 - k) (.int .i64 0)
theorem bareK_set {k : Nat} (h : k < 8) : (bareK k).set k (.int .i64 (-1)) = bareK (k + 1) := by
  obtain rfl | rfl | rfl | rfl | rfl | rfl | rfl | rfl : k = 0 ∨ k = 1 ∨ k = 2 ∨ k = 3 ∨ k = 4 ∨ k = 5 ∨ k = 6 ∨ k = 7 := by omega
  all_goals rfl
set_option maxRecDepth 100000 in
set_option maxHeartbeats 1000000 in
theorem bare_any (w : World) : Calls Try.prog 101 #[] w fun e w' => e = .returned (.agg bareL.toArray) ∧ Below w.heap.size w w' := by
  have hb1 := Blk.alloc (Blk.new w 152 (bareK 0)) (.cells (bareK 0).toArray 152)
  have hb2 := Blk.new (w.alloc (.cells (bareK 0).toArray 152)) 152 (bareK 0)
  rw [show (w.alloc (.cells (bareK 0).toArray 152)).heap.size = w.heap.size + 1 by simp] at hb2
  have hB : Below w.heap.size w ((w.alloc (.cells (bareK 0).toArray 152)).alloc (.cells (bareK 0).toArray 152)) := ((Below.refl _ _).alloc (Nat.le_refl _) _).alloc (by simp) _
  have H1 := Lib.hid hb1
  have H2 := Lib.hid hb2
  have HB := Lib.hid hB
  clear hb1 hb2 hB
  go_enter Try.func101, Try.ntmps101
  go_wp2_with fail
  go_loopw [3] (fun iv wr => ∃ k : Nat, k ≤ 8 ∧ iv = .int .i64 k ∧ Hid (Blk wr (w.heap.size + 1) 152 (bareK k)) ∧ Hid (Blk wr w.heap.size 152 (bareK 0)) ∧ Hid (Below w.heap.size w wr)) (fun iv _ => 8 - (intOf iv).toNat)
  case atStart => exact ⟨0, by omega, rfl, H2, H1, HB⟩
  case round =>
    clear H1 H2 HB
    obtain ⟨k, hk, rfl, H2, H1, HB⟩ := hrel
    by_cases hlt : k < 8
    · have fx := H2.out.free k
      have hthere : ∃ v, wr.cell? ⟨w.heap.size + 1, k, none⟩ = some v := by
        have : k < (bareK k).length := by simp [bareK]; omega
        exact ⟨_, H2.out.cell (List.getElem?_eq_getElem this)⟩
      obtain ⟨v0, hc⟩ := hthere
      have hset := (H2.out.set k (.int .i64 (-1)))
      rw [bareK_set hlt] at hset
      have hset1 := H1.out.other (a := ⟨w.heap.size + 1, k, none⟩) (by simp) (.int .i64 (-1))
      have hB := HB.out.setCell (p := ⟨w.heap.size + 1, k, none⟩) (by simp) (.int .i64 (-1))
      have G1 := Lib.hid hset
      have G2 := Lib.hid hset1
      have G3 := Lib.hid hB
      clear hset hset1 hB H1 H2 HB
      go_wp2_with fail
      go_roundw
      case rel => exact ⟨k + 1, by omega, by go_num, G1, G2, G3⟩
      case measure => simp [intOf]; omega
    · obtain rfl : k = 8 := by omega
      obtain ⟨M, hMe⟩ : ∃ M, M = bareL := ⟨_, rfl⟩
      have e : bareK 8 = M := by rw [hMe]; rfl
      rw [e] at H2
      have hE : Ending.returned (.agg M.toArray) = Ending.returned (.agg bareL.toArray) := by rw [hMe]
      have hM : M.length = 8 := by rw [hMe]; rfl
      have hM1 : ∀ v ∈ M, v.oneCell' = true := by rw [hMe]; decide
      have h0 : (bareK 0).length = 8 := rfl
      generalize bareK 0 = Z at *
      have HM := Lib.hid hM
      have HM1 := Lib.hid hM1
      have HE := Lib.hid hE
      have HL := Lib.hid (show Z.length = M.length by rw [h0, hM])
      clear hM hM1 hE h0 e hMe
      go_wp2_with (first
        | (with_reducible show wpList _ _ _ (Oper.mk _ (Op.load 152 _) _ _ _ _ :: _) _ _; (refine wpList_loadB H2.out Try.size152 HM.out Try.underlying152 rfl rfl _ rfl rfl ?_))
        | (with_reducible show wpList _ _ _ (Oper.mk _ (Op.store 152 _ _) _ _ _ _ :: _) _ _; (refine wpList_storeB (vs := M) H1.out Try.size152 HM.out HL.out HM1.out rfl _ _ rfl rfl rfl ?_)))
      have hbk2 := H1.out.setAll (vs := M) HL.out
      have hB2 : Below w.heap.size w (wr.setCells w.heap.size 0 M) := below_setCells (Nat.le_refl _) _ 0 HB.out
      exact bodyPost_ret (ret101 HM.out rfl hbk2) rfl ⟨HE.out, hB2⟩
end Go.Proofs.Ytlooclpfoeakgaa

/- A folder in memory, and by which vertex another one is known: the walk. -/
namespace Go.Proofs.Ytlooclpfoeakgaa
open Go.RowKit

def optI : Option Nat → Int
  | none => -1
  | some t => t
def rowI (f : Nat → Option Nat) : List Int := (List.range 8).map fun p => optI (f p)
def hasL (n : Nat) (h : Nat → Nat → Option Nat) : List Int := ((List.range n).map fun v => rowI (h v)).flatten
def upL (n : Nat) (up : Nat → Nat) : List Int := (List.range n).map fun i => (up i : Int)
def todoL (l : List (Nat × Nat)) : List Int := (l.map fun x => [(x.1 : Int), (x.2 : Int)]).flatten
theorem rowI_len (f : Nat → Option Nat) : (rowI f).length = 8 := by simp [rowI]
theorem hasL_succ (n : Nat) (h : Nat → Nat → Option Nat) : hasL (n + 1) h = hasL n h ++ rowI (h n) := by unfold hasL; rw [List.range_succ]; simp
theorem hasL_len (n : Nat) (h : Nat → Nat → Option Nat) : (hasL n h).length = n * 8 := by
  induction n with
  | zero => rfl
  | succ n ih => rw [hasL_succ, List.length_append, ih, rowI_len]; omega
theorem hasL_get {n : Nat} {h : Nat → Nat → Option Nat} : ∀ {v p : Nat}, v < n → p < 8 → (hasL n h)[v * 8 + p]? = some (optI (h v p)) := by
  induction n with
  | zero => intro v p hv; omega
  | succ n ih =>
    intro v p hv hp
    rw [hasL_succ]
    by_cases h1 : v < n
    · rw [List.getElem?_append_left (by rw [hasL_len]; omega), ih h1 hp]
    · obtain rfl : v = n := by omega
      rw [List.getElem?_append_right (by rw [hasL_len]; omega), hasL_len, show v * 8 + p - v * 8 = p by omega]
      simp [rowI, hp]
theorem upL_len (n : Nat) (up : Nat → Nat) : (upL n up).length = n := by simp [upL]
theorem upL_succ (n : Nat) (up : Nat → Nat) : upL (n + 1) up = upL n up ++ [(up n : Int)] := by unfold upL; rw [List.range_succ]; simp
theorem upL_get {n : Nat} {up : Nat → Nat} {i : Nat} (h : i < n) : (upL n up)[i]? = some (up i : Int) := by simp [upL, h]
theorem upL_set {n : Nat} {up : Nat → Nat} {i x : Nat} : (upL n up).set i (x : Int) = upL n (fun j => if j = i then x else up j) := by
  apply List.ext_getElem?
  intro j
  rw [List.getElem?_set]
  by_cases hj : j < n
  · by_cases h : i = j
    · subst h; rw [if_pos rfl, if_pos (by rw [upL_len]; exact hj), upL_get hj, if_pos rfl]
    · rw [if_neg h, upL_get hj, upL_get hj, if_neg (fun e => h e.symm)]
  · have h1 : (upL n up)[j]? = none := by rw [List.getElem?_eq_none]; rw [upL_len]; omega
    have h2 : (upL n fun j => if j = i then x else up j)[j]? = none := by rw [List.getElem?_eq_none]; rw [upL_len]; omega
    rw [h1, h2]
    split
    · rw [if_neg (by rw [upL_len]; omega)]
    · rfl
theorem todoL_len (l : List (Nat × Nat)) : (todoL l).length = l.length * 2 := by
  induction l with
  | nil => rfl
  | cons a l ih =>
    have : todoL (a :: l) = [(a.1 : Int), (a.2 : Int)] ++ todoL l := rfl
    rw [this, List.length_append, ih, List.length_cons]
    simp; omega
theorem todoL_snoc (l : List (Nat × Nat)) (a : Nat × Nat) : todoL (l ++ [a]) = todoL l ++ [(a.1 : Int), (a.2 : Int)] := by unfold todoL; simp

/-- integers in elements of some size -/
abbrev OwnK (w : World) (base : Nat) (e : TypeId) (size : Nat) (v : Value) (n : Nat) (zs : List Int) : Prop := w.ownsRow base e size v n (I64s zs)
/-- by which vertex each is known, told by the numbers up -/
structure UF (n : Nat) (up R d : Nat → Nat) : Prop where
  lt : ∀ i, i < n → up i < n
  fix : ∀ i, i < n → up i = i → R i = i
  step : ∀ i, i < n → up i ≠ i → R (up i) = R i ∧ d (up i) < d i
structure FM (w : World) (base g k : Nat) (x : FS) (up : Nat → Nat) (uv hv tv : Value) : Prop where
  blk : Blk w g 149 [uv, hv, .int .i64 k, tv]
  lt : base ≤ g
  ups : Own w base 3 uv (upL x.n up)
  hass : OwnK w base 152 8 hv x.n (hasL x.n x.has)
  todos : OwnK w base 70 2 tv x.todo.length (todoL x.todo)
/-- rows of different types lie in different blocks -/
theorem row_ne {w : World} {base base2 : Nat} {e e2 : TypeId} {s s2 : Nat} {v v2 : Value} {n n2 : Nat} {xs ys : List Value} (h1 : w.ownsRow base e s v n xs) (h2 : w.ownsRow base2 e2 s2 v2 n2 ys) (he : e ≠ e2) : v.ownBlock = none ∨ v.ownBlock ≠ v2.ownBlock := by
  rcases h1.2 with ⟨rfl, _⟩ | ⟨g, cap, cur, rfl, _, hg, _⟩
  · exact .inl rfl
  · right
    rcases h2.2 with ⟨rfl, _⟩ | ⟨g2, cap2, cur2, rfl, _, hg2, _⟩
    · simp [Value.ownBlock]
    · intro e3
      have e4 : g = g2 := by simpa [Value.ownBlock] using e3
      subst e4
      rw [hg] at hg2
      simp at hg2
      exact he hg2.2
theorem row_blk {w : World} {base : Nat} {e e2 : TypeId} {s : Nat} {v : Value} {n g : Nat} {xs vs : List Value} (h1 : w.ownsRow base e s v n xs) (h2 : Blk w g e2 vs) (he : e ≠ e2) : some g ≠ v.ownBlock := by
  rcases h1.2 with ⟨rfl, _⟩ | ⟨g1, cap, cur, rfl, _, hg, _⟩
  · simp [Value.ownBlock]
  · intro e3
    have e4 : g = g1 := by simpa [Value.ownBlock] using e3
    subst e4
    rw [Blk, hg] at h2
    simp at h2
    exact he h2.2
/-- one of the numbers up is written -/
theorem FM.setUp {w : World} {base g k : Nat} {x : FS} {up : Nat → Nat} {b cap n : Nat} {hv tv : Value} (h : FM w base g k x up (.slice (some ⟨b, 0, none⟩) n cap) hv tv) (i y : Nat) :
    FM (w.setCell ⟨b, i, none⟩ (.int .i64 y)) base g k x (fun j => if j = i then y else up j) (.slice (some ⟨b, 0, none⟩) n cap) hv tv := by
  have h1 := row_blk h.ups h.blk (by decide)
  have h2 := row_ne h.hass h.ups (by decide)
  have h3 := row_ne h.todos h.ups (by decide)
  refine ⟨h.blk.other (by intro e; apply h1; rw [e]; rfl) _, h.lt, ?_, ownsRow_setCell_other h.hass ?_ _, ownsRow_setCell_other h.todos ?_ _⟩
  · have := Own.set h.ups i y
    rwa [upL_set] at this
  · rcases h2 with h2 | h2
    · rw [h2]; simp
    · exact h2
  · rcases h3 with h3 | h3
    · rw [h3]; simp
    · exact h3
theorem FM.drewN {w : World} {base g k : Nat} {x : FS} {up : Nat → Nat} {uv hv tv : Value} (h : FM w base g k x up uv hv tv) (n : Nat) : FM (w.drewN n) base g k x up uv hv tv := ⟨h.blk, h.lt, h.ups, h.hass, h.todos⟩
theorem UF.half {n : Nat} {up R d : Nat → Nat} (h : UF n up R d) {i : Nat} (hi : i < n) (h0 : up i ≠ i) : UF n (fun j => if j = i then up (up i) else up j) R d := by
  have hu := h.lt i hi
  obtain ⟨s1, s2⟩ := h.step i hi h0
  have key : R (up (up i)) = R i ∧ d (up (up i)) < d i := by
    by_cases h1 : up (up i) = up i
    · rw [h1]; exact ⟨s1, s2⟩
    · obtain ⟨t1, t2⟩ := h.step _ hu h1
      exact ⟨t1.trans s1, by omega⟩
  refine ⟨fun j hj => ?_, fun j hj e => ?_, fun j hj e => ?_⟩
  · show (if j = i then up (up i) else up j) < n
    split
    · exact h.lt _ hu
    · exact h.lt j hj
  · have e : (if j = i then up (up i) else up j) = j := e
    split at e
    · rename_i hji
      subst hji
      rw [e] at key
      exact absurd key.2 (by omega)
    · exact h.fix j hj e
  · have e : (if j = i then up (up i) else up j) ≠ j := e
    show R (if j = i then up (up i) else up j) = R j ∧ d (if j = i then up (up i) else up j) < d j
    split at e
    · rename_i hji
      subst hji
      rw [if_pos rfl]; exact key
    · rename_i hji
      rw [if_neg hji]; exact h.step j hj e

/-- what a call at a folder may have done: it wrote the folder's own block and its three lists; lists moved into new blocks alone -/
structure Frm (w w' : World) (g : Nat) (uv hv tv uv' hv' tv' : Value) : Prop where
  os : w'.os = w.os
  tape : w'.tape = w.tape
  output : w'.output = w.output
  size : w.heap.size ≤ w'.heap.size
  block : ∀ b, b < w.heap.size → b ≠ g → some b ≠ uv.ownBlock → some b ≠ hv.ownBlock → some b ≠ tv.ownBlock → w'.heap[b]? = w.heap[b]?
  nu : ∀ b, uv'.ownBlock = some b → uv.ownBlock = some b ∨ w.heap.size ≤ b
  nh : ∀ b, hv'.ownBlock = some b → hv.ownBlock = some b ∨ w.heap.size ≤ b
  nt : ∀ b, tv'.ownBlock = some b → tv.ownBlock = some b ∨ w.heap.size ≤ b
theorem Frm.refl (w : World) (g : Nat) (uv hv tv : Value) : Frm w w g uv hv tv uv hv tv := ⟨rfl, rfl, rfl, Nat.le_refl _, fun _ _ _ _ _ _ => rfl, fun _ h => .inl h, fun _ h => .inl h, fun _ h => .inl h⟩
theorem Frm.trans {w w1 w2 : World} {g : Nat} {u h t u1 h1 t1 u2 h2 t2 : Value} (a : Frm w w1 g u h t u1 h1 t1) (b : Frm w1 w2 g u1 h1 t1 u2 h2 t2) : Frm w w2 g u h t u2 h2 t2 := by
  refine ⟨b.os.trans a.os, b.tape.trans a.tape, b.output.trans a.output, Nat.le_trans a.size b.size, fun i hi hg e1 e2 e3 => ?_, fun i hi => ?_, fun i hi => ?_, fun i hi => ?_⟩
  · refine (b.block i (Nat.lt_of_lt_of_le hi a.size) hg (fun e => ?_) (fun e => ?_) (fun e => ?_)).trans (a.block i hi hg e1 e2 e3)
    · rcases a.nu i e.symm with h | h
      · exact e1 h.symm
      · omega
    · rcases a.nh i e.symm with h | h
      · exact e2 h.symm
      · omega
    · rcases a.nt i e.symm with h | h
      · exact e3 h.symm
      · omega
  · rcases b.nu i hi with h | h
    · exact a.nu i h
    · exact .inr (Nat.le_trans a.size h)
  · rcases b.nh i hi with h | h
    · exact a.nh i h
    · exact .inr (Nat.le_trans a.size h)
  · rcases b.nt i hi with h | h
    · exact a.nt i h
    · exact .inr (Nat.le_trans a.size h)
theorem Frm.drewN {w w1 : World} {g : Nat} {u h t u1 h1 t1 : Value} (a : Frm w w1 g u h t u1 h1 t1) (n : Nat) : Frm w (w1.drewN n) g u h t u1 h1 t1 := ⟨a.os, a.tape, a.output, a.size, a.block, a.nu, a.nh, a.nt⟩
/-- new blocks alone -/
theorem Frm.of_below {w w1 : World} (hb : Below w.heap.size w w1) (g : Nat) (u h t : Value) : Frm w w1 g u h t u h t := ⟨hb.os, hb.tape, hb.output, hb.size, fun i hi _ _ _ _ => hb.block i hi, fun _ h => .inl h, fun _ h => .inl h, fun _ h => .inl h⟩
theorem Frm.set {w w1 : World} {g : Nat} {u h t u1 h1 t1 : Value} (a : Frm w w1 g u h t u1 h1 t1) (p : Addr) (x : Value) (hp : p.block = g ∨ u.ownBlock = some p.block ∨ h.ownBlock = some p.block ∨ t.ownBlock = some p.block ∨ w.heap.size ≤ p.block) : Frm w (w1.setCell p x) g u h t u1 h1 t1 := by
  refine ⟨a.os, a.tape, a.output, Nat.le_trans a.size (by simp), fun i hi hg e1 e2 e3 => ?_, a.nu, a.nh, a.nt⟩
  rw [Below.heap_setCell]
  · exact a.block i hi hg e1 e2 e3
  · intro e
    subst e
    rcases hp with e | e | e | e | e
    · exact hg e
    · exact e1 e.symm
    · exact e2 e.symm
    · exact e3 e.symm
    · omega
theorem Frm.below {w w1 : World} {g base : Nat} {u h t u1 h1 t1 : Value} (a : Frm w w1 g u h t u1 h1 t1) (hg : base ≤ g) (hw : base ≤ w.heap.size) (hu : ∀ b, u.ownBlock = some b → base ≤ b) (hh : ∀ b, h.ownBlock = some b → base ≤ b) (ht : ∀ b, t.ownBlock = some b → base ≤ b) : Below base w w1 :=
  ⟨a.os, a.tape, a.output, a.size, fun i hi => a.block i (Nat.lt_of_lt_of_le hi hw) (by omega) (fun e => by have := hu i e.symm; omega) (fun e => by have := hh i e.symm; omega) (fun e => by have := ht i e.symm; omega)⟩
/-- a list has grown -/
theorem Frm.grow {w w1 w6 : World} {g : Nat} {u h t u1 h1 t1 : Value} (a : Frm w w1 g u h t u1 h1 t1) {row : Option Nat} (hg : w1.grownBy w6 row) (hr : ∀ r, row = some r → u.ownBlock = some r ∨ h.ownBlock = some r ∨ t.ownBlock = some r ∨ w.heap.size ≤ r) : Frm w w6 g u h t u1 h1 t1 := by
  refine ⟨hg.os.trans a.os, hg.tape.trans a.tape, hg.output.trans a.output, Nat.le_trans a.size hg.size, fun i hi hgi e1 e2 e3 => ?_, a.nu, a.nh, a.nt⟩
  refine (hg.block i (Nat.lt_of_lt_of_le hi a.size) (fun e => ?_)).trans (a.block i hi hgi e1 e2 e3)
  rcases hr i e.symm with e | e | e | e
  · exact e1 e.symm
  · exact e2 e.symm
  · exact e3 e.symm
  · omega
theorem Frm.toU {w w1 : World} {g : Nat} {u h t u1 h1 t1 v : Value} (a : Frm w w1 g u h t u1 h1 t1) (hv : ∀ b, v.ownBlock = some b → u.ownBlock = some b ∨ w.heap.size ≤ b) : Frm w w1 g u h t v h1 t1 := ⟨a.os, a.tape, a.output, a.size, a.block, hv, a.nh, a.nt⟩
theorem Frm.toH {w w1 : World} {g : Nat} {u h t u1 h1 t1 v : Value} (a : Frm w w1 g u h t u1 h1 t1) (hv : ∀ b, v.ownBlock = some b → h.ownBlock = some b ∨ w.heap.size ≤ b) : Frm w w1 g u h t u1 v t1 := ⟨a.os, a.tape, a.output, a.size, a.block, a.nu, hv, a.nt⟩
theorem Frm.toT {w w1 : World} {g : Nat} {u h t u1 h1 t1 v : Value} (a : Frm w w1 g u h t u1 h1 t1) (hv : ∀ b, v.ownBlock = some b → t.ownBlock = some b ∨ w.heap.size ≤ b) : Frm w w1 g u h t u1 h1 v := ⟨a.os, a.tape, a.output, a.size, a.block, a.nu, a.nh, hv⟩

set_option maxRecDepth 100000 in
set_option maxHeartbeats 2000000 in
theorem rootOf_any (w : World) (base g k : Nat) (x : FS) (up R d : Nat → Nat) (uv hv tv : Value) (i : Nat) (h : FM w base g k x up uv hv tv) (hu : UF x.n up R d) (hi : i < x.n) (hn : x.n ≤ 1000000000) :
    Calls Try.prog 105 #[.pointer (some ⟨g, 0, none⟩), .int .i64 i] w fun e w' => e = .returned (.int .i64 (R i)) ∧ ∃ up', FM w' base g k x up' uv hv tv ∧ UF x.n up' R d ∧ Frm w w' g uv hv tv uv hv tv := by
  obtain ⟨b, cap, rfl, hbb, -, -, -⟩ := Own.open h.ups (upL_len _ _) (by omega)
  generalize hF : R i = F
  have HF := Lib.hid hF
  have HM := Lib.hid h
  have HU := Lib.hid hu
  have HB := Lib.hid (Frm.refl w g (.slice (some ⟨b, 0, none⟩) x.n cap) hv tv)
  clear hF h hu
  go_enter Try.func105, Try.ntmps105
  go_wp2_with fail
  go_loopw [1] (fun iv wr => ∃ (j : Nat) (up : Nat → Nat), j < x.n ∧ iv = .int .i64 j ∧ Hid (R j = F) ∧ Hid (FM wr base g k x up (.slice (some ⟨b, 0, none⟩) x.n cap) hv tv) ∧ Hid (UF x.n up R d) ∧ Hid (Frm w wr g (.slice (some ⟨b, 0, none⟩) x.n cap) hv tv (.slice (some ⟨b, 0, none⟩) x.n cap) hv tv)) (fun iv _ => d (intOf iv).toNat)
  case atStart => exact ⟨i, up, hi, rfl, HF, HM, HU, HB⟩
  case round =>
    clear HF HM HU HB up
    obtain ⟨j, up, hj, rfl, HF, HM, HU, HB⟩ := hrel
    have hc0 := HM.out.blk.cell (j := 0) rfl
    obtain ⟨b', cap', e', hbb', hlb, hfr, hcells⟩ := Own.open HM.out.ups (upL_len _ _) (by omega : 0 < x.n)
    obtain ⟨rfl, rfl⟩ : b = b' ∧ cap = cap' := by simpa using e'
    clear e'
    have hcj := hcells j _ (upL_get hj)
    by_cases h0 : up j = j
    · have hRj := HU.out.fix j hj h0
      have hFj : F = (j : Nat) := by rw [← HF.out]; exact hRj
      subst hFj
      rw [h0] at hcj
      clear hcells hRj h0
      go_wp2_with fail
      go_ret
      exact ⟨rfl, up, HM.out, HU.out, HB.out⟩
    · have hul := HU.out.lt j hj
      have hcu := hcells _ _ (upL_get hul)
      have hfj := hfr j
      have t0 : ((up j : Int) == (j : Int)) = false := by simp; omega
      have i1 : (0 : Int) ≤ j := by omega
      have i2 : (j : Int) < x.n := by omega
      have i3 : (0 : Int) ≤ up j := by omega
      have i4 : (up j : Int) < x.n := by omega
      have hM2 := FM.setUp HM.out j (up (up j))
      have hU2 := HU.out.half hj h0
      obtain ⟨s1, s2⟩ := HU.out.step j hj h0
      have hB2 := HB.out.set ⟨b, j, none⟩ (.int .i64 (up (up j))) (.inr (.inl rfl))
      clear hcells hfr h0
      go_wp2_with fail
      go_region
      replace hM2 := hM2.drewN 1
      replace hB2 := hB2.drewN 1
      change FM (wr.setCell ⟨b, j, none⟩ (.int .i64 (up (up j)))).drew _ _ _ _ _ _ _ _ at hM2
      change Frm w (wr.setCell ⟨b, j, none⟩ (.int .i64 (up (up j)))).drew _ _ _ _ _ _ _ at hB2
      generalize (wr.setCell ⟨b, j, none⟩ (.int .i64 (up (up j)))).drew = w2 at *
      have hd0 := hM2.blk.cell (j := 0) rfl
      obtain ⟨b2, cap2, e2, -, -, -, hcells2⟩ := Own.open hM2.ups (upL_len _ _) (by omega : 0 < x.n)
      obtain ⟨rfl, rfl⟩ : b = b2 ∧ cap = cap2 := by simpa using e2
      clear e2
      have hdj := hcells2 j _ (upL_get hj)
      rw [if_pos rfl] at hdj
      have G1 := Lib.hid hM2
      have G2 := Lib.hid hU2
      have G3 := Lib.hid hB2
      -- where the half of the way leads
      have hlt2 := hU2.lt j hj
      rw [if_pos rfl] at hlt2
      have hR2 : R (up (up j)) = R j ∧ d (up (up j)) < d j := by
        by_cases h1 : up (up j) = up j
        · rw [h1]; exact ⟨s1, s2⟩
        · obtain ⟨t1, t2⟩ := HU.out.step _ hul h1
          exact ⟨t1.trans s1, by omega⟩
      have G4 := Lib.hid (hR2.1.trans HF.out)
      have hd := hR2.2
      clear hM2 hU2 hB2 hcells2 hR2 HM HB
      go_wp2_with fail
      go_roundw
      case rel => exact ⟨up (up j), _, hlt2, rfl, G4, G1, G2, G3⟩
      case measure => simpa [intOf] using hd
end Go.Proofs.Ytlooclpfoeakgaa

/- A folder in memory: a vertex is added: the walk. -/
namespace Go.Proofs.Ytlooclpfoeakgaa
open Go.RowKit

section
variable {P : Program} {w : World} {ops : Array Oper} {o : Oper} {a : Act} {K : Act → World → Prop} {Q : Exit → Act → World → Prop} {E : Prop}
/-- append of one element of integers, which has just been laid in a new block -/
theorem step_appK {e t : TypeId} {size bytes : Nat} {zv : Value} (hinfo : (P.info? e).map (fun i => (i.zero, i.size, i.bytes)) = some (some zv, size, bytes)) (hzs : zv.cells.size = size) (hsz : 0 < size) (hby : bytes ≤ 1000) (ht : P.underlying t = some (.slice e))
    {base : Nat} {v : Value} {n : Nat} {zs : List Int} (hown : OwnK w base e size v n zs) (hl : n < 1000000000) (hgd : o.guard = none) (s x : Operand)
    (ho : o.op = .call { callee := .builtin .append, args := #[s, x], argTypes := #[t, t] }) {B : Nat} {ys : List Int} (hs : a.eval s = v) (hx : a.eval x = .slice (some ⟨B, 0, none⟩) 1 1) (hc : Blk w B e (I64s ys)) (hys : ys.length = size)
    (hbase : base ≤ w.heap.size) (H : Nat) (hH : w.heap.size = H)
    (h : ∀ g cap w', OwnK w' base e size (.slice (some ⟨g, 0, none⟩) (n + 1) cap) (n + 1) (zs ++ ys) → w.grownBy w' v.ownBlock → (v.ownBlock = some g ∨ g = H) → g < w'.heap.size → K (a.put o.dst (.slice (some ⟨g, 0, none⟩) (n + 1) cap)) w') :
    if Region.wanted o (yielded ops a.tmps) = true then Oper.wp P o a w K Q else E := by
  obtain ⟨i, h2, h3, h4, h5⟩ := info_parts hinfo
  refine step_append_lies w hgd s x t ho base e i zv size bytes ht h2 h3 h4 h5 hzs hsz v n _ hs hown ⟨B, 0, none⟩ 1 1 (I64s ys) hx (by simp [hys]) ?_ ?_ (by decide) ?_ ?_ hbase H hH ?_
  · have := World.news_of_block hc
    simpa using this
  · intro u hu
    obtain ⟨z, _, rfl⟩ := List.mem_map.1 hu
    rfl
  · unfold maxLen; omega
  · have : (n + 1) * bytes ≤ 1000000000 * 1000 := Nat.mul_le_mul (by omega) hby
    omega
  · intro g cap w' hown' hg hat hlt
    exact h g cap w' (by simpa [OwnK, I64s] using hown') hg hat hlt
end

/-- the same, in the walk of a region that keeps its order -/
theorem wpList_appK {P : Program} {w : World} {ops : Array Oper} {rest : List Oper} {o : Oper} {a : Act} {Q : Exit → Act → World → Prop} {e t : TypeId} {size bytes : Nat} {zv : Value} (hinfo : (P.info? e).map (fun i => (i.zero, i.size, i.bytes)) = some (some zv, size, bytes)) (hzs : zv.cells.size = size) (hsz : 0 < size) (hby : bytes ≤ 1000) (ht : P.underlying t = some (.slice e))
    {base : Nat} {v : Value} {n : Nat} {zs : List Int} (hown : OwnK w base e size v n zs) (hl : n < 1000000000) (hgd : o.guard = none) (s x : Operand)
    (ho : o.op = .call { callee := .builtin .append, args := #[s, x], argTypes := #[t, t] }) {B : Nat} {ys : List Int} (hs : a.eval s = v) (hx : a.eval x = .slice (some ⟨B, 0, none⟩) 1 1) (hc : Blk w B e (I64s ys)) (hys : ys.length = size)
    (hbase : base ≤ w.heap.size) (H : Nat) (hH : w.heap.size = H)
    (h : ∀ g cap w', OwnK w' base e size (.slice (some ⟨g, 0, none⟩) (n + 1) cap) (n + 1) (zs ++ ys) → w.grownBy w' v.ownBlock → (v.ownBlock = some g ∨ g = H) → g < w'.heap.size → wpList P ops Q rest (a.put o.dst (.slice (some ⟨g, 0, none⟩) (n + 1) cap)) w') :
    wpList P ops Q (o :: rest) a w :=
  wpList_step fun _ hK => step_appK hinfo hzs hsz hby ht hown hl hgd s x ho hs hx hc hys hbase H hH fun g cap w' h1 h2 h3 h4 => hK _ _ (h g cap w' h1 h2 h3 h4)
/-- the parts of a folder in memory -/
structure FZ (w : World) (base g k : Nat) (nu : Nat) (us : List Int) (nh : Nat) (hs : List Int) (nt : Nat) (ts : List Int) (uv hv tv : Value) : Prop where
  blk : Blk w g 149 [uv, hv, .int .i64 k, tv]
  lt : base ≤ g
  ups : OwnK w base 3 1 uv nu us
  hass : OwnK w base 152 8 hv nh hs
  todos : OwnK w base 70 2 tv nt ts
theorem FM.parts {w : World} {base g k : Nat} {x : FS} {up : Nat → Nat} {uv hv tv : Value} (h : FM w base g k x up uv hv tv) : FZ w base g k x.n (upL x.n up) x.n (hasL x.n x.has) x.todo.length (todoL x.todo) uv hv tv :=
  ⟨h.blk, h.lt, by have := h.ups; unfold Own at this; rwa [upL_len] at this, h.hass, h.todos⟩
theorem FZ.whole {w : World} {base g k : Nat} {x : FS} {up : Nat → Nat} {uv hv tv : Value} (h : FZ w base g k x.n (upL x.n up) x.n (hasL x.n x.has) x.todo.length (todoL x.todo) uv hv tv) : FM w base g k x up uv hv tv :=
  ⟨h.blk, h.lt, by unfold Own; rw [upL_len]; exact h.ups, h.hass, h.todos⟩
section
variable {w w6 : World} {base g k nu nh nt : Nat} {us hs ts zs : List Int} {uv hv tv nv : Value}
theorem FZ.drewN (h : FZ w base g k nu us nh hs nt ts uv hv tv) (n : Nat) : FZ (w.drewN n) base g k nu us nh hs nt ts uv hv tv := ⟨h.blk, h.lt, h.ups, h.hass, h.todos⟩
theorem FZ.keep (h : FZ w base g k nu us nh hs nt ts uv hv tv) (hb : Below w.heap.size w w6) : FZ w6 base g k nu us nh hs nt ts uv hv tv :=
  ⟨h.blk.keep hb, h.lt, World.ownsRow.keep h.ups hb, World.ownsRow.keep h.hass hb, World.ownsRow.keep h.todos hb⟩
theorem FM.keep {x : FS} {up : Nat → Nat} (h : FM w base g k x up uv hv tv) (hb : Below w.heap.size w w6) : FM w6 base g k x up uv hv tv :=
  ⟨h.blk.keep hb, h.lt, World.ownsRow.keep h.ups hb, World.ownsRow.keep h.hass hb, World.ownsRow.keep h.todos hb⟩
theorem row_other {e : TypeId} {size n : Nat} {v : Value} {xs : List Value} {e2 : TypeId} {vs : List Value} (h : w.ownsRow base e size v n xs) (hb : Blk w g e2 vs) (he : e ≠ e2) (j : Nat) (u : Value) : (w.setCell ⟨g, j, none⟩ u).ownsRow base e size v n xs :=
  ownsRow_setCell_other h (fun e3 => row_blk h hb he e3.symm) u
theorem FZ.appUp {m : Nat} (h : FZ w base g k nu us nh hs nt ts uv hv tv) (hown : OwnK w6 base 3 1 nv m zs) (hg : w.grownBy w6 uv.ownBlock) : FZ (w6.setCell ⟨g, 0, none⟩ nv) base g k m zs nh hs nt ts nv hv tv := by
  have hb := h.blk.grown hg (row_blk h.ups h.blk (by decide))
  have h2 := World.ownsRow.kept h.hass hg (row_ne h.hass h.ups (by decide))
  have h3 := World.ownsRow.kept h.todos hg (row_ne h.todos h.ups (by decide))
  exact ⟨by have := hb.set 0 nv; exact this, h.lt, row_other hown hb (by decide) _ _, row_other h2 hb (by decide) _ _, row_other h3 hb (by decide) _ _⟩
theorem FZ.appHas {m : Nat} (h : FZ w base g k nu us nh hs nt ts uv hv tv) (hown : OwnK w6 base 152 8 nv m zs) (hg : w.grownBy w6 hv.ownBlock) : FZ (w6.setCell ⟨g, 1, none⟩ nv) base g k nu us m zs nt ts uv nv tv := by
  have hb := h.blk.grown hg (row_blk h.hass h.blk (by decide))
  have h2 := World.ownsRow.kept h.ups hg (row_ne h.ups h.hass (by decide))
  have h3 := World.ownsRow.kept h.todos hg (row_ne h.todos h.hass (by decide))
  exact ⟨by have := hb.set 1 nv; exact this, h.lt, row_other h2 hb (by decide) _ _, row_other hown hb (by decide) _ _, row_other h3 hb (by decide) _ _⟩
theorem FZ.appTodo {m : Nat} (h : FZ w base g k nu us nh hs nt ts uv hv tv) (hown : OwnK w6 base 70 2 nv m zs) (hg : w.grownBy w6 tv.ownBlock) : FZ (w6.setCell ⟨g, 3, none⟩ nv) base g k nu us nh hs m zs uv hv nv := by
  have hb := h.blk.grown hg (row_blk h.todos h.blk (by decide))
  have h2 := World.ownsRow.kept h.ups hg (row_ne h.ups h.todos (by decide))
  have h3 := World.ownsRow.kept h.hass hg (row_ne h.hass h.todos (by decide))
  exact ⟨by have := hb.set 3 nv; exact this, h.lt, row_other h2 hb (by decide) _ _, row_other h3 hb (by decide) _ _, row_other hown hb (by decide) _ _⟩
theorem FZ.alloc (h : FZ w base g k nu us nh hs nt ts uv hv tv) (o : Obj) : FZ (w.alloc o).drew base g k nu us nh hs nt ts uv hv tv := (h.keep ((Below.refl _ _).alloc (Nat.le_refl _) o)).drewN 1
theorem FZ.mk1 (h : FZ w base g k nu us nh hs nt ts uv hv tv) (o : Obj) : FZ (w.drew.alloc o) base g k nu us nh hs nt ts uv hv tv := (h.drewN 1).keep ((Below.refl _ _).alloc (Nat.le_refl _) o)
theorem row_shape {e : TypeId} {size n : Nat} {v : Value} {zs : List Int} (h : OwnK w base e size v n zs) : ∃ a c, v = .slice a n c ∧ n ≤ c ∧ c ≤ 9223372036854775807 ∧ (∀ b, v.ownBlock = some b → base ≤ b ∧ b < w.heap.size) := by
  have hl := World.ownsRow.lt h
  rcases h.2 with ⟨rfl, rfl⟩ | ⟨g, cap, cur, rfl, hb, hg, hn, hm, _⟩
  · exact ⟨_, _, rfl, by omega, by omega, hl⟩
  · exact ⟨_, _, rfl, hn, by unfold maxLen at hm; omega, hl⟩
end

theorem Try.info3 : (Try.prog.info? 3).map (fun i => (i.zero, i.size, i.bytes)) = some (some (.int .i64 0), 1, 8) := by kernel_rfl
theorem Try.info152 : (Try.prog.info? 152).map (fun i => (i.zero, i.size, i.bytes)) = some (some (.agg #[.int .i64 0, .int .i64 0, .int .i64 0, .int .i64 0, .int .i64 0, .int .i64 0, .int .i64 0, .int .i64 0]), 8, 64) := by kernel_rfl
theorem Try.info70 : (Try.prog.info? 70).map (fun i => (i.zero, i.size, i.bytes)) = some (some (.agg #[.int .i64 0, .int .i64 0]), 2, 16) := by kernel_rfl
end Go.Proofs.Ytlooclpfoeakgaa

/- A vertex is added: the walk. -/
namespace Go.Proofs.Ytlooclpfoeakgaa
open Go.RowKit

def bareI : List Int := List.replicate 8 (-1)
theorem bareI_row {f : Nat → Option Nat} (h : ∀ p, f p = none) : rowI f = bareI := by
  unfold rowI
  rw [show ((fun p => optI (f p)) : Nat → Int) = fun _ => -1 by funext p; rw [h]; rfl]
  rfl
set_option maxRecDepth 100000 in
set_option maxHeartbeats 4000000 in
theorem add_any (w : World) (base g k : Nat) (x : FS) (up : Nat → Nat) (uv hv tv : Value) (h : FM w base g k x up uv hv tv) (hb : base ≤ w.heap.size) (hn : x.n < 1000000) :
    Calls Try.prog 100 #[.pointer (some ⟨g, 0, none⟩), .agg bareL.toArray] w fun e w' => e = .returned (.int .i64 x.n) ∧ ∃ nv mv, FZ w' base g k (x.n + 1) (upL x.n up ++ [(x.n : Int)]) (x.n + 1) (hasL x.n x.has ++ bareI) x.todo.length (todoL x.todo) nv mv tv ∧ Frm w w' g uv hv tv nv mv tv := by
  have hz := h.parts
  have hlt := h.blk.lt
  obtain ⟨ua, uc, rfl, hu1, hu2, hul⟩ := row_shape hz.ups
  obtain ⟨ha, hc, rfl, hh1, hh2, hhl⟩ := row_shape hz.hass
  have hbx : Below w.heap.size w (w.alloc (.cells bareL.toArray 152)) := (Below.refl _ _).alloc (Nat.le_refl _) _
  have hz1 := hz.keep hbx
  have hbb := Blk.new w 152 bareL
  have HZ := Lib.hid hz1
  have HB := Lib.hid (Frm.of_below hbx g (.slice ua x.n uc) (.slice ha x.n hc) tv)
  have HBX := Lib.hid hbb
  have HUL := Lib.hid hul
  have HHL := Lib.hid hhl
  have hc0 := hz1.blk.cell (j := 0) rfl
  have hone : ∀ v ∈ bareL, v.oneCell' = true := by decide
  have hlen : bareL.length = 8 := rfl
  have HONE := Lib.hid hone
  have HLEN := Lib.hid hlen
  clear h hz hz1 hbx hbb hul hhl hone hlen
  have HMB := Lib.hid (show bareL = bareL from rfl)
  generalize hM : bareL = M at HONE HLEN HBX HB HZ hc0 ⊢
  replace HMB := Lib.hid hM.symm
  clear hM
  go_enter Try.func100, Try.ntmps100
  go_upto_region 1 with fail
  go_cut [4] from 5 to 18 (fun s4 wx => s4 = .int .i64 0 ∧ Hid (w.heap.size + 1 ≤ wx.heap.size) ∧ Hid (Blk wx w.heap.size 152 M) ∧ ∃ nv, Hid (Frm w wx g (.slice ua x.n uc) (.slice ha x.n hc) tv nv (.slice ha x.n hc) tv) ∧ Hid (FZ wx base g k (x.n + 1) (upL x.n up ++ [(x.n : Int)]) x.n (hasL x.n x.has) x.todo.length (todoL x.todo) nv (.slice ha x.n hc) tv))
  case first =>
    have hz1s : (w.alloc (.cells M.toArray 152)).heap.size = w.heap.size + 1 := by simp
    generalize w.alloc (.cells M.toArray 152) = w1 at *
    have HN := Lib.hid (show x.n < 1000000000 by omega)
    have T1 : FZ (w1.alloc (.cells #[.int .i64 x.n] 3)).drew base g k x.n (upL x.n up) x.n (hasL x.n x.has) x.todo.length (todoL x.todo) (.slice ua x.n uc) (.slice ha x.n hc) tv := HZ.out.alloc _
    have T2 : Blk (w1.alloc (.cells #[.int .i64 x.n] 3)).drew (w.heap.size + 1) 3 (I64s [(x.n : Int)]) := by
      have hnew := Blk.new w1 3 [.int .i64 x.n]
      rw [hz1s] at hnew
      exact hnew
    have T3 : base ≤ (w1.alloc (.cells #[.int .i64 x.n] 3)).drew.heap.size := by
      show base ≤ (w1.alloc (.cells #[.int .i64 x.n] 3)).heap.size
      simp; omega
    have H1 := Lib.hid T1
    have H2 := Lib.hid T2
    have H3 := Lib.hid T3
    clear T1 T2 T3
    go_region_law ((refine step_appK Try.info3 rfl (by decide) (by decide) Try.underlying54 H1.out.ups HN.out rfl (.tmp 9) (.tmp 15) rfl (by simp [Act.eval]) (by simp [Act.eval]) H2.out rfl H3.out _ rfl ?_; intro g6 cap6 w6 hown6 hgrow6 hat6 hlt6; have hz6 := H1.out.appUp hown6 hgrow6; have hb6 := H1.out.blk.grown hgrow6 (row_blk H1.out.ups H1.out.blk (by decide)); have c6 := hb6.cell (j := 0) rfl; have f6 := hb6.free 0))
    all_goals
      have hbx1 : Blk (w1.alloc (.cells #[.int .i64 x.n] 3)).drew w.heap.size 152 M := HBX.out.alloc _
      have hbx6 := (hbx1.grown hgrow6 (fun e => by have := (HUL.out _ e.symm).2; omega)).other (a := ⟨g, 0, none⟩) (by intro e; have e : w.heap.size = g := e; omega) (.slice (some ⟨g6, 0, none⟩) (x.n + 1) cap6)
      have hB6 := ((HB.out.trans (Frm.of_below ((Below.refl _ _).alloc (Nat.le_refl _) (.cells #[.int .i64 x.n] 3)) g _ _ tv)).drewN 1).grow hgrow6 (fun r hr => .inl hr)
      have hB7 := (hB6.set ⟨g, 0, none⟩ (.slice (some ⟨g6, 0, none⟩) (x.n + 1) cap6) (.inl rfl)).toU (v := .slice (some ⟨g6, 0, none⟩) (x.n + 1) cap6) (fun r hr => by
        have hr : some g6 = some r := hr
        rcases hat6 with e | e
        · exact .inl (e.trans hr)
        · right
          have : (w1.alloc (.cells #[.int .i64 x.n] 3)).drew.heap.size = w.heap.size + 2 := by
            show (w1.alloc (.cells #[.int .i64 x.n] 3)).heap.size = _
            simp; omega
          have h9 := Option.some.inj hr
          omega)
      have hs7 : w.heap.size + 1 ≤ (w6.setCell ⟨g, 0, none⟩ (.slice (some ⟨g6, 0, none⟩) (x.n + 1) cap6)).heap.size := by
        have h1 := hgrow6.size
        have h2 : (w1.alloc (.cells #[.int .i64 x.n] 3)).drew.heap.size = w.heap.size + 2 := by
          show (w1.alloc (.cells #[.int .i64 x.n] 3)).heap.size = _
          simp; omega
        rw [h2] at h1
        have h4 : (w6.setCell ⟨g, 0, none⟩ (.slice (some ⟨g6, 0, none⟩) (x.n + 1) cap6)).heap.size = w6.heap.size := by simp
        omega
      go_wp2_with fail
      go_meet
      exact ⟨rfl, hs7, hbx6, _, hB7, hz6⟩
  case rest =>
    obtain ⟨rfl, HS7, HBX7, nv, HB7, HZ7⟩ := hcut
    clear HZ HB HBX hc0
    have hc1 := HZ7.out.blk.cell (j := 1) rfl
    obtain ⟨na, nc, rfl, hn1, hn2, hnl⟩ := row_shape HZ7.out.ups
    have hMb := HMB.out
    subst hMb
    have d0 := HBX7.out.cell (j := 0) rfl
    have d1 := HBX7.out.cell (j := 1) rfl
    have d2 := HBX7.out.cell (j := 2) rfl
    have d3 := HBX7.out.cell (j := 3) rfl
    have d4 := HBX7.out.cell (j := 4) rfl
    have d5 := HBX7.out.cell (j := 5) rfl
    have d6 := HBX7.out.cell (j := 6) rfl
    have d7 := HBX7.out.cell (j := 7) rfl
    go_upto_region 2 with fail
    go_cut [4] from 19 to 28 (fun s4 w9 => s4 = .int .i64 0 ∧ ∃ mv, Hid (Frm w w9 g (.slice ua x.n uc) (.slice ha x.n hc) tv (.slice na (x.n + 1) nc) mv tv) ∧ Hid (FZ w9 base g k (x.n + 1) (upL x.n up ++ [(x.n : Int)]) (x.n + 1) (hasL x.n x.has ++ bareI) x.todo.length (todoL x.todo) (.slice na (x.n + 1) nc) mv tv))
    case first =>
      have HN := Lib.hid (show x.n < 1000000000 by omega)
      have hsz := HS7.out
      have hgc : g < wc.heap.size := by omega
      have H1 := Lib.hid (HZ7.out.alloc (.cells (I64s bareI).toArray 152))
      have H2 : Hid (Blk (wc.alloc (.cells (I64s bareI).toArray 152)).drew wc.heap.size 152 (I64s bareI)) := Lib.hid (Blk.new wc 152 (I64s bareI))
      have H3 : Hid (base ≤ (wc.alloc (.cells (I64s bareI).toArray 152)).drew.heap.size) := by
        show base ≤ (wc.alloc (.cells (I64s bareI).toArray 152)).heap.size
        simp; omega
      go_region_law ((refine step_appK Try.info152 rfl (by decide) (by decide) Try.underlying144 H1.out.hass HN.out rfl (.tmp 23) (.tmp 25) rfl (by simp [Act.eval]) (by simp [Act.eval]) H2.out rfl H3.out _ rfl ?_; intro g6 cap6 w6 hown6 hgrow6 hat6 hlt6; have hz6 := H1.out.appHas hown6 hgrow6; have hb6 := H1.out.blk.grown hgrow6 (row_blk H1.out.hass H1.out.blk (by decide)); have c6 := hb6.cell (j := 1) rfl; have f6 := hb6.free 1))
      all_goals
        have hB6 := ((HB7.out.trans (Frm.of_below ((Below.refl _ _).alloc (Nat.le_refl _) (.cells (I64s bareI).toArray 152)) g _ _ tv)).drewN 1).grow hgrow6 (fun r hr => .inr (.inl hr))
        have hB7 := (hB6.set ⟨g, 1, none⟩ (.slice (some ⟨g6, 0, none⟩) (x.n + 1) cap6) (.inl rfl)).toH (v := .slice (some ⟨g6, 0, none⟩) (x.n + 1) cap6) (fun r hr => by
          have hr : some g6 = some r := hr
          rcases hat6 with e | e
          · exact .inl (e.trans hr)
          · right
            have : (wc.alloc (.cells (I64s bareI).toArray 152)).drew.heap.size = wc.heap.size + 1 := by
              show (wc.alloc (.cells (I64s bareI).toArray 152)).heap.size = _
              simp
            have h9 := Option.some.inj hr
            have e9 : r = wc.heap.size + 1 := by rw [← h9]; exact e.trans this
            omega)
        go_wp2_with fail
        go_meet
        exact ⟨rfl, _, hB7, hz6⟩
    case rest =>
      obtain ⟨rfl, mv, HB9, HZ9⟩ := hcut
      have e0 := HZ9.out.blk.cell (j := 0) rfl
      go_wp2_with fail
      go_ret
      exact ⟨rfl, _, _, HZ9.out, HB9.out⟩
end Go.Proofs.Ytlooclpfoeakgaa
