/- The basis of a graph: ways, numbers of edges, what expressions spell. Plain laws. -/
import Derived.Test.YtlooclpfoeakgaaMI
import Derived.Test.YtlooclpfoeakgaaMH
import Derived.Test.YtlooclpfoeakgaaMG
import Derived.Test.YtlooclpfoeakgaaMD
import Derived.Test.YtlooclpfoeakgaaME
import Derived.Test.YtlooclpfoeakgaaMF
import Derived.Test.YtlooclpfoeakgaaKFolds
namespace Go.Proofs.Ytlooclpfoeakgaa

abbrev treeT (k : Nat) (g : List (List Int)) : Nat → Nat × Nat := treeF g (scanN (2 * k) g.length 0)
abbrev wayW (k : Nat) (g : List (List Int)) : Nat → List UInt8 := wayT (treeT k g) g.length
abbrev edgesE (k : Nat) (g : List (List Int)) : List E3 := edgesTo k g g.length 0

/-! ### ways -/
theorem wayT_out (T : Nat → Nat × Nat) : ∀ v s, v ≤ s → wayT T v s = []
  | 0, _, _ => rfl
  | v + 1, s, h => by
    rw [wayT, if_neg (by omega)]
    exact wayT_out T v s (by omega)
theorem wayT_zero (T : Nat → Nat × Nat) : ∀ v, wayT T v 0 = []
  | 0 => rfl
  | v + 1 => by rw [wayT, if_neg (by omega)]; exact wayT_zero T v
theorem wayT_at (T : Nat → Nat × Nat) (s : Nat) : ∀ v, s < v → wayT T v s = wayT T (s + 1) s
  | 0, h => by omega
  | v + 1, h => by
    by_cases e : s = v
    · rw [e]
    · rw [wayT, if_neg (by omega)]
      exact wayT_at T s v (by omega)
theorem way_zero (k : Nat) (g : List (List Int)) : wayW k g 0 = [] := wayT_zero _ _
theorem way_step {k : Nat} {g : List (List Int)} (hg : GoodG k g) {v : Nat} (hv : v < g.length) (h0 : v ≠ 0) {f p : Nat} (ht : treeT k g v = (f, p)) : wayW k g v = wayW k g f ++ [letP p] := by
  obtain ⟨f2, p2, h1, h2, -⟩ := tree_first hg hv h0
  change treeT k g v = _ at h1
  rw [ht] at h1
  cases h1
  unfold wayW
  rw [wayT_at _ v _ hv, wayT, if_pos ⟨rfl, h0⟩, ht]
  show wayT _ v f ++ _ = _
  rw [wayT_at _ f v h2, wayT_at _ f g.length (by omega)]

/-! ### edges -/
theorem nxT_bounds {k : Nat} {g : List (List Int)} (hg : GoodG k g) {v p u : Nat} (h : nxT g v p = some u) : v < g.length ∧ p < 2 * k ∧ u < g.length := by
  obtain ⟨r, h1, h2⟩ := nxT_row' h
  have h3 := hg.row r (List.mem_of_getElem? h1)
  have h4 := (List.getElem?_eq_some_iff.1 h1).1
  have h5 := (List.getElem?_eq_some_iff.1 h2).1
  have h6 := (h3.2 _ (List.mem_of_getElem? h2)).2
  exact ⟨h4, by omega, by omega⟩
theorem mem_edges {k : Nat} {g : List (List Int)} (hg : GoodG k g) {v p u : Nat} : (v, p, u) ∈ edgesE k g ↔ nxT g v p = some u ∧ p % 2 = 0 := by
  have hin : ∀ (v' q : Nat), (v, p, u) ∈ edgeAt g v' (2 * q) ↔ v = v' ∧ p = 2 * q ∧ nxT g v p = some u := by
    intro v' q
    unfold edgeAt
    cases hx : nxT g v' (2 * q) with
    | none =>
      simp only [List.not_mem_nil, false_iff]
      rintro ⟨rfl, rfl, h⟩
      rw [hx] at h; cases h
    | some t =>
      simp only [List.mem_singleton, Prod.mk.injEq]
      constructor
      · rintro ⟨rfl, rfl, rfl⟩; exact ⟨rfl, rfl, hx⟩
      · rintro ⟨rfl, rfl, h⟩; rw [hx] at h; exact ⟨rfl, rfl, (Option.some.inj h).symm⟩
  unfold edgesE edgesTo
  simp only [List.range_zero, List.flatMap_nil, List.append_nil, List.mem_flatMap, List.mem_range, hin]
  constructor
  · rintro ⟨a, h1, b, h2, rfl, rfl, h⟩
    exact ⟨h, by omega⟩
  · rintro ⟨h, he⟩
    obtain ⟨h1, h2, h3⟩ := nxT_bounds hg h
    exact ⟨v, h1, p / 2, by omega, rfl, by omega, h⟩
/-- no two edges have the same place -/
def KeysE (l : List E3) : Prop := l.Pairwise fun a b => (a.1, a.2.1) ≠ (b.1, b.2.1)
theorem edges_keys (k : Nat) (g : List (List Int)) : KeysE (edgesE k g) := by
  have hin : ∀ (v q : Nat) (e : E3), e ∈ edgeAt g v (2 * q) → e.1 = v ∧ e.2.1 = 2 * q := by
    intro v q e h
    unfold edgeAt at h
    split at h
    · rw [List.mem_singleton.1 h]; exact ⟨rfl, rfl⟩
    · cases h
  have hone : ∀ v q, (edgeAt g v (2 * q)).Pairwise fun a b => (a.1, a.2.1) ≠ (b.1, b.2.1) := by
    intro v q
    unfold edgeAt
    split
    · simp
    · exact .nil
  have hlt : ∀ n : Nat, (List.range n).Pairwise (· < ·) := fun n => List.pairwise_lt_range
  unfold KeysE edgesE edgesTo
  simp only [List.range_zero, List.flatMap_nil, List.append_nil]
  rw [List.pairwise_flatMap]
  refine ⟨fun v _ => ?_, ?_⟩
  · rw [List.pairwise_flatMap]
    refine ⟨fun q _ => hone v q, (hlt k).imp ?_⟩
    intro a b hab x hx y hy e
    obtain ⟨h1, h2⟩ := hin _ _ _ hx
    obtain ⟨h3, h4⟩ := hin _ _ _ hy
    rw [h2, h4] at e
    have := (Prod.mk.inj e).2
    omega
  · refine (hlt g.length).imp ?_
    intro a b hab x hx y hy e
    obtain ⟨q, -, hx⟩ := List.mem_flatMap.1 hx
    obtain ⟨r, -, hy⟩ := List.mem_flatMap.1 hy
    have h1 := (hin _ _ _ hx).1
    have h3 := (hin _ _ _ hy).1
    have := (Prod.mk.inj e).1
    omega

/-! ### numbers -/
def NumOf (T : Nat → Nat × Nat) (Wf : Nat → List UInt8) (l : List E3) (M : Nat → Nat → Option Int) (e : E3) : Prop :=
  (skipT T e = true ∧ M e.1 e.2.1 = none ∧ M e.2.2 (e.2.1 ^^^ 1) = none) ∨
  (skipT T e = false ∧ ∃ i : Nat, (wordsQ T Wf l)[i]? = some (wordQ Wf e) ∧ M e.1 e.2.1 = some ((i : Int) + 1) ∧ M e.2.2 (e.2.1 ^^^ 1) = some (-((i : Int) + 1)))
structure NumsE (T : Nat → Nat × Nat) (Wf : Nat → List UInt8) (l : List E3) (M : Nat → Nat → Option Int) : Prop where
  each : ∀ e ∈ l, NumOf T Wf l M e
  only : ∀ x y n, M x y = some n → ∃ e ∈ l, ∃ i : Nat, i < (wordsQ T Wf l).length ∧ (((x, y) = (e.1, e.2.1) ∧ n = (i : Int) + 1) ∨ ((x, y) = (e.2.2, e.2.1 ^^^ 1) ∧ n = -((i : Int) + 1)))
  over : ∀ i, i < (wordsQ T Wf l).length → ∃ e ∈ l, M e.1 e.2.1 = some ((i : Int) + 1)
  inj : ∀ e ∈ l, ∀ f ∈ l, ∀ i : Nat, M e.1 e.2.1 = some ((i : Int) + 1) → M f.1 f.2.1 = some ((i : Int) + 1) → e = f
theorem xor_odd : ∀ p : Nat, p < 52 → p % 2 = 0 → (p ^^^ 1) % 2 = 1 := by decide
theorem xor_even : ∀ p : Nat, p < 52 → p % 2 = 1 → (p ^^^ 1) % 2 = 0 := by decide
theorem nums_all {k : Nat} {g : List (List Int)} (hg : GoodG k g) (T : Nat → Nat × Nat) (Wf : Nat → List UInt8) : ∀ (n : Nat) (l : List E3), l.length = n → (∀ e ∈ l, nxT g e.1 e.2.1 = some e.2.2 ∧ e.2.1 % 2 = 0) → KeysE l → NumsE T Wf l (mapQ T l).2 := by
  intro n
  induction n with
  | zero =>
    intro l h _ _
    obtain rfl := List.eq_nil_of_length_eq_zero h
    exact ⟨(fun e h => by cases h), (fun x y n h => by cases h), (fun i h => by cases h), (fun e h => by cases h)⟩
  | succ n ih =>
    intro l h hl hk
    rcases List.eq_nil_or_concat l with rfl | ⟨q, d, rfl⟩
    · simp at h
    rw [List.concat_eq_append] at h hl hk ⊢
    have hq := ih q (by simp at h; omega) (fun e he => hl e (by simp [he])) (List.pairwise_append.1 hk).1
    have hd := hl d (by simp)
    have hdk : ∀ e ∈ q, (e.1, e.2.1) ≠ (d.1, d.2.1) := fun e he => (List.pairwise_append.1 hk).2.2 e he d (by simp)
    have hk4 := hg.k4
    have hp52 := (nxT_bounds hg hd.1).2.1
    have hsym := hg.sym d.1 d.2.1 d.2.2 hp52 hd.1
    -- the keys of d are new
    have hnew : ∀ e ∈ q, (d.1, d.2.1) ≠ (e.1, e.2.1) ∧ (d.1, d.2.1) ≠ (e.2.2, e.2.1 ^^^ 1) ∧ (d.2.2, d.2.1 ^^^ 1) ≠ (e.1, e.2.1) ∧ (d.2.2, d.2.1 ^^^ 1) ≠ (e.2.2, e.2.1 ^^^ 1) := by
      intro e he
      have h1 := hl e (by simp [he])
      have h2 := (nxT_bounds hg h1.1).2.1
      have h3 := hg.sym e.1 e.2.1 e.2.2 h2 h1.1
      have o1 := xor_odd d.2.1 (by omega) hd.2
      have o2 := xor_odd e.2.1 (by omega) h1.2
      refine ⟨fun x => hdk e he x.symm, fun x => ?_, fun x => ?_, fun x => ?_⟩
      · have := (Prod.mk.inj x).2; rw [this] at hd; omega
      · have := (Prod.mk.inj x).2; rw [← this] at h1; omega
      · obtain ⟨x1, x2⟩ := Prod.mk.inj x
        have x3 : d.2.1 = e.2.1 := by rw [← xor_xor d.2.1 (by omega), x2, xor_xor e.2.1 (by omega)]
        rw [x1, x2, h3] at hsym
        exact hdk e he (by rw [Option.some.inj hsym, x3])
    have hnone : (mapQ T q).2 d.1 d.2.1 = none ∧ (mapQ T q).2 d.2.2 (d.2.1 ^^^ 1) = none := by
      constructor
      · cases hm : (mapQ T q).2 d.1 d.2.1 with
        | none => rfl
        | some z =>
          obtain ⟨e, he, i, -, h1⟩ := hq.only _ _ _ hm
          rcases h1 with ⟨h1, -⟩ | ⟨h1, -⟩
          · exact absurd h1 (hnew e he).1
          · exact absurd h1 (hnew e he).2.1
      · cases hm : (mapQ T q).2 d.2.2 (d.2.1 ^^^ 1) with
        | none => rfl
        | some z =>
          obtain ⟨e, he, i, -, h1⟩ := hq.only _ _ _ hm
          rcases h1 with ⟨h1, -⟩ | ⟨h1, -⟩
          · exact absurd h1 (hnew e he).2.2.1
          · exact absurd h1 (hnew e he).2.2.2
    rw [mapQ_snoc]
    unfold stepQ
    by_cases hs : skipT T d = true
    · rw [if_pos hs]
      have hw : wordsQ T Wf (q ++ [d]) = wordsQ T Wf q := by rw [wordsQ_snoc, if_pos hs]
      refine ⟨fun e he => ?_, fun x y n hn => ?_, fun i hi => ?_, fun e he f hf i h1 h2 => ?_⟩
      · rcases List.mem_append.1 he with he | he
        · have := hq.each e he
          unfold NumOf at *
          rw [hw]; exact this
        · rw [List.mem_singleton.1 he]
          exact .inl ⟨hs, hnone.1, hnone.2⟩
      · obtain ⟨e, he, i, h1, h2⟩ := hq.only x y n hn
        exact ⟨e, by simp [he], i, by rw [hw]; exact h1, h2⟩
      · rw [hw] at hi
        obtain ⟨e, he, h1⟩ := hq.over i hi
        exact ⟨e, by simp [he], h1⟩
      · have hin : ∀ e ∈ q ++ [d], (mapQ T q).2 e.1 e.2.1 ≠ none → e ∈ q := by
          intro e he hn
          rcases List.mem_append.1 he with he | he
          · exact he
          · rw [List.mem_singleton.1 he] at hn
            exact absurd hnone.1 hn
        exact hq.inj e (hin e he (by rw [h1]; simp)) f (hin f hf (by rw [h2]; simp)) i h1 h2
    · rw [if_neg hs]
      have hs2 : skipT T d = false := by simpa using hs
      have hw : wordsQ T Wf (q ++ [d]) = wordsQ T Wf q ++ [wordQ Wf d] := by rw [wordsQ_snoc, if_neg hs]
      have hlen := mapQ_len T Wf q
      have hM : ∀ x y, putQ ((mapQ T q).1 + 1) d (mapQ T q).2 x y = if (x, y) = (d.2.2, d.2.1 ^^^ 1) then some (-(((mapQ T q).1 : Int) + 1)) else if (x, y) = (d.1, d.2.1) then some (((mapQ T q).1 : Int) + 1) else (mapQ T q).2 x y := by
        intro x y; unfold putQ; push_cast; rfl
      have hd12 : (d.1, d.2.1) ≠ (d.2.2, d.2.1 ^^^ 1) := by
        intro x
        have := (Prod.mk.inj x).2
        have o1 := xor_odd d.2.1 (by omega) hd.2
        omega
      have hold : ∀ e ∈ q ++ [d], (e ∈ q ∧ putQ ((mapQ T q).1 + 1) d (mapQ T q).2 e.1 e.2.1 = (mapQ T q).2 e.1 e.2.1) ∨ (e = d ∧ putQ ((mapQ T q).1 + 1) d (mapQ T q).2 e.1 e.2.1 = some (((wordsQ T Wf q).length : Int) + 1)) := by
        intro e he
        rcases List.mem_append.1 he with he | he
        · obtain ⟨n1, n2, n3, n4⟩ := hnew e he
          exact .inl ⟨he, by rw [hM, if_neg (fun x => n3 x.symm), if_neg (fun x => n1 x.symm)]⟩
        · rw [List.mem_singleton.1 he]
          exact .inr ⟨rfl, by rw [hM, if_neg hd12, if_pos rfl, hlen]⟩
      have hless : ∀ e ∈ q, ∀ i : Nat, (mapQ T q).2 e.1 e.2.1 = some ((i : Int) + 1) → i < (wordsQ T Wf q).length := by
        intro e he i h1
        rcases hq.each e he with ⟨-, a, -⟩ | ⟨-, j, a, b, -⟩
        · rw [h1] at a; cases a
        · rw [h1] at b
          have := Option.some.inj b
          have := (List.getElem?_eq_some_iff.1 a).1
          omega
      refine ⟨fun e he => ?_, fun x y n hn => ?_, fun i hi => ?_, fun e he f hf i h1 h2 => ?_⟩
      · rcases List.mem_append.1 he with he | he
        · obtain ⟨n1, n2, n3, n4⟩ := hnew e he
          have e1 : putQ ((mapQ T q).1 + 1) d (mapQ T q).2 e.1 e.2.1 = (mapQ T q).2 e.1 e.2.1 := by rw [hM, if_neg (fun x => n3 x.symm), if_neg (fun x => n1 x.symm)]
          have e2 : putQ ((mapQ T q).1 + 1) d (mapQ T q).2 e.2.2 (e.2.1 ^^^ 1) = (mapQ T q).2 e.2.2 (e.2.1 ^^^ 1) := by rw [hM, if_neg (fun x => n4 x.symm), if_neg (fun x => n2 x.symm)]
          unfold NumOf
          show (_ ∧ putQ ((mapQ T q).1 + 1) d (mapQ T q).2 e.1 e.2.1 = none ∧ putQ ((mapQ T q).1 + 1) d (mapQ T q).2 e.2.2 (e.2.1 ^^^ 1) = none) ∨ (_ ∧ ∃ i : Nat, _ ∧ putQ ((mapQ T q).1 + 1) d (mapQ T q).2 e.1 e.2.1 = some _ ∧ putQ ((mapQ T q).1 + 1) d (mapQ T q).2 e.2.2 (e.2.1 ^^^ 1) = some _)
          rw [e1, e2]
          rcases hq.each e he with h1 | ⟨h1, i, h2, h3⟩
          · exact .inl h1
          · refine .inr ⟨h1, i, ?_, h3⟩
            rw [hw, List.getElem?_append_left (List.getElem?_eq_some_iff.1 h2).1]
            exact h2
        · rw [List.mem_singleton.1 he]
          refine .inr ⟨hs2, (wordsQ T Wf q).length, ?_, ?_, ?_⟩
          · rw [hw, List.getElem?_append_right (Nat.le_refl _)]; simp
          · show putQ ((mapQ T q).1 + 1) d (mapQ T q).2 d.1 d.2.1 = _
            rw [hM, if_neg hd12, if_pos rfl, hlen]
          · show putQ ((mapQ T q).1 + 1) d (mapQ T q).2 d.2.2 (d.2.1 ^^^ 1) = _
            rw [hM, if_pos rfl, hlen]
      · change putQ ((mapQ T q).1 + 1) d (mapQ T q).2 x y = some n at hn
        rw [hM] at hn
        split at hn
        · rename_i hxy
          refine ⟨d, by simp, (wordsQ T Wf q).length, by rw [hw]; simp, .inr ⟨hxy, ?_⟩⟩
          rw [← hlen]; exact (Option.some.inj hn).symm
        · split at hn
          · rename_i hxy
            refine ⟨d, by simp, (wordsQ T Wf q).length, by rw [hw]; simp, .inl ⟨hxy, ?_⟩⟩
            rw [← hlen]; exact (Option.some.inj hn).symm
          · obtain ⟨e, he, i, h1, h2⟩ := hq.only x y n hn
            exact ⟨e, by simp [he], i, by rw [hw]; simp; omega, h2⟩
      · rw [hw, List.length_append, List.length_singleton] at hi
        by_cases hi2 : i < (wordsQ T Wf q).length
        · obtain ⟨e, he, h1⟩ := hq.over i hi2
          obtain ⟨n1, n2, n3, n4⟩ := hnew e he
          refine ⟨e, by simp [he], ?_⟩
          show putQ ((mapQ T q).1 + 1) d (mapQ T q).2 e.1 e.2.1 = _
          rw [hM, if_neg (fun x => n3 x.symm), if_neg (fun x => n1 x.symm)]
          exact h1
        · refine ⟨d, by simp, ?_⟩
          show putQ ((mapQ T q).1 + 1) d (mapQ T q).2 d.1 d.2.1 = _
          rw [hM, if_neg hd12, if_pos rfl, hlen]
          congr 2; omega
      · change putQ ((mapQ T q).1 + 1) d (mapQ T q).2 e.1 e.2.1 = _ at h1
        change putQ ((mapQ T q).1 + 1) d (mapQ T q).2 f.1 f.2.1 = _ at h2
        rcases hold e he with ⟨a1, a2⟩ | ⟨a1, a2⟩
        · rcases hold f hf with ⟨b1, b2⟩ | ⟨b1, b2⟩
          · rw [a2] at h1; rw [b2] at h2
            exact hq.inj e a1 f b1 i h1 h2
          · rw [a2] at h1; rw [b2] at h2
            have := hless e a1 i h1
            have := Option.some.inj h2
            omega
        · rcases hold f hf with ⟨b1, b2⟩ | ⟨b1, b2⟩
          · rw [a2] at h1; rw [b2] at h2
            have := hless f b1 i h2
            have := Option.some.inj h1
            omega
          · rw [a1, b1]
def mapM (k : Nat) (g : List (List Int)) : Nat → Nat → Option Int := (mapQ (treeT k g) (edgesE k g)).2
/-- the number of an edge; 0 for those of the tree -/
def numQ (k : Nat) (g : List (List Int)) (v p : Nat) : Int := (mapM k g v p).getD 0
theorem nums_good {k : Nat} {g : List (List Int)} (hg : GoodG k g) : NumsE (treeT k g) (wayW k g) (edgesE k g) (mapM k g) :=
  nums_all hg _ _ _ _ rfl (fun _ he => (mem_edges hg).1 he) (edges_keys k g)
/-- what a number of an expression stands for -/
def genW (b : List (List UInt8)) (n : Int) : List UInt8 := if 0 < n then b.getD (n - 1).toNat [] else if n < 0 then invL (b.getD (-n - 1).toNat []) else []
def prodW (b : List (List UInt8)) (l : List Int) : List UInt8 := (l.map (genW b)).flatten
theorem prod_app (b : List (List UInt8)) (l m : List Int) : prodW b (l ++ m) = prodW b l ++ prodW b m := by unfold prodW; simp
theorem prod_one (b : List (List UInt8)) (n : Int) : prodW b [n] = genW b n := by unfold prodW; simp
theorem genW_pos {b : List (List UInt8)} {i : Nat} {x : List UInt8} (h : b[i]? = some x) : genW b ((i : Int) + 1) = x ∧ genW b (-((i : Int) + 1)) = invL x := by
  constructor
  · unfold genW
    rw [if_pos (by omega), show ((i : Int) + 1 - 1).toNat = i by omega, List.getD_eq_getElem?_getD, h]; rfl
  · unfold genW
    rw [if_neg (by omega), if_pos (by omega), show (-(-((i : Int) + 1)) - 1).toNat = i by omega, List.getD_eq_getElem?_getD, h]; rfl
/-- an edge of the tree leads on its ways -/
theorem skip_way {k : Nat} {g : List (List Int)} (hg : GoodG k g) {e : E3} (he : nxT g e.1 e.2.1 = some e.2.2) (hs : skipT (treeT k g) e = true) : Eqv (wayW k g e.1 ++ [letP e.2.1]) (wayW k g e.2.2) := by
  obtain ⟨h1, h2, h3⟩ := nxT_bounds hg he
  have hk4 := hg.k4
  unfold skipT at hs
  rw [Bool.or_eq_true, Bool.and_eq_true, Bool.and_eq_true] at hs
  rcases hs with ⟨a, b⟩ | ⟨a, b⟩
  · rw [way_step hg h3 (of_decide_eq_true a) (of_decide_eq_true b)]
    exact Eqv.refl _
  · rw [way_step hg h1 (of_decide_eq_true a) (of_decide_eq_true b), ← let_inv _ (by omega)]
    rw [List.append_assoc]
    have h4 : Eqv ([invB (letP e.2.1)] ++ [letP e.2.1]) [] := by
      have := redW_pair (invB (letP e.2.1))
      rw [inv_inv] at this
      exact this
    have := Eqv.left (wayW k g e.2.2) h4
    rw [List.append_nil] at this
    exact this
/-- numbers as an expression -/
def nzL (n : Int) : List Int := if n = 0 then [] else [n]
theorem numQ_some {k : Nat} {g : List (List Int)} {v p : Nat} {n : Int} (h : mapM k g v p = some n) : numQ k g v p = n := by unfold numQ; rw [h]; rfl
theorem numQ_none {k : Nat} {g : List (List Int)} {v p : Nat} (h : mapM k g v p = none) : numQ k g v p = 0 := by unfold numQ; rw [h]; rfl
/-- what an edge's number stands for, and that of the way back -/
theorem edge_num {k : Nat} {g : List (List Int)} (hg : GoodG k g) {v p u : Nat} (h : nxT g v p = some u) :
    numQ k g u (p ^^^ 1) = - numQ k g v p ∧ Eqv (prodW (basisW k g) (nzL (numQ k g v p))) (wayW k g v ++ [letP p] ++ invL (wayW k g u)) := by
  have hN := nums_good hg
  have hk4 := hg.k4
  have main : ∀ {v p u : Nat}, nxT g v p = some u → p % 2 = 0 → numQ k g u (p ^^^ 1) = - numQ k g v p ∧ Eqv (prodW (basisW k g) (nzL (numQ k g v p))) (wayW k g v ++ [letP p] ++ invL (wayW k g u)) ∧ Eqv (prodW (basisW k g) (nzL (- numQ k g v p))) (wayW k g u ++ [letP (p ^^^ 1)] ++ invL (wayW k g v)) := by
    intro v p u h hp
    obtain ⟨b1, b2, b3⟩ := nxT_bounds hg h
    have hinv : invL (wayW k g v ++ [letP p] ++ invL (wayW k g u)) = wayW k g u ++ [letP (p ^^^ 1)] ++ invL (wayW k g v) := by
      rw [invL_app, invL_app, invL_inv, ← let_inv p (by omega)]
      show _ ++ ([invB (letP p)] ++ _) = _
      simp
    rcases hN.each (v, p, u) ((mem_edges hg).2 ⟨h, hp⟩) with ⟨h1, h2, h3⟩ | ⟨h1, i, h2, h3, h4⟩
    · have e1 := numQ_none h2
      have e2 := numQ_none h3
      dsimp only at e1 e2
      have hw := skip_way hg (e := (v, p, u)) h h1
      dsimp only at hw
      have e3 : Eqv [] (wayW k g v ++ [letP p] ++ invL (wayW k g u)) := ((hw.right (invL (wayW k g u))).trans (Eqv.inv_right _)).symm
      rw [e1, e2]
      refine ⟨rfl, e3, ?_⟩
      rw [← hinv]
      exact e3.inv
    · have e1 := numQ_some h3
      have e2 := numQ_some h4
      dsimp only at e1 e2
      rw [e1, e2]
      have hb : (basisW k g)[i]? = some (wordQ (wayW k g) (v, p, u)) := h2
      have hw : Eqv (wordQ (wayW k g) (v, p, u)) (wayW k g v ++ [letP p] ++ invL (wayW k g u)) := Eqv.red _
      obtain ⟨g1, g2⟩ := genW_pos hb
      refine ⟨rfl, ?_, ?_⟩
      · unfold nzL; rw [if_neg (by omega), prod_one, g1]; exact hw
      · unfold nzL; rw [if_neg (by omega), prod_one, g2, ← hinv]; exact hw.inv
  obtain ⟨b1, b2, b3⟩ := nxT_bounds hg h
  rcases Nat.mod_two_eq_zero_or_one p with hp | hp
  · obtain ⟨m1, m2, -⟩ := main h hp
    exact ⟨m1, m2⟩
  · have h2 := hg.sym v p u b2 h
    obtain ⟨m1, -, m3⟩ := main h2 (xor_even p (by omega) hp)
    rw [xor_xor p (by omega)] at m1 m3
    rw [m1, Int.neg_neg]
    exact ⟨rfl, m3⟩

/-! ### expressions -/
def exprQ (k : Nat) (g : List (List Int)) : Nat → List UInt8 → List Int
  | _, [] => []
  | v, c :: w => match nxT g v (placeB c) with
    | none => []
    | some u => nzL (numQ k g v (placeB c)) ++ exprQ k g u w
abbrev stG (k : Nat) (g : List (List Int)) : Nat → UInt8 → Option Nat := stepL k (nxT g)
theorem stG_some {k : Nat} {g : List (List Int)} {v u : Nat} {c : UInt8} (h : stG k g v c = some u) : letter c.toNat = true ∧ placeB c < 2 * k ∧ nxT g v (placeB c) = some u ∧ letP (placeB c) = c := by
  unfold stG stepL at h
  split at h
  · rename_i h1
    exact ⟨h1.1, h1.2, h, (let_place c h1.1).1⟩
  · cases h
theorem GoodG.foldd {k : Nat} {g : List (List Int)} (hg : GoodG k g) : Foldd (stG k g) := FoldP.foldd (by have := hg.k4; omega) hg.sym
theorem expr_cons {k : Nat} {g : List (List Int)} {v u : Nat} {c : UInt8} (h : stG k g v c = some u) (w : List UInt8) : exprQ k g v (c :: w) = nzL (numQ k g v (placeB c)) ++ exprQ k g u w := by
  rw [exprQ, (stG_some h).2.2.1]
theorem run_cons {k : Nat} {g : List (List Int)} {v x : Nat} {c : UInt8} {w : List UInt8} (h : runS (stG k g) v (c :: w) = some x) : ∃ u, stG k g v c = some u ∧ runS (stG k g) u w = some x := by
  rw [runS] at h
  cases hs : stG k g v c with
  | none => rw [hs] at h; cases h
  | some u => rw [hs] at h; exact ⟨u, rfl, h⟩
theorem expr_app {k : Nat} {g : List (List Int)} : ∀ {a : List UInt8} {v u : Nat} (b : List UInt8), runS (stG k g) v a = some u → exprQ k g v (a ++ b) = exprQ k g v a ++ exprQ k g u b
  | [], v, u, b, h => by cases h; rfl
  | c :: a, v, u, b, h => by
    obtain ⟨x, h1, h2⟩ := run_cons h
    rw [List.cons_append, expr_cons h1, expr_cons h1, expr_app b h2, List.append_assoc]
/-- what is read on a way spells it -/
theorem expr_spells {k : Nat} {g : List (List Int)} (hg : GoodG k g) : ∀ {w : List UInt8} {v u : Nat}, runS (stG k g) v w = some u → Eqv (prodW (basisW k g) (exprQ k g v w)) (wayW k g v ++ w ++ invL (wayW k g u))
  | [], v, u, h => by
    cases h
    rw [List.append_nil]
    exact (Eqv.inv_right _).symm
  | c :: w, v, u, h => by
    obtain ⟨x, h1, h2⟩ := run_cons h
    obtain ⟨-, -, h3, h4⟩ := stG_some h1
    rw [expr_cons h1, prod_app]
    have e1 := (edge_num hg h3).2
    rw [h4] at e1
    refine (e1.app (expr_spells hg h2)).trans ?_
    have e2 : Eqv (invL (wayW k g x) ++ wayW k g x) [] := Eqv.inv_left _
    have e3 := (e2.left (wayW k g v ++ [c])).right (w ++ invL (wayW k g u))
    have e4 : wayW k g v ++ [c] ++ invL (wayW k g x) ++ (wayW k g x ++ w ++ invL (wayW k g u)) = wayW k g v ++ [c] ++ (invL (wayW k g x) ++ wayW k g x) ++ (w ++ invL (wayW k g u)) := by simp
    have e5 : wayW k g v ++ (c :: w) ++ invL (wayW k g u) = wayW k g v ++ [c] ++ [] ++ (w ++ invL (wayW k g u)) := by simp
    rw [e4, e5]
    exact e3
theorem expr_word {k : Nat} {g : List (List Int)} (hg : GoodG k g) {w : List UInt8} (h : runS (stG k g) 0 w = some 0) : Eqv (prodW (basisW k g) (exprQ k g 0 w)) w := by
  have := expr_spells hg h
  rw [way_zero, show invL [] = [] from rfl, List.append_nil] at this
  exact this
end Go.Proofs.Ytlooclpfoeakgaa

/- Expressions that are reduced: the theorem of Nielsen and Schreier. Plain laws. -/
namespace Go.Proofs.Ytlooclpfoeakgaa

/-! ### reduced expressions -/
def pushI (s : List Int) (x : Int) : List Int := match s with
  | [] => [x]
  | y :: t => if y = -x then t else x :: y :: t
/-- no number is next to its inverse -/
inductive RdI : List Int → Prop
  | nil : RdI []
  | one (x : Int) : RdI [x]
  | cons (x y : Int) (l : List Int) : x ≠ -y → RdI (y :: l) → RdI (x :: y :: l)
theorem RdI.tail {x : Int} {l : List Int} (h : RdI (x :: l)) : RdI l := by
  cases h with
  | one => exact .nil
  | cons _ _ _ _ h => exact h
theorem RdI.ne {x y : Int} {l : List Int} (h : RdI (x :: y :: l)) : x ≠ -y := by
  cases h with
  | cons _ _ _ h _ => exact h
theorem pushI_rd {s : List Int} (h : RdI s) (x : Int) : RdI (pushI s x) := by
  cases s with
  | nil => exact .one x
  | cons y t =>
    show RdI (if y = -x then t else x :: y :: t)
    split
    · exact h.tail
    · rename_i hn
      exact .cons x y t (by omega) h
theorem pushI_back {s : List Int} (h : RdI s) (x : Int) : pushI (pushI s x) (-x) = s := by
  cases s with
  | nil =>
    show (if x = - -x then [] else _) = _
    rw [if_pos (by omega)]
  | cons y t =>
    show pushI (if y = -x then t else x :: y :: t) (-x) = _
    split
    · rename_i hy
      cases t with
      | nil => rw [hy]; rfl
      | cons z r =>
        have := h.ne
        show (if z = - -x then r else -x :: z :: r) = _
        rw [if_neg (by omega), hy]
    · show (if x = - -x then y :: t else _) = _
      rw [if_pos (by omega)]
def foldI (s : List Int) (l : List Int) : List Int := l.foldl pushI s
theorem foldI_app (s l m : List Int) : foldI s (l ++ m) = foldI (foldI s l) m := List.foldl_append ..
theorem foldI_rd {s : List Int} (h : RdI s) : ∀ l, RdI (foldI s l)
  | [] => h
  | x :: l => foldI_rd (pushI_rd h x) l
theorem foldI_num {s : List Int} (h : RdI s) (n : Int) : foldI (foldI s (nzL n)) (nzL (-n)) = s := by
  unfold nzL
  by_cases h0 : n = 0
  · rw [if_pos h0, if_pos (by omega)]; rfl
  · rw [if_neg h0, if_neg (by omega)]
    exact pushI_back h n
/-- a reduced expression is its own -/
theorem foldI_self : ∀ {l s : List Int}, RdI l → (∀ y t x r, s = y :: t → l = x :: r → y ≠ -x) → foldI s l = l.reverse ++ s
  | [], s, _, _ => by simp [foldI]
  | x :: l, s, h, hs => by
    have hp : pushI s x = x :: s := by
      cases s with
      | nil => rfl
      | cons y t =>
        show (if y = -x then t else x :: y :: t) = _
        rw [if_neg (hs y t x l rfl rfl)]
    show foldI (pushI s x) l = _
    rw [hp, foldI_self h.tail (fun y t z r e1 e2 => by
      cases e1; subst e2
      exact h.ne)]
    simp
theorem foldI_rd_self {l : List Int} (h : RdI l) : foldI [] l = l.reverse := by
  rw [foldI_self h (fun y t x r e => by cases e), List.append_nil]

/-! ### what is read does not depend on what falls -/
theorem run_num {k : Nat} {g : List (List Int)} (hg : GoodG k g) {v u : Nat} {c : UInt8} (h : stG k g v c = some u) : stG k g u (invB c) = some v ∧ numQ k g u (placeB (invB c)) = - numQ k g v (placeB c) := by
  obtain ⟨h1, h2, h3, h4⟩ := stG_some h
  refine ⟨hg.foldd v c u h, ?_⟩
  rw [place_inv c h1]
  exact (edge_num hg h3).1
theorem expr_one {k : Nat} {g : List (List Int)} {v u : Nat} {c : UInt8} (h : stG k g v c = some u) : exprQ k g v [c] = nzL (numQ k g v (placeB c)) := by
  rw [expr_cons h]; simp [exprQ]
theorem fold_put {k : Nat} {g : List (List Int)} (hg : GoodG k g) {s : List Int} (hs : RdI s) {v u : Nat} {l : List UInt8} {c : UInt8} (h : runS (stG k g) v (l ++ [c]) = some u) :
    foldI s (exprQ k g v (putL l c)) = foldI s (exprQ k g v (l ++ [c])) := by
  rcases putL_cases l c with ⟨m, rfl, e⟩ | ⟨rfl, e⟩ | ⟨m, x, rfl, -, e⟩
  · rw [e]
    rw [List.append_assoc] at h ⊢
    obtain ⟨x, h1, h2⟩ := run_split h
    rw [expr_app _ h1, foldI_app]
    obtain ⟨y, h3, h4⟩ := run_cons (by exact h2)
    obtain ⟨z, h5, h6⟩ := run_cons h4
    have hn := run_num hg h3
    rw [inv_inv] at hn
    obtain rfl : z = x := by
      have := hn.1.symm.trans h5
      exact (Option.some.inj this).symm
    show _ = foldI _ (exprQ k g z (invB c :: [c]))
    rw [expr_cons h3, expr_one h5, foldI_app, hn.2, foldI_num (foldI_rd hs _)]
  · rw [e]; rfl
  · rw [e]; simp
theorem fold_red {k : Nat} {g : List (List Int)} (hg : GoodG k g) {s : List Int} (hs : RdI s) : ∀ (n : Nat) {l : List UInt8} {v u : Nat}, l.length = n → runS (stG k g) v l = some u → foldI s (exprQ k g v (redW l)) = foldI s (exprQ k g v l) := by
  intro n
  induction n with
  | zero =>
    intro l v u h _
    obtain rfl := List.eq_nil_of_length_eq_zero h
    rfl
  | succ n ih =>
    intro l v u h hr
    rcases List.eq_nil_or_concat l with rfl | ⟨m, c, rfl⟩
    · simp at h
    rw [List.concat_eq_append] at *
    obtain ⟨x, h1, h2⟩ := run_split hr
    have h3 := run_red hg.foldd h1
    rw [redW_snoc, fold_put hg hs (run_app_some h3 h2), expr_app _ h3, foldI_app, ih (by simp at h; omega) h1, ← foldI_app, ← expr_app _ h1]
theorem fold_eqv {k : Nat} {g : List (List Int)} (hg : GoodG k g) {s : List Int} (hs : RdI s) {a b : List UInt8} {v u x : Nat} (ha : runS (stG k g) v a = some u) (hb : runS (stG k g) v b = some x) (h : Eqv a b) : foldI s (exprQ k g v a) = foldI s (exprQ k g v b) := by
  rw [← fold_red hg hs _ rfl ha, ← fold_red hg hs _ rfl hb, show redW a = redW b from h]

/-! ### what a reduced word reads is reduced -/
theorem expr_head {k : Nat} {g : List (List Int)} : ∀ {w : List UInt8} {v u : Nat} {x : Int} {r : List Int}, runS (stG k g) v w = some u → exprQ k g v w = x :: r → ∃ t c w' y z, w = t ++ c :: w' ∧ runS (stG k g) v t = some y ∧ exprQ k g v t = [] ∧ stG k g y c = some z ∧ numQ k g y (placeB c) = x
  | [], v, u, x, r, _, h => by cases h
  | c :: w, v, u, x, r, h1, h2 => by
    obtain ⟨y, h3, h4⟩ := run_cons h1
    rw [expr_cons h3] at h2
    by_cases h0 : numQ k g v (placeB c) = 0
    · unfold nzL at h2
      rw [if_pos h0, List.nil_append] at h2
      obtain ⟨t, d, w', p, q, rfl, e1, e2, e3, e4⟩ := expr_head h4 h2
      refine ⟨c :: t, d, w', p, q, rfl, ?_, ?_, e3, e4⟩
      · rw [runS, h3]; exact e1
      · rw [expr_cons h3, e2]; unfold nzL; rw [if_pos h0]; rfl
    · unfold nzL at h2
      rw [if_neg h0] at h2
      refine ⟨[], c, w, v, y, rfl, rfl, rfl, h3, ?_⟩
      exact (List.cons.inj h2).1
/-- a number stands at one place alone -/
theorem num_inj {k : Nat} {g : List (List Int)} (hg : GoodG k g) {v p v2 p2 : Nat} (h : numQ k g v p = numQ k g v2 p2) (h0 : numQ k g v p ≠ 0) : (v, p) = (v2, p2) := by
  have hN := nums_good hg
  have hk4 := hg.k4
  have hM : ∀ {v p : Nat}, numQ k g v p ≠ 0 → mapM k g v p = some (numQ k g v p) := by
    intro v p h
    unfold numQ at *
    cases hm : mapM k g v p with
    | none => rw [hm] at h; exact absurd rfl h
    | some n => rfl
  have hpos : ∀ {e : E3} {i : Nat}, e ∈ edgesE k g → mapM k g e.2.2 (e.2.1 ^^^ 1) = some (-((i : Int) + 1)) → mapM k g e.1 e.2.1 = some ((i : Int) + 1) := by
    intro e i he h1
    rcases hN.each e he with ⟨-, -, a⟩ | ⟨-, j, -, b, c⟩
    · rw [h1] at a; cases a
    · rw [h1] at c
      have := Option.some.inj c
      rw [b]; congr 1; omega
  have m1 := hM h0
  have m2 := hM (by rw [← h]; exact h0)
  rw [← h] at m2
  obtain ⟨e, he, i, -, h1⟩ := hN.only _ _ _ m1
  obtain ⟨f, hf, j, -, h2⟩ := hN.only _ _ _ m2
  rcases h1 with ⟨e1, e2⟩ | ⟨e1, e2⟩
  · rcases h2 with ⟨f1, f2⟩ | ⟨f1, f2⟩
    · obtain rfl : j = i := by omega
      cases e1; cases f1
      rw [hN.inj e he f hf j (by rw [m1, e2]) (by rw [m2, f2])]
    · omega
  · rcases h2 with ⟨f1, f2⟩ | ⟨f1, f2⟩
    · omega
    · obtain rfl : j = i := by omega
      cases e1; cases f1
      rw [hN.inj e he f hf j (hpos he (by rw [m1, e2])) (hpos hf (by rw [m2, f2]))]
/-- a way of tree edges alone from a vertex to itself falls -/
theorem tree_round {k : Nat} {g : List (List Int)} (hg : GoodG k g) {t : List UInt8} {v : Nat} (ht : Rd t) (h : runS (stG k g) v t = some v) (he : exprQ k g v t = []) : t = [] := by
  have h1 := expr_spells hg h
  rw [he] at h1
  have h2 : Eqv [] (wayW k g v ++ t ++ invL (wayW k g v)) := h1
  have h3 := (h2.left (invL (wayW k g v))).right (wayW k g v)
  rw [List.append_nil] at h3
  have h4 : Eqv (invL (wayW k g v) ++ (wayW k g v ++ t ++ invL (wayW k g v)) ++ wayW k g v) t := by
    have a := (Eqv.inv_left (wayW k g v)).right (t ++ (invL (wayW k g v) ++ wayW k g v))
    have b := (Eqv.inv_left (wayW k g v)).left t
    rw [List.append_nil] at b
    have e1 : invL (wayW k g v) ++ (wayW k g v ++ t ++ invL (wayW k g v)) ++ wayW k g v = invL (wayW k g v) ++ wayW k g v ++ (t ++ (invL (wayW k g v) ++ wayW k g v)) := by simp
    rw [e1]
    exact a.trans b
  have h5 : Eqv t [] := (h3.trans h4).symm.trans (Eqv.inv_left _)
  exact h5.of_rd ht .nil
theorem expr_rd {k : Nat} {g : List (List Int)} (hg : GoodG k g) : ∀ {w : List UInt8} {v u : Nat}, Rd w → runS (stG k g) v w = some u → RdI (exprQ k g v w)
  | [], _, _, _, _ => .nil
  | c :: w, v, u, hw, h => by
    obtain ⟨x, h1, h2⟩ := run_cons h
    have ih := expr_rd hg hw.tail h2
    rw [expr_cons h1]
    by_cases h0 : numQ k g v (placeB c) = 0
    · unfold nzL; rw [if_pos h0]; exact ih
    · unfold nzL; rw [if_neg h0]
      cases hr : exprQ k g x w with
      | nil => exact .one _
      | cons y r =>
        rw [hr] at ih
        refine .cons _ _ _ (fun hxy => ?_) ih
        obtain ⟨t, d, w', p, q, rfl, e1, e2, e3, e4⟩ := expr_head h2 hr
        obtain ⟨f1, f2⟩ := run_num hg h1
        have f3 : numQ k g x (placeB (invB c)) = numQ k g p (placeB d) := by rw [f2, e4, hxy]; omega
        have f4 := num_inj hg f3 (by rw [f2]; omega)
        obtain ⟨f5, f6⟩ := Prod.mk.inj f4
        subst f5
        have f7 : d = invB c := by
          rw [← (stG_some e3).2.2.2, ← f6, (stG_some f1).2.2.2]
        have f8 := tree_round hg hw.tail.app_left e1 e2
        subst f8
        rw [f7] at hw
        exact hw.ne (by rw [inv_inv])
/-- THE THEOREM OF NIELSEN AND SCHREIER: what a reduced expression spells is expressed by it -/
theorem expr_free {k : Nat} {g : List (List Int)} (hg : GoodG k g) {l : List Int} (hl : RdI l) (hn : ∀ x ∈ l, x ≠ 0 ∧ x.natAbs ≤ (basisW k g).length) :
    runS (stG k g) 0 (redW (prodW (basisW k g) l)) = some 0 ∧ exprQ k g 0 (redW (prodW (basisW k g) l)) = l := by
  have hN := nums_good hg
  have hk4 := hg.k4
  -- to a vertex by the tree
  have hway : ∀ v, v < g.length → runS (stG k g) 0 (wayW k g v) = some v ∧ exprQ k g 0 (wayW k g v) = [] := by
    intro v
    induction v using Nat.strongRecOn with
    | ind v ih =>
      intro hv
      by_cases h0 : v = 0
      · subst h0; rw [way_zero]; exact ⟨rfl, rfl⟩
      · obtain ⟨f, p, h1, h2, h3, h4, -⟩ := tree_first hg hv h0
        obtain ⟨i1, i2⟩ := ih f h2 (by omega)
        rw [way_step hg hv h0 h1]
        have hst : stG k g f (letP p) = some v := by unfold stG; rw [stepL_place (by omega) _ _ h3]; exact h4
        refine ⟨run_app_some i1 (by rw [run_one]; exact hst), ?_⟩
        rw [expr_app _ i1, i2, expr_one hst, place_let p (by omega)]
        have : numQ k g f p = 0 := by
          have hs : ∀ {v p u : Nat}, nxT g v p = some u → p % 2 = 0 → skipT (treeT k g) (v, p, u) = true → numQ k g v p = 0 ∧ numQ k g u (p ^^^ 1) = 0 := by
            intro v p u a b c
            rcases hN.each (v, p, u) ((mem_edges hg).2 ⟨a, b⟩) with ⟨-, d1, d2⟩ | ⟨d1, -⟩
            · exact ⟨numQ_none d1, numQ_none d2⟩
            · rw [c] at d1; cases d1
          rcases Nat.mod_two_eq_zero_or_one p with hp | hp
          · refine (hs h4 hp ?_).1
            unfold skipT
            rw [Bool.or_eq_true, Bool.and_eq_true]
            exact .inl ⟨decide_eq_true h0, decide_eq_true h1⟩
          · have h5 := hg.sym f p v h3 h4
            have := (hs h5 (xor_even p (by omega) hp) (by
              unfold skipT
              rw [Bool.or_eq_true, Bool.and_eq_true, Bool.and_eq_true]
              refine .inr ⟨decide_eq_true h0, decide_eq_true ?_⟩
              show treeT k g v = (f, p ^^^ 1 ^^^ 1)
              rw [xor_xor p (by omega)]; exact h1)).2
            rwa [xor_xor p (by omega)] at this
        rw [this]; rfl
  -- what an inverse way reads
  have hback : ∀ v, v < g.length → runS (stG k g) v (invL (wayW k g v)) = some 0 ∧ exprQ k g v (invL (wayW k g v)) = [] := by
    intro v hv
    obtain ⟨h1, h2⟩ := hway v hv
    refine ⟨run_inv hg.foldd h1, ?_⟩
    have h3 := expr_spells hg h1
    have hz : ∀ {w : List UInt8} {v u : Nat}, runS (stG k g) v w = some u → exprQ k g v w = [] → exprQ k g u (invL w) = [] := by
      intro w
      induction w with
      | nil => intro v u _ _; rfl
      | cons c w ih =>
        intro v u a b
        obtain ⟨x, a1, a2⟩ := run_cons a
        rw [expr_cons a1] at b
        obtain ⟨b1, b2⟩ := List.append_eq_nil_iff.1 b
        rw [invL_cons, expr_app _ (run_inv hg.foldd a2), ih a2 b2]
        obtain ⟨c1, c2⟩ := run_num hg a1
        rw [expr_one c1, c2]
        unfold nzL at b1 ⊢
        split at b1
        · rw [if_pos (by omega)]; rfl
        · cases b1
    exact hz h1 h2
  -- one number
  have hone : ∀ x : Int, x ≠ 0 → x.natAbs ≤ (basisW k g).length → ∃ w, Eqv w (genW (basisW k g) x) ∧ runS (stG k g) 0 w = some 0 ∧ exprQ k g 0 w = [x] := by
    have hedge : ∀ {v p u : Nat}, nxT g v p = some u → numQ k g v p ≠ 0 → ∃ w, Eqv w (genW (basisW k g) (numQ k g v p)) ∧ runS (stG k g) 0 w = some 0 ∧ exprQ k g 0 w = [numQ k g v p] := by
      intro v p u h h0
      obtain ⟨b1, b2, b3⟩ := nxT_bounds hg h
      have hst : stG k g v (letP p) = some u := by unfold stG; rw [stepL_place (by omega) _ _ b2]; exact h
      have e1 := (edge_num hg h).2
      unfold nzL at e1
      rw [if_neg h0, prod_one] at e1
      refine ⟨wayW k g v ++ [letP p] ++ invL (wayW k g u), e1.symm, ?_, ?_⟩
      · exact run_app_some (run_app_some (hway v b1).1 (by rw [run_one]; exact hst)) (hback u b3).1
      · rw [expr_app _ (run_app_some (hway v b1).1 (by rw [run_one]; exact hst)), expr_app _ (hway v b1).1, (hway v b1).2, (hback u b3).2, expr_one hst, place_let p (by omega)]
        unfold nzL; rw [if_neg h0]; rfl
    intro x h0 hx
    obtain ⟨e, he, h1⟩ := hN.over (x.natAbs - 1) (by show _ < (basisW k g).length; omega)
    obtain ⟨h2, h3⟩ := (mem_edges hg).1 he
    have h4 := numQ_some h1
    by_cases hp : 0 < x
    · have h5 : numQ k g e.1 e.2.1 = x := by rw [h4]; omega
      have := hedge h2 (by rw [h5]; exact h0)
      rwa [h5] at this
    · have h5 : numQ k g e.2.2 (e.2.1 ^^^ 1) = x := by rw [(edge_num hg h2).1, h4]; omega
      have := hedge (hg.sym _ _ _ (nxT_bounds hg h2).2.1 h2) (by rw [h5]; exact h0)
      rwa [h5] at this
  -- all
  have hall : ∀ l : List Int, (∀ x ∈ l, x ≠ 0 ∧ x.natAbs ≤ (basisW k g).length) → ∃ w, Eqv w (prodW (basisW k g) l) ∧ runS (stG k g) 0 w = some 0 ∧ exprQ k g 0 w = l := by
    intro l
    induction l with
    | nil => intro _; exact ⟨[], Eqv.refl _, rfl, rfl⟩
    | cons x l ih =>
      intro h
      obtain ⟨w, e1, e2, e3⟩ := ih (fun y hy => h y (by simp [hy]))
      obtain ⟨z, f1, f2, f3⟩ := hone x (h x (by simp)).1 (h x (by simp)).2
      refine ⟨z ++ w, ?_, run_app_some f2 e2, by rw [expr_app _ f2, f3, e3]; rfl⟩
      show Eqv _ (prodW _ ([x] ++ l))
      rw [prod_app, prod_one]
      exact f1.app e1
  obtain ⟨w, e1, e2, e3⟩ := hall l hn
  have hred : redW (prodW (basisW k g) l) = redW w := Eq.symm e1
  have hrun := run_red hg.foldd e2
  rw [hred]
  refine ⟨hrun, ?_⟩
  have h1 := fold_red hg RdI.nil _ rfl e2
  rw [e3, foldI_rd_self hl, foldI_rd_self (expr_rd hg (redW_rd w) hrun)] at h1
  have := congrArg List.reverse h1
  rwa [List.reverse_reverse, List.reverse_reverse] at this
end Go.Proofs.Ytlooclpfoeakgaa

/- How many words a basis has, and when a graph is whole. Plain laws. -/
namespace Go.Proofs.Ytlooclpfoeakgaa

theorem nodup_map_on {α β : Type} {f : α → β} : ∀ {l : List α}, l.Nodup → (∀ x ∈ l, ∀ y ∈ l, f x = f y → x = y) → (l.map f).Nodup
  | [], _, _ => .nil
  | a :: l, h, hf => by
    rw [List.nodup_cons] at h
    rw [List.map_cons, List.nodup_cons]
    refine ⟨fun hm => ?_, nodup_map_on h.2 (fun x hx y hy => hf x (by simp [hx]) y (by simp [hy]))⟩
    obtain ⟨y, hy, e⟩ := List.mem_map.1 hm
    have := hf y (by simp [hy]) a (by simp) e
    subst this
    exact h.1 hy
theorem nodup_same {α : Type} {l m : List α} (hl : l.Nodup) (hm : m.Nodup) (h : ∀ x, x ∈ l ↔ x ∈ m) : l.length = m.length :=
  ((List.perm_ext_iff_of_nodup hl hm).2 h).length_eq
/-- the tree edge by which a vertex was first met -/
def treeE (T : Nat → Nat × Nat) (v : Nat) : E3 := if (T v).2 % 2 = 0 then ((T v).1, (T v).2, v) else (v, (T v).2 ^^^ 1, (T v).1)
theorem edges_nodup (k : Nat) (g : List (List Int)) : (edgesE k g).Nodup :=
  (edges_keys k g).imp fun h e => h (by rw [e])
theorem words_count {k : Nat} {g : List (List Int)} (hg : GoodG k g) : (basisW k g).length + g.length = (edgesE k g).length + 1 := by
  have hk4 := hg.k4
  have hn1 := hg.n1
  have h1 : ((edgesE k g).filter fun e => skipT (treeT k g) e).length = g.length - 1 := by
    have hL : ((List.range' 1 (g.length - 1)).map (treeE (treeT k g))).length = g.length - 1 := by simp
    rw [← hL]
    have hT : ∀ v, 1 ≤ v → v < g.length → ∃ f p, treeT k g v = (f, p) ∧ f < v ∧ p < 2 * k ∧ nxT g f p = some v := fun v h1 h2 => by
      obtain ⟨f, p, a, b, c, d, -⟩ := tree_first hg h2 (by omega)
      exact ⟨f, p, a, b, c, d⟩
    refine nodup_same ((edges_nodup k g).filter _) (nodup_map_on List.nodup_range' ?_) (fun e => ?_)
    · intro x hx y hy e
      rw [List.mem_range'_1] at hx hy
      obtain ⟨f, p, a1, a2, a3, a4⟩ := hT x (by omega) (by omega)
      obtain ⟨f2, p2, b1, b2, b3, b4⟩ := hT y (by omega) (by omega)
      unfold treeE at e
      rw [a1, b1] at e
      dsimp only at e
      split at e
      · split at e
        · simp only [Prod.mk.injEq] at e; exact e.2.2
        · simp only [Prod.mk.injEq] at e; omega
      · split at e
        · simp only [Prod.mk.injEq] at e; omega
        · simp only [Prod.mk.injEq] at e; exact e.1
    · rw [List.mem_filter, List.mem_map]
      constructor
      · rintro ⟨h1, h2⟩
        obtain ⟨v, p, u⟩ := e
        obtain ⟨h3, h4⟩ := (mem_edges hg).1 h1
        obtain ⟨b1, b2, b3⟩ := nxT_bounds hg h3
        unfold skipT at h2
        rw [Bool.or_eq_true, Bool.and_eq_true, Bool.and_eq_true] at h2
        rcases h2 with ⟨c1, c2⟩ | ⟨c1, c2⟩
        · have c1 := of_decide_eq_true c1
          have c2 := of_decide_eq_true c2
          dsimp only at c1 c2
          refine ⟨u, by rw [List.mem_range'_1]; omega, ?_⟩
          unfold treeE
          rw [c2]
          dsimp only
          rw [if_pos h4]
        · have c1 := of_decide_eq_true c1
          have c2 := of_decide_eq_true c2
          dsimp only at c1 c2
          refine ⟨v, by rw [List.mem_range'_1]; omega, ?_⟩
          unfold treeE
          rw [c2]
          dsimp only
          have := xor_odd p (by omega) h4
          rw [if_neg (by omega), xor_xor p (by omega)]
      · rintro ⟨v, h1, rfl⟩
        rw [List.mem_range'_1] at h1
        obtain ⟨f, p, a1, a2, a3, a4⟩ := hT v (by omega) (by omega)
        unfold treeE
        rw [a1]
        dsimp only
        split
        · rename_i hp
          refine ⟨(mem_edges hg).2 ⟨a4, hp⟩, ?_⟩
          unfold skipT
          rw [Bool.or_eq_true, Bool.and_eq_true]
          exact .inl ⟨decide_eq_true (by show v ≠ 0; omega), decide_eq_true a1⟩
        · rename_i hp
          have h5 := hg.sym f p v a3 a4
          refine ⟨(mem_edges hg).2 ⟨h5, xor_even p (by omega) (by omega)⟩, ?_⟩
          unfold skipT
          rw [Bool.or_eq_true, Bool.and_eq_true, Bool.and_eq_true]
          refine .inr ⟨decide_eq_true (by show v ≠ 0; omega), decide_eq_true ?_⟩
          dsimp only
          rw [a1, xor_xor p (by omega)]
  have h2 : (basisW k g).length = ((edgesE k g).filter fun e => !skipT (treeT k g) e).length := by
    unfold basisW wordsQ
    rw [List.length_map]
  have h3 : ∀ l : List E3, (l.filter fun e => skipT (treeT k g) e).length + (l.filter fun e => !skipT (treeT k g) e).length = l.length := by
    intro l
    induction l with
    | nil => rfl
    | cons a l ih =>
      rw [List.filter_cons, List.filter_cons, List.length_cons]
      cases skipT (treeT k g) a <;> simp <;> omega
  have := h3 (edgesE k g)
  omega

/-! ### whole graphs -/
theorem flat_full {α : Type} (m : Nat) (f : Nat → List α) : ∀ n : Nat, (∀ i, i < n → (f i).length ≤ m) → ((List.range n).flatMap f).length ≤ n * m ∧ (((List.range n).flatMap f).length = n * m ↔ ∀ i, i < n → (f i).length = m)
  | 0, _ => by simp
  | n + 1, h => by
    obtain ⟨h1, h2⟩ := flat_full m f n (fun i hi => h i (by omega))
    have h3 := h n (by omega)
    have h4 : ((List.range (n + 1)).flatMap f).length = ((List.range n).flatMap f).length + (f n).length := by
      rw [List.range_succ, List.flatMap_append, List.length_append]; simp
    rw [h4, Nat.succ_mul]
    refine ⟨by omega, fun h5 i hi => ?_, fun h5 => ?_⟩
    · by_cases e : i = n
      · subst e; omega
      · exact h2.1 (by omega) i (by omega)
    · have := h2.2 (fun i hi => h5 i (by omega))
      have := h5 n (by omega)
      omega
def Full (k : Nat) (g : List (List Int)) : Prop := ∀ v p, v < g.length → p < 2 * k → nxT g v p ≠ none
theorem whole_full {k : Nat} {g : List (List Int)} (hg : GoodG k g) : wholeG g = true ↔ Full k g := by
  unfold wholeG
  rw [Bool.not_eq_true', decide_eq_false_iff_not]
  constructor
  · intro h v p hv hp hn
    obtain ⟨r, hr⟩ : ∃ r, g[v]? = some r := ⟨_, List.getElem?_eq_getElem hv⟩
    have h1 := hg.row r (List.mem_of_getElem? hr)
    obtain ⟨x, hx⟩ : ∃ x, r[p]? = some x := ⟨_, List.getElem?_eq_getElem (by omega)⟩
    have h2 := h1.2 x (List.mem_of_getElem? hx)
    unfold nxT atG at hn
    rw [hr] at hn
    change (r[p]?).bind natI = none at hn
    rw [hx] at hn
    change natI x = none at hn
    unfold natI at hn
    split at hn
    · cases hn
    · exact h ⟨r, List.mem_of_getElem? hr, by
        have : x = -1 := by omega
        rw [← this]; exact List.mem_of_getElem? hx⟩
  · rintro h ⟨r, hr, hx⟩
    obtain ⟨v, hv, e⟩ := List.getElem_of_mem hr
    obtain ⟨p, hp, e2⟩ := List.getElem_of_mem hx
    have h1 := hg.row r hr
    refine h v p hv (by omega) ?_
    unfold nxT atG
    rw [List.getElem?_eq_getElem hv, e]
    change (r[p]?).bind natI = none
    rw [List.getElem?_eq_getElem hp, e2]
    rfl
theorem edgeAt_one {g : List (List Int)} {v p : Nat} : (edgeAt g v p).length = 1 ↔ nxT g v p ≠ none := by
  unfold edgeAt
  cases nxT g v p <;> simp
/-- as many edges as there may be: just if the graph is whole -/
theorem full_count {k : Nat} {g : List (List Int)} (hg : GoodG k g) : (edgesE k g).length = g.length * k ↔ Full k g := by
  have hk4 := hg.k4
  have inner : ∀ v, ((List.range k).flatMap fun p => edgeAt g v (2 * p)).length ≤ k ∧ (((List.range k).flatMap fun p => edgeAt g v (2 * p)).length = k ↔ ∀ p, p < k → nxT g v (2 * p) ≠ none) := by
    intro v
    have := flat_full 1 (fun p => edgeAt g v (2 * p)) k (fun p _ => edgeAt_len g v (2 * p))
    rw [Nat.mul_one] at this
    simp only [edgeAt_one] at this
    exact this
  have outer := flat_full k (fun v => (List.range k).flatMap fun p => edgeAt g v (2 * p)) g.length (fun v _ => (inner v).1)
  have hE : edgesE k g = (List.range g.length).flatMap fun v => (List.range k).flatMap fun p => edgeAt g v (2 * p) := by
    unfold edgesE edgesTo; simp
  rw [hE, outer.2]
  simp only [(inner _).2]
  constructor
  · intro h u p hu hp
    rcases Nat.mod_two_eq_zero_or_one p with he | he
    · have := h u hu (p / 2) (by omega)
      rwa [show 2 * (p / 2) = p by omega] at this
    · -- by an odd place: the letter permutes the vertices
      have hpe := xor_even p (by omega) he
      have hq2 : p ^^^ 1 < 2 * k := xor_one_lt k p (by omega) hp
      intro hn
      have hq : ∀ v, v < g.length → ∃ t, nxT g v (p ^^^ 1) = some t := fun v hv => by
        have := h v hv ((p ^^^ 1) / 2) (by omega)
        rw [show 2 * ((p ^^^ 1) / 2) = p ^^^ 1 by omega] at this
        cases ht : nxT g v (p ^^^ 1) with
        | none => exact absurd ht this
        | some t => exact ⟨t, rfl⟩
      have hinj : ((List.range g.length).map fun v => (nxT g v (p ^^^ 1)).getD 0).Nodup := by
        refine nodup_map_on List.nodup_range ?_
        intro x hx y hy e
        rw [List.mem_range] at hx hy
        obtain ⟨t, ht⟩ := hq x hx
        obtain ⟨s, hs⟩ := hq y hy
        rw [ht, hs] at e
        change t = s at e
        have h1 := hg.sym x _ t hq2 ht
        have h2 := hg.sym y _ s hq2 hs
        rw [e, h2] at h1
        exact (Option.some.inj h1).symm
      have hu2 : u ∉ ((List.range g.length).map fun v => (nxT g v (p ^^^ 1)).getD 0) := by
        intro hm
        obtain ⟨v, hv, e⟩ := List.mem_map.1 hm
        rw [List.mem_range] at hv
        obtain ⟨t, ht⟩ := hq v hv
        rw [ht] at e
        change t = u at e
        have h1 := hg.sym v _ t hq2 ht
        rw [e, xor_xor p (by omega), hn] at h1
        cases h1
      have := nodup_len (N := g.length) (List.nodup_cons.2 ⟨hu2, hinj⟩) (fun x hx => by
        rcases List.mem_cons.1 hx with rfl | hx
        · exact hu
        · obtain ⟨v, hv, e⟩ := List.mem_map.1 hx
          rw [List.mem_range] at hv
          obtain ⟨t, ht⟩ := hq v hv
          rw [ht] at e
          change t = x at e
          rw [← e]
          exact (nxT_bounds hg ht).2.2)
      simp at this
      omega
  · intro h v hv p hp
    exact h v (2 * p) hv (by omega)
theorem whole_count {k : Nat} {g : List (List Int)} (hg : GoodG k g) : wholeG g = true ↔ (edgesE k g).length = g.length * k := by
  rw [whole_full hg, full_count hg]
end Go.Proofs.Ytlooclpfoeakgaa

/- A graph has no more vertices than its words have letters, and one. Plain laws. -/
namespace Go.Proofs.Ytlooclpfoeakgaa

theorem nodup_sub {α : Type} : ∀ {l m : List α}, l.Nodup → (∀ x ∈ l, x ∈ m) → l.length ≤ m.length
  | [], m, _, _ => Nat.zero_le _
  | a :: l, m, h, hm => by
    rw [List.nodup_cons] at h
    obtain ⟨p, q, rfl⟩ := List.append_of_mem (hm a (by simp))
    have := nodup_sub (l := l) (m := p ++ q) h.2 (fun x hx => by
      have h1 := hm x (by simp [hx])
      rw [List.mem_append, List.mem_cons] at h1
      rw [List.mem_append]
      rcases h1 with h1 | rfl | h1
      · exact .inl h1
      · exact absurd hx h.1
      · exact .inr h1)
    simp at this ⊢
    omega
section
variable {V : Type} {s : V → UInt8 → Option V}
/-- what a way meets -/
def Met (s : V → UInt8 → Option V) (o : V) (l : List UInt8) (v : V) : Prop := ∃ i, runS s o (l.take i) = some v
theorem Met.app {o x : V} {a b : List UInt8} (ha : runS s o a = some x) {v : V} (h : Met s o (a ++ b) v) : Met s o a v ∨ Met s x b v := by
  obtain ⟨i, hi⟩ := h
  rcases Nat.lt_or_ge i a.length with q | q
  · left
    refine ⟨i, ?_⟩
    rwa [List.take_append_of_le_length (by omega)] at hi
  · right
    refine ⟨i - a.length, ?_⟩
    rw [List.take_append, List.take_of_length_le q] at hi
    obtain ⟨y, h1, h2⟩ := run_split hi
    rw [ha] at h1
    rw [Option.some.inj h1]; exact h2
theorem Met.left {o : V} {a : List UInt8} (b : List UInt8) {v : V} (h : Met s o a v) : Met s o (a ++ b) v := by
  obtain ⟨i, hi⟩ := h
  rcases Nat.lt_or_ge i a.length with q | q
  · exact ⟨i, by rwa [List.take_append_of_le_length (by omega)]⟩
  · refine ⟨a.length, ?_⟩
    rw [List.take_of_length_le q] at hi
    rw [List.take_left]; exact hi
theorem Met.all {o v : V} {a : List UInt8} (h : runS s o a = some v) : Met s o a v := ⟨a.length, by rw [List.take_length]; exact h⟩
theorem Met.start {o : V} {a : List UInt8} : Met s o a o := ⟨0, rfl⟩
/-- a reduced way meets nothing new -/
theorem met_red (hf : Foldd s) {o : V} : ∀ (n : Nat) {l : List UInt8} {x v : V}, l.length = n → runS s o l = some x → Met s o (redW l) v → Met s o l v := by
  intro n
  induction n with
  | zero =>
    intro l x v hl _ h
    obtain rfl := List.eq_nil_of_length_eq_zero hl
    exact h
  | succ n ih =>
    intro l x v hl hr h
    rcases List.eq_nil_or_concat l with rfl | ⟨m, c, rfl⟩
    · simp at hl
    rw [List.concat_eq_append] at *
    obtain ⟨y, h1, h2⟩ := run_split hr
    have ihm : ∀ v, Met s o (redW m) v → Met s o (m ++ [c]) v := fun v hv => (ih (by simp at hl; omega) h1 hv).left _
    have h3 := run_red hf h1
    rw [redW_snoc] at h
    rcases putL_cases (redW m) c with ⟨k, e1, e⟩ | ⟨e1, e⟩ | ⟨k, z, e1, -, e⟩
    · rw [e] at h
      exact ihm v (by rw [e1]; exact h.left _)
    · rw [e] at h
      have h4 : Met s o (redW m ++ [c]) v := by rw [e1]; exact h
      rcases h4.app h3 with h5 | h5
      · exact ihm v h5
      · obtain ⟨i, hi⟩ := h5
        cases i with
        | zero => cases hi; exact ihm _ (Met.all h3)
        | succ i =>
          rw [List.take_of_length_le (by simp)] at hi
          rw [h2] at hi
          cases hi
          exact Met.all hr
    · rw [e] at h
      have h4 : Met s o (redW m ++ [c]) v := by rw [e1]; simpa using h
      rcases h4.app h3 with h5 | h5
      · exact ihm v h5
      · obtain ⟨i, hi⟩ := h5
        cases i with
        | zero => cases hi; exact ihm _ (Met.all h3)
        | succ i =>
          rw [List.take_of_length_le (by simp)] at hi
          rw [h2] at hi
          cases hi
          exact Met.all hr
theorem met_inv (hf : Foldd s) {v : V} : ∀ {l : List UInt8} {o x : V}, runS s o l = some x → Met s x (invL l) v → Met s o l v
  | [], o, x, h, hm => by cases h; exact hm
  | c :: l, o, x, h, hm => by
    rw [runS] at h
    cases hc : s o c with
    | none => rw [hc] at h; cases h
    | some y =>
      rw [hc] at h
      change runS s y l = some x at h
      rw [invL_cons] at hm
      have hcons : ∀ u, Met s y l u → Met s o (c :: l) u := fun u hu => by
        obtain ⟨i, hi⟩ := hu
        refine ⟨i + 1, ?_⟩
        rw [List.take_succ_cons, runS, hc]; exact hi
      have h1 := run_inv hf h
      rcases hm.app h1 with h2 | h2
      · exact hcons v (met_inv hf h h2)
      · obtain ⟨i, hi⟩ := h2
        cases i with
        | zero => cases hi; exact hcons _ Met.start
        | succ i =>
          rw [List.take_of_length_le (by simp), run_one, hf o c y hc] at hi
          cases hi
          exact Met.start
/-- what a loop of the group meets is met by the words that make the group -/
theorem gen_met (hf : Foldd s) {o : V} {S : List UInt8 → Prop} (hS : ∀ a, S a → runS s o (redW a) = some o) {a : List UInt8} (h : Gen S a) : runS s o (redW a) = some o ∧ ∀ v, Met s o (redW a) v → v = o ∨ ∃ b, S b ∧ Met s o (redW b) v := by
  induction h with
  | nil =>
    refine ⟨rfl, ?_⟩
    rintro v ⟨i, hi⟩
    simp [redW, redL, runS] at hi
    exact .inl hi.symm
  | mul ha _ ih =>
    rename_i a w _
    have h1 := run_app_some (hS a ha) ih.1
    have e : redW (a ++ w) = redW (redW a ++ redW w) := by rw [redW_left, redW_right]
    rw [e]
    refine ⟨run_red hf h1, fun v hv => ?_⟩
    rcases (met_red hf _ rfl h1 hv).app (hS a ha) with h2 | h2
    · exact .inr ⟨a, ha, h2⟩
    · exact ih.2 v h2
  | inv ha _ ih =>
    rename_i a w _
    have h0 := run_inv hf (hS a ha)
    have h1 := run_app_some h0 ih.1
    have e : redW (invL a ++ w) = redW (invL (redW a) ++ redW w) := by rw [← redW_inv, redW_left, redW_right]
    rw [e]
    refine ⟨run_red hf h1, fun v hv => ?_⟩
    rcases (met_red hf _ rfl h1 hv).app h0 with h2 | h2
    · exact .inr ⟨a, ha, met_inv hf (hS a ha) h2⟩
    · exact ih.2 v h2
  | eqv e _ ih =>
    rw [← show redW _ = redW _ from e]
    exact ih
end
/-- all that words meet -/
def metL (s : Nat → UInt8 → Option Nat) (o : Nat) (ls : List (List UInt8)) : List Nat := o :: ls.flatMap fun l => (List.range (l.length - 1)).filterMap fun i => runS s o (l.take (i + 1))
theorem metL_len (s : Nat → UInt8 → Option Nat) (o : Nat) : ∀ (ls : List (List UInt8)) (M : Nat), (∀ l ∈ ls, l.length ≤ M + 1) → (metL s o ls).length ≤ ls.length * M + 1
  | [], _, _ => by simp [metL]
  | l :: ls, M, h => by
    have ih := metL_len s o ls M (fun x hx => h x (by simp [hx]))
    have h1 := h l (by simp)
    have h2 := List.length_filterMap_le (fun i => runS s o (l.take (i + 1))) (List.range (l.length - 1))
    rw [List.length_range] at h2
    unfold metL at ih ⊢
    rw [List.length_cons] at ih ⊢
    rw [List.flatMap_cons, List.length_append, List.length_cons, Nat.succ_mul]
    omega
theorem mem_metL {s : Nat → UInt8 → Option Nat} {o v : Nat} {ls : List (List UInt8)} {l : List UInt8} (hl : l ∈ ls) (hr : runS s o l = some o) (h : Met s o l v) : v ∈ metL s o ls := by
  obtain ⟨i, hi⟩ := h
  unfold metL
  rw [List.mem_cons]
  by_cases h0 : i = 0
  · subst h0; cases hi; exact .inl rfl
  · by_cases h1 : i < l.length
    · right
      refine List.mem_flatMap.2 ⟨l, hl, List.mem_filterMap.2 ⟨i - 1, List.mem_range.2 (by omega), ?_⟩⟩
      rw [show i - 1 + 1 = i by omega]; exact hi
    · left
      rw [List.take_of_length_le (by omega), hr] at hi
      exact (Option.some.inj hi).symm
/-- how many vertices the graph of words has: at most one, and for each word as many as it has letters, less one -/
theorem graph_small {k : Nat} (hk : k ≤ 26) {ss : List ByteArray} {g : List (List Int)} (h : IsGraph k (setS ss) g) {M : Nat} (hM : ∀ s ∈ ss, s.size ≤ M + 1) : g.length ≤ ss.length * M + 1 := by
  obtain ⟨nx, o, hG, ⟨ho, hN⟩, rfl⟩ := h
  have hf := hG.fold.foldd hk
  have hS : ∀ a, setS ss a → runS (stepL k nx) o (redW a) = some o := fun a ha => (hG.loops (redW a) (redW_rd a)).2 ((Gen.one ha).eqv (Eqv.symm (Eqv.red a)) |> fun x => x)
  have key : ∀ v, (∃ w, runS (stepL k nx) o w = some v) → v ∈ metL (stepL k nx) o (ss.map fun s => redW (bts s)) := by
    rintro v ⟨w, hw⟩
    have h1 := run_red hf hw
    obtain ⟨e, h2, h3⟩ := hG.core _ v (redW_rd w) h1
    have h4 := (hG.loops _ h2).1 h3
    have h5 := (gen_met hf hS h4).2 v
    rw [redW_self h2] at h5
    rcases h5 ((Met.all h1).left e) with rfl | ⟨b, ⟨s, hs, rfl⟩, hb⟩
    · unfold metL; simp
    · exact mem_metL (List.mem_map.2 ⟨s, hs, rfl⟩) (hS _ ⟨s, hs, rfl⟩) hb
  obtain ⟨t, a1, a2, a3, -⟩ := numN_all (nx := nx) (R := fun x => x < 5000 ∧ ∃ w, runS (stepL k nx) o w = some x) (ps := List.range (2 * k)) (N := 5000) (fun v p u hv hp hu => by
      obtain ⟨hv1, w, hw⟩ := hv
      refine ⟨(hN v p u hu).1, w ++ [letP p], run_app_some hw ?_⟩
      rw [run_one, stepL_place hk nx v (List.mem_range.1 hp)]
      exact hu) (fun v h => h.1) 5000 0 [o] [] (by omega) (by simp) (fun x hx => by rw [List.mem_singleton.1 hx]; exact ⟨ho, [], rfl⟩) rfl (by simp)
  rw [a3]
  refine Nat.le_trans (nodup_sub a1 (fun x hx => key x (a2 x hx).2)) ?_
  have := metL_len (stepL k nx) o (ss.map fun s => redW (bts s)) M (fun l hl => by
    obtain ⟨s, hs, rfl⟩ := List.mem_map.1 hl
    have h1 := redW_len (bts s)
    have h2 := hM s hs
    rw [bts_len] at h1
    omega)
  simpa using this
end Go.Proofs.Ytlooclpfoeakgaa

/- Words made of any strings; the graph that Fold makes of them. -/
namespace Go.Proofs.Ytlooclpfoeakgaa
open Go.RowKit

theorem letOf_ok {n : Nat} (h1 : 1 ≤ n) (h2 : n ≤ 26) (c : UInt8) : letter (letOf n c).toNat = true ∧ placeB (letOf n c) < 2 * n := by
  unfold letOf
  have hr : c.toNat % (2 * n) < 2 * n := Nat.mod_lt _ (by omega)
  obtain ⟨r, hR⟩ : ∃ r, c.toNat % (2 * n) = r := ⟨_, rfl⟩
  rw [hR] at hr ⊢
  split
  · have e : (UInt8.ofNat (97 + r)).toNat = 97 + r := by have := ofNat_nat (show 97 + r < 256 by omega); omega
    refine ⟨?_, ?_⟩
    · rw [e]; unfold letter; simp; omega
    · unfold placeB; rw [e, if_pos (by omega)]; omega
  · have e : (UInt8.ofNat (65 + (r - n))).toNat = 65 + (r - n) := by have := ofNat_nat (show 65 + (r - n) < 256 by omega); omega
    refine ⟨?_, ?_⟩
    · rw [e]; unfold letter; simp; omega
    · unfold placeB; rw [e, if_neg (by omega)]; omega
theorem text_ok {n : Nat} (h1 : 1 ≤ n) (h2 : n ≤ 26) (m : Nat) (l : List UInt8) : isWord (textL n m l) = true ∧ fitW n (textL n m l) = true ∧ (textL n m l).length ≤ m := by
  unfold textL
  refine ⟨?_, ?_, by rw [List.length_map, List.length_take]; omega⟩
  · unfold isWord
    rw [List.all_eq_true]
    intro x hx
    obtain ⟨c, -, rfl⟩ := List.mem_map.1 hx
    exact (letOf_ok h1 h2 c).1
  · unfold fitW
    rw [List.all_eq_true]
    intro x hx
    obtain ⟨c, -, rfl⟩ := List.mem_map.1 hx
    exact decide_eq_true (letOf_ok h1 h2 c).2
theorem wordErr_ok {s : ByteArray} (h : isWord (bts s) = true) (hs : s.size ≤ 30000) : wordErr s = 0 := by
  unfold wordErr
  rw [if_pos h, if_neg (by omega)]
theorem cwErr_ok {k : Nat} {s : ByteArray} (h : isWord (bts s) = true) (hs : s.size ≤ 30000) (hf : fitW k (bts s) = true) : cwErr k s = 0 := by
  unfold cwErr
  rw [if_pos (wordErr_ok h hs), if_pos hf]
theorem words_ok {k many most : Nat} (h1 : 1 ≤ k) (h2 : k ≤ 26) {ss : List ByteArray} : (wordsL k many most ss).length ≤ many ∧ ∀ s ∈ wordsL k many most ss, isWord (bts s) = true ∧ s.size ≤ most ∧ fitW k (bts s) = true := by
  unfold wordsL
  refine ⟨by rw [List.length_map, List.length_take]; omega, fun s hs => ?_⟩
  obtain ⟨u, -, rfl⟩ := List.mem_map.1 hs
  obtain ⟨a, b, c⟩ := text_ok h1 h2 most (bts u)
  exact ⟨a, c, b⟩
theorem wordsErr_ok {k : Nat} (h1 : 1 ≤ k) (h4 : k ≤ 4) {ss : List ByteArray} (hl : ss.length ≤ 12) (hs : ∀ s ∈ ss, isWord (bts s) = true ∧ s.size ≤ 200 ∧ fitW k (bts s) = true) : wordsErr k ss = 0 := by
  unfold wordsErr
  rw [if_neg (by omega), if_neg (by omega)]
  show errL k ss = 0
  clear hl
  induction ss with
  | nil => rfl
  | cons x l ih =>
    obtain ⟨a, b, c⟩ := hs x (by simp)
    have h0 : oneErr k x = 0 := by
      unfold oneErr
      rw [if_neg (fun e => e (wordErr_ok a (by omega))), if_neg (by omega), if_pos c]
    rw [errL, if_neg (fun e => e h0)]
    exact ih fun s hs' => hs s (by simp [hs'])
theorem IsGraph.good {k : Nat} (h1 : 1 ≤ k) (h4 : k ≤ 4) {S : List UInt8 → Prop} {g : List (List Int)} (h : IsGraph k S g) : GoodG k g := by
  obtain ⟨nx, o, hG, ⟨ho, hN⟩, rfl⟩ := h
  exact num_good h1 h4 hG.fold hG.core ho (fun v p u h => (hN v p u h).1)
/-- Fold at words that are as they must be -/
theorem Fold_ok (k : Nat) (v : Value) (ss : List ByteArray) (w : World) (hv : Strs w v ss) (h1 : 1 ≤ k) (h4 : k ≤ 4) (hl : ss.length ≤ 12) (hs : ∀ s ∈ ss, isWord (bts s) = true ∧ s.size ≤ 200 ∧ fitW k (bts s) = true) :
    Calls Try.prog 13 #[.int .i64 k, v] w fun e w' => ∃ (rva : Option Addr) (rvc : Nat) (g : List (List Int)), e = .returned (.tuple #[.agg #[.int .i64 k, .slice rva g.length rvc], .int .i64 0]) ∧ IsGraph k (setS ss) g ∧ RowsAt w' w.heap.size (.slice rva g.length rvc) g (fun _ => True) ∧ Below w.heap.size w w' := by
  refine (Fold_allS k v ss w hv (fun s h => by have := (hs s h).2.1; omega)).mono ?_
  rintro e w' ⟨hb, ⟨hne, -⟩ | ⟨-, kk, rva, rvc, g, hk, rfl, hg, hr⟩⟩
  · exact absurd (wordsErr_ok h1 h4 hl hs) hne
  · obtain rfl : kk = k := by omega
    exact ⟨rva, rvc, g, rfl, hg, hr, hb⟩

/-! ### the words of a basis -/
theorem run_letters {k : Nat} {g : List (List Int)} : ∀ {l : List UInt8} {v u : Nat}, runS (stG k g) v l = some u → isWord l = true ∧ fitW k l = true
  | [], _, _, _ => ⟨rfl, rfl⟩
  | c :: l, v, u, h => by
    obtain ⟨x, h1, h2⟩ := run_cons h
    obtain ⟨a, b, -⟩ := stG_some h1
    obtain ⟨i1, i2⟩ := run_letters h2
    unfold isWord fitW at *
    rw [List.all_cons, List.all_cons, i1, i2, a]
    simp [b]
theorem way_le {k : Nat} {g : List (List Int)} (v : Nat) : (wayW k g v).length ≤ g.length := wayT_len _ _ _
theorem word_len {k : Nat} {g : List (List Int)} : ∀ b ∈ basisW k g, b.length ≤ 2 * g.length + 1 := by
  intro b hb
  unfold basisW wordsQ at hb
  obtain ⟨e, -, rfl⟩ := List.mem_map.1 hb
  unfold wordQ
  refine Nat.le_trans (redW_len _) ?_
  rw [List.length_append, List.length_append, invL_len]
  have h1 := way_le (k := k) (g := g) e.1
  have h2 := way_le (k := k) (g := g) e.2.2
  change (wayW k g e.1).length + [letP e.2.1].length + (wayW k g e.2.2).length ≤ _
  rw [List.length_singleton]
  omega
theorem RdI.two {x y : Int} (h : x ≠ -y) : RdI [x, y] := .cons _ _ _ h (.one _)
theorem word_run {k : Nat} {g : List (List Int)} (hg : GoodG k g) : ∀ b ∈ basisW k g, runS (stG k g) 0 b = some 0 ∧ Rd b := by
  intro b hb
  obtain ⟨i, hi, e⟩ := List.getElem_of_mem hb
  have h1 : (basisW k g)[i]? = some b := by rw [List.getElem?_eq_getElem hi, e]
  have h2 := expr_free hg (RdI.one ((i : Int) + 1)) (fun x hx => by rw [List.mem_singleton.1 hx]; omega)
  rw [prod_one, (genW_pos h1).1] at h2
  have h3 : Rd b := by
    unfold basisW wordsQ at hb
    obtain ⟨e, -, rfl⟩ := List.mem_map.1 hb
    exact redW_rd _
  rw [redW_self h3] at h2
  exact ⟨h2.1, h3⟩
theorem word_ok {k : Nat} {g : List (List Int)} (hg : GoodG k g) : ∀ b ∈ basisW k g, isWord b = true ∧ fitW k b = true := fun b hb => run_letters (word_run hg b hb).1
theorem prod_len {b : List (List UInt8)} {M : Nat} (h : ∀ x ∈ b, x.length ≤ M) : ∀ l : List Int, (prodW b l).length ≤ l.length * M
  | [] => by simp [prodW]
  | x :: l => by
    have ih := prod_len h l
    have e : prodW b (x :: l) = genW b x ++ prodW b l := rfl
    rw [e, List.length_append, List.length_cons, Nat.succ_mul]
    have hd : ∀ i : Nat, (b.getD i []).length ≤ M := fun i => by
      rw [List.getD_eq_getElem?_getD]
      cases hi : b[i]? with
      | none => exact Nat.zero_le _
      | some y => exact h y (List.mem_of_getElem? hi)
    have : (genW b x).length ≤ M := by
      unfold genW
      split
      · exact hd _
      · split
        · rw [invL_len]; exact hd _
        · exact Nat.zero_le _
    omega
end Go.Proofs.Ytlooclpfoeakgaa

/- Rank at a good graph: the walk. -/
namespace Go.Proofs.Ytlooclpfoeakgaa
open Go.RowKit Go.Shelf
attribute [local go_sem] Oper.semAt_some

structure RkI (w : World) (nb : Nat) (c0 : Int) {k : Nat} {g : List (List Int)} (pre : List (EdG k g)) (W : World) : Prop where
  box : Blk W nb 3 [.int .i64 (c0 + pre.length)]
  below : Below w.heap.size w W
theorem RkI.own (w : World) (nb : Nat) (c0 : Int) {k : Nat} {g : List (List Int)} (B : Nat) (hB : w.heap.size ≤ B) : OwnFrom B (fun pre W => RkI w nb c0 (k := k) (g := g) pre W) := by
  intro pre W W' row h hg hr
  exact ⟨h.box.ownQ hg (fun r e => (hr r e).2), h.below.grown hg (by have := h.below.size; omega) (fun k hk => by have := (hr k hk).1; omega)⟩
def AxR (A : Array Value) {k : Nat} {g : List (List Int)} (x : EdG k g) (a' : Act) (_ : World) : Prop :=
  a' = { tmps := (A.setIfInBounds 17 (.agg #[.int .i64 (x.1.1 : Int), .int .i64 (x.1.2.1 : Int)])).setIfInBounds 18 (.int .i64 (x.1.2.2 : Int)), defers := [] }
theorem AxR.own (A : Array Value) {k : Nat} {g : List (List Int)} (x : EdG k g) (a' : Act) (B : Nat) : OwnFrom B (fun (_ : Unit) W => AxR A x a' W) :=
  fun _ _ _ _ h _ _ => h

set_option maxRecDepth 100000 in
set_option maxHeartbeats 2000000 in
theorem Rank_good (w : World) (k : Nat) (rv : Value) (g : List (List Int)) (h : RowsR w rv g) (hg : GoodG k g) :
    Calls Try.prog 23 #[.agg #[.int .i64 k, rv]] w fun e w' => e = .returned (.tuple #[.int .i64 (1 - (g.length : Int) + (edgesTo k g g.length 0).length), .int .i64 0]) ∧ Below w.heap.size w w' := by
  obtain ⟨w1, hw1⟩ : ∃ w1, w1 = w.alloc (.cells #[.int .i64 k, rv] 25) := ⟨_, rfl⟩
  have hb1 : Below w.heap.size w w1 := by rw [hw1]; exact (Below.refl _ w).alloc (Nat.le_refl _) _
  have hx1 : Blk w1 w.heap.size 25 [.int .i64 k, rv] := by rw [hw1]; exact Blk.new w 25 [.int .i64 k, rv]
  have h1 := h.keep hb1
  have hck := Check_good w1 k rv g h1 hg
  obtain ⟨n, hn⟩ : ∃ n, g.length = n := ⟨_, rfl⟩
  obtain ⟨va, vc, rfl, -, -⟩ := h1.shape hn
  have hn5 : n ≤ 5000 := by rw [← hn]; exact hg.n5
  have c0 := hx1.cell (j := 0) rfl
  have c1 := hx1.cell (j := 1) rfl
  have HCK := Lib.hid hck
  have HX := Lib.hid hx1
  have HB := Lib.hid hb1
  have HN := Lib.hid hn
  have HG := Lib.hid hg
  have HR := Lib.hid h
  rw [hn]
  clear h h1 hck hx1 hb1 hg hn
  refine (callsIn_wide (n := 6)).1 ?_
  refine callsIn_of_wp_marks Try.func23 rfl trivial ?_ rfl
  simp only [Try.ntmps23, List.size_toArray, List.length_cons, List.length_nil, Nat.reduceAdd, Nat.reduceSub, Array.replicate_succ, Array.replicate_zero, List.push_toArray, List.append_toArray, List.nil_append, List.cons_append]
  refine wpIn_wide.2 ?_
  go_upto_region 1 with fail
  rw [← hw1]
  clear hw1
  go_upto_region 4 with (go_at_call 52; refine HCK.out.mono ?_; rintro e w2 ⟨rfl, hb2⟩)
  have d0 := (HX.out.keep hb2).cell (j := 0) rfl
  have d1 := (HX.out.keep hb2).cell (j := 1) rfl
  have HX2 := Lib.hid (HX.out.keep hb2)
  have HB2 := Lib.hid (HB.out.trans (hb2.mono HB.out.size))
  clear hb2 HCK c0 c1
  have hno : IntKind.i64.wrap (1 - (n : Int)) = 1 - (n : Int) := by rw [IntKind.wrap_i64]; omega
  obtain ⟨z0, hz0⟩ : ∃ z0, 1 - (n : Int) = z0 := ⟨_, rfl⟩
  rw [hz0] at hno
  have hz1 : IntKind.i64.wrap (1 - (n : Int)) = z0 := by rw [hz0]; exact hno
  go_upto_region 5 with fail
  obtain ⟨W2, hW2⟩ : ∃ W2, W2 = w2.alloc (.cells #[.int .i64 z0] 3) := ⟨_, rfl⟩
  have hx2 : Blk W2 w2.heap.size 3 [.int .i64 z0] := by rw [hW2]; exact Blk.new w2 3 [.int .i64 z0]
  have hbA : Below w.heap.size w W2 := by rw [hW2]; exact HB2.out.alloc HB2.out.size _
  have hxG : Blk W2 w.heap.size 25 [.int .i64 k, .slice va n vc] := by rw [hW2]; exact HX2.out.alloc _
  have hsz : W2.heap.size = w2.heap.size + 1 := by rw [hW2]; simp
  have hle := HB2.out.size
  obtain ⟨nb, hnb⟩ : ∃ nb, w2.heap.size = nb := ⟨_, rfl⟩
  rw [hnb] at hx2 hsz hle
  change Code.wp _ _ _ _ (w2.alloc (.cells #[.int .i64 z0] 3))
  rw [← hW2, hnb]
  have e0 := hxG.cell (j := 0) rfl
  have e1 := hxG.cell (j := 1) rfl
  have HX3 := Lib.hid hx2
  have HBA := Lib.hid hbA
  have HSZ := Lib.hid hsz
  have HZ := Lib.hid hz0
  clear d0 d1 hno hz0 hz1 hW2 hx2 hbA hxG hsz hnb HX2 HB2
  go_wp2_with (go_at_call 68; refine (edges_plain _ _ _).mono ?_; rintro e w5 ⟨rfl, rfl⟩)
  obtain ⟨s, hs⟩ : ∃ s, W2.heap.size = s := ⟨_, rfl⟩
  have hJ0 : RkI w nb z0 (k := k) (g := g) [] (W2.alloc (.cells #[.int .i64 k, .slice va n vc] 25)) := ⟨by simpa using HX3.out.alloc _, HBA.out.alloc HBA.out.size _⟩
  have hbs : Blk (W2.alloc (.cells #[.int .i64 k, .slice va n vc] 25)) s 25 [.int .i64 k, .slice va n vc] := by rw [← hs]; exact Blk.new W2 25 [.int .i64 k, .slice va n vc]
  have hbe : Below w.heap.size w (W2.alloc (.cells #[.int .i64 k, .slice va n vc] 25)) := HBA.out.alloc HBA.out.size _
  have hws : (W2.alloc (.cells #[.int .i64 k, .slice va n vc] 25)).heap.size = s + 1 := by rw [← hs]; simp
  have hnbs : nb < s := by rw [← hs, HSZ.out]; omega
  rw [hs]
  obtain ⟨W5, hW5⟩ : ∃ W5, W2.alloc (.cells #[.int .i64 k, .slice va n vc] 25) = W5 := ⟨_, rfl⟩
  rw [hW5] at hJ0 hbs hws hbe ⊢
  clear hW5 hs e0 e1 HX3 HBA HSZ W2 w2
  refine (wpIn_wide (n := 6)).1 ?_
  refine nameAct (fun A hA => ?_)
  refine wpIn_rangeFunc_ownH rfl (by omega) (gf := 113) (lb := #[.pointer (some ⟨s, 0, none⟩)]) rfl trivial (enters_of Try.func113 (by kernel_rfl) rfl)
    (edges_stops 5 (by omega) s k (.slice va n vc) g w W5 HG.out HR.out hbs hbe) (fun h1 h2 => h1.trans h2) (fun W l o o' h1 h2 h3 h4 => belowK_b (w := w) (Nat.le_refl _) W l o o' (by omega) h2 h3 h4) (Below.refl _ _) (fun _ => rfl)
    (fun pre W => RkI w nb z0 (k := k) (g := g) pre W) (fun _ _ _ => False) (RkI.own _ _ _ _ (by omega)) (fun _ _ _ _ _ h _ _ => h.elim) hJ0 (fun x a' W => AxR A x a' W) (fun x a' => AxR.own _ _ _ _) ?assign ?body ?done ?stop
  case stop => rintro D c pre W _ _ h _; exact h.elim
  case assign =>
    subst hA
    intro l pre x W K hi hK
    have hfin := hK _ W ((KeepsOthers.refl W).from _) (Below.refl w.heap.size W) hi rfl
    simp only [List.setIfInBounds_toArray, List.set_cons_zero, List.set_cons_succ] at hfin
    have HFIN := Lib.hid hfin
    clear hfin hK hi
    gi_wp2
    simpa using HFIN.out
  case body =>
    subst hA
    rintro l pre x a' W hl hr ⟨hbox, hbel⟩ rfl hlt
    simp only [List.setIfInBounds_toArray, List.set_cons_zero, List.set_cons_succ]
    have c := hbox.cell (j := 0) rfl
    have f := hbox.free 0
    obtain ⟨z, hz⟩ : ∃ z, z0 + (pre.length : Int) = z := ⟨_, rfl⟩
    rw [hz] at c hbox
    have hwr : IntKind.i64.wrap (z + 1) = z + 1 := by have := HZ.out; rw [IntKind.wrap_i64]; omega
    have HZZ := Lib.hid hz
    have HBX := Lib.hid hbox
    have HBE := Lib.hid hbel
    clear hz hbox hbel hl hr hlt hbs hbe hws hJ0
    gi_wp2
    refine ⟨(KeepsOthers.setCell W ⟨nb, 0, none⟩ _).from _, (Below.refl _ _).setCell (p := ⟨nb, 0, none⟩) hle _, ?_, HBE.out.setCell (p := ⟨nb, 0, none⟩) hle _⟩
    have h9 := HBX.out.set 0 (.int .i64 (z + 1))
    have h8 : z0 + ((pre ++ [x]).length : Int) = z + 1 := by rw [List.length_append, List.length_singleton]; have := HZZ.out; push_cast; omega
    rw [h8]
    exact h9
  case done =>
    subst hA
    rintro D xs W hD hxs ⟨hbox, hbel⟩ hK
    have c := hbox.cell (j := 0) rfl
    have hlen : (xs.length : Int) = (edgesTo k g n 0).length := by
      rw [← HN.out, ← hxs, List.length_map]
    rw [hlen] at c
    have hz : z0 + ((edgesTo k g n 0).length : Int) = 1 - (n : Int) + (edgesTo k g n 0).length := by rw [← HZ.out]
    have HZ3 := Lib.hid hz
    obtain ⟨z, hz⟩ : ∃ z, z0 + ((edgesTo k g n 0).length : Int) = z := ⟨_, rfl⟩
    rw [hz] at c HZ3
    have HK := Lib.hid hK
    have HBE := Lib.hid hbel
    have hD2 : W5.heap.size ≤ D := hD
    have HDD : Hid (w.heap.size ≤ D) := Lib.hid (by have := hbe.size; omega)
    clear hz hlen hxs hbox hbel hK hbs hbe hws hJ0 hD hD2
    go_wp2_with fail
    have hK := HK.out
    refine ⟨by simp, .inl ⟨_, _, rfl, run_takeDeferred hK, ?_⟩⟩
    refine ⟨_, results_tmp2 rfl _ _ _, ?_⟩
    refine ⟨?_, HBE.out.trans (belowK_b (w := w) (Nat.le_refl _) W D _ _ HDD.out hK rfl rfl)⟩
    rw [← HZ3.out]; rfl
end Go.Proofs.Ytlooclpfoeakgaa

/- numbers, texts: the walks. -/
namespace Go.Proofs.Ytlooclpfoeakgaa
open Go.RowKit

set_option maxRecDepth 100000 in
set_option maxHeartbeats 1000000 in
theorem numbers_any (w : World) (u1 u2 : Value) (r s : List Int) (h1 : IntsR w u1 r) (h2 : IntsR w u2 s) (hl : r.length < 1000000000) :
    Calls Try.prog 34 #[u1, u2] w fun e w' => e = .returned (.bool (decide (r = s))) ∧ Below w.heap.size w w' := by
  obtain ⟨n, hn⟩ : ∃ n, r.length = n := ⟨_, rfl⟩
  obtain ⟨m, hm⟩ : ∃ m, s.length = m := ⟨_, rfl⟩
  obtain ⟨a1, c1, rfl, p1, p2⟩ := h1.shape hn
  obtain ⟨a2, c2, rfl, q1, q2⟩ := h2.shape hm
  rw [hn] at hl
  by_cases hnm : n = m
  · subst hnm
    have H1 := Lib.hid h1
    have H2 := Lib.hid h2
    have HN := Lib.hid hn
    have HM := Lib.hid hm
    have HB := Lib.hid (Below.refl w.heap.size w)
    have HE : Hid (∀ t, t < 0 → r[t]? = s[t]?) := Lib.hid (fun t h => by omega)
    clear h1 h2 hn hm
    go_enter Try.func34, Try.ntmps34
    go_wp2_with fail
    go_loopw [5] (fun iv wr => ∃ i : Nat, i ≤ n ∧ iv = .int .i64 i ∧ Hid (∀ t, t < i → r[t]? = s[t]?) ∧ Hid (Below w.heap.size w wr)) (fun iv _ => n - (intOf iv).toNat)
    case atStart => exact ⟨0, by omega, rfl, HE, HB⟩
    case round =>
      clear HE HB
      obtain ⟨i, hi, rfl, HE, HB⟩ := hrel
      by_cases hlt : i < n
      · obtain ⟨x, hx⟩ : ∃ x, r[i]? = some x := ⟨_, List.getElem?_eq_getElem (by rw [HN.out]; exact hlt)⟩
        obtain ⟨y, hy⟩ : ∃ y, s[i]? = some y := ⟨_, List.getElem?_eq_getElem (by rw [HM.out]; exact hlt)⟩
        obtain ⟨b1, rfl, d1⟩ := H1.out.at_ HB.out hx
        obtain ⟨b2, rfl, d2⟩ := H2.out.at_ HB.out hy
        have i0 : (0 : Int) ≤ i := by omega
        have i1 : (i : Int) < n := by omega
        have HX := Lib.hid hx
        have HY := Lib.hid hy
        clear hx hy
        go_upto_region 6 with fail
        go_quiet (fail)
        generalize nq = na
        have HB2 : Hid (Below w.heap.size w (wr.drewN na)) := Lib.hid (HB.out.trans ((Below.refl _ _).drewN' _))
        clear d1 d2 HB
        by_cases hxy : x = y
        · subst hxy
          have G1 : Hid (∀ t, t < i + 1 → r[t]? = s[t]?) := Lib.hid (fun t ht => by
            by_cases q : t = i
            · subst q; rw [HX.out, HY.out]
            · exact HE.out t (by omega))
          go_wp2_with fail
          go_roundw
          case rel => exact ⟨i + 1, by omega, by go_num, G1, HB2⟩
          case measure => simp [intOf]; omega
        · have hd : Hid (decide (r = s) = false) := Lib.hid (decide_eq_false (ne_at HX.out HY.out hxy))
          go_wp2_with fail
          go_ret
          exact ⟨by rw [hd.out]; rfl, HB2.out⟩
      · obtain rfl : i = n := by omega
        have hd : Hid (decide (r = s) = true) := Lib.hid (decide_eq_true (eq_all HN.out HM.out HE.out))
        go_wp2_with fail
        go_ret
        exact ⟨by rw [hd.out]; rfl, HB.out⟩
  · have hd : decide (r = s) = false := decide_eq_false (fun e => hnm (by rw [← hn, ← hm, e]))
    have HD := Lib.hid hd
    have hnI : ¬ ((n : Int) = m) := by omega
    clear h1 h2 hn hm hd hnm
    go_enter Try.func34, Try.ntmps34
    go_wp2_with fail
    go_ret
    exact ⟨by rw [HD.out]; rfl, Below.refl _ _⟩

set_option maxRecDepth 100000 in
set_option maxHeartbeats 1000000 in
theorem texts_true (w : World) (u1 u2 : Value) (ss : List ByteArray) (h1 : Strs w u1 ss) (h2 : Strs w u2 ss) (hl : ss.length < 1000000000) :
    Calls Try.prog 29 #[u1, u2] w fun e w' => e = .returned (.bool true) ∧ Below w.heap.size w w' := by
  obtain ⟨n, hn⟩ : ∃ n, ss.length = n := ⟨_, rfl⟩
  obtain ⟨a1, n1, c1, rfl, e1, p1, p2⟩ := h1.open
  obtain ⟨a2, n2, c2, rfl, e2, q1, q2⟩ := h2.open
  obtain rfl : n = n1 := by rw [← hn, e1.out]
  obtain rfl : n = n2 := by rw [← hn, e2.out]
  rw [hn] at hl
  have H1 := Lib.hid h1
  have H2 := Lib.hid h2
  have HB := Lib.hid (Below.refl w.heap.size w)
  clear h1 h2 hn
  go_enter Try.func29, Try.ntmps29
  go_wp2_with fail
  go_loopw [5] (fun iv wr => ∃ i : Nat, i ≤ n ∧ iv = .int .i64 i ∧ Hid (Below w.heap.size w wr)) (fun iv _ => n - (intOf iv).toNat)
  case atStart => exact ⟨0, by omega, rfl, HB⟩
  case round =>
    clear HB
    obtain ⟨i, hi, rfl, HB⟩ := hrel
    by_cases hlt : i < n
    · obtain ⟨b1, o1, x, rfl, l1, hx, d1⟩ := (H1.out.keep HB.out).at_ hlt
      obtain ⟨b2, o2, y, rfl, l2, hy, d2⟩ := (H2.out.keep HB.out).at_ hlt
      obtain rfl : x = y := by have := hx.out; rw [hy.out] at this; exact (Option.some.inj this).symm
      have i0 : (0 : Int) ≤ i := by omega
      have i1 : (i : Int) < n := by omega
      go_upto_region 6 with fail
      go_quiet (fail)
      generalize nq = na
      have HB2 : Hid (Below w.heap.size w (wr.drewN na)) := Lib.hid (HB.out.trans ((Below.refl _ _).drewN' _))
      clear d1 d2 HB
      go_wp2_with fail
      go_roundw
      case rel => exact ⟨i + 1, by omega, by go_num, HB2⟩
      case measure => simp [intOf]; omega
    · obtain rfl : i = n := by omega
      go_wp2_with fail
      go_ret
      exact ⟨rfl, HB.out⟩
end Go.Proofs.Ytlooclpfoeakgaa

/- Spelled: the walk. -/
namespace Go.Proofs.Ytlooclpfoeakgaa
open Go.RowKit

/-- the wire of an expression -/
def spellL (b : List (List UInt8)) (l : List Int) : List UInt8 := l.foldl (fun s x => redW (s ++ genW b x)) []
theorem spell_snoc (b : List (List UInt8)) (l : List Int) (x : Int) : spellL b (l ++ [x]) = redW (spellL b l ++ genW b x) := by
  unfold spellL; rw [List.foldl_append]; rfl
theorem spell_step (b : List (List UInt8)) {l : List Int} {i : Nat} {x : Int} (h : l[i]? = some x) : spellL b (l.take (i + 1)) = redW (spellL b (l.take i) ++ genW b x) := by
  rw [List.take_add_one, h]; exact spell_snoc b _ x
theorem spell_prod (b : List (List UInt8)) (l : List Int) : spellL b l = redW (prodW b l) := by
  suffices H : ∀ (n : Nat) (l : List Int), l.length = n → spellL b l = redW (prodW b l) from H _ l rfl
  intro n
  induction n with
  | zero => intro l h; obtain rfl := List.eq_nil_of_length_eq_zero h; rfl
  | succ n ih =>
    intro l h
    rcases List.eq_nil_or_concat l with rfl | ⟨m, x, rfl⟩
    · simp at h
    rw [List.concat_eq_append] at *
    rw [spell_snoc, ih m (by simp at h; omega), prod_app, prod_one, redW_left]
theorem isWord_app {a b : List UInt8} (ha : isWord a = true) (hb : isWord b = true) : isWord (a ++ b) = true := by
  unfold isWord at *
  rw [List.all_append, ha, hb]; rfl
theorem isWord_red {a : List UInt8} (h : isWord a = true) : isWord (redW a) = true := by
  unfold isWord at *
  rw [List.all_eq_true] at *
  exact fun x hx => h x (redW_sub hx)
theorem isWord_invL {l : List UInt8} (h : isWord l = true) : isWord (invL l) = true := by
  unfold isWord at *
  rw [List.all_eq_true] at *
  intro x hx
  unfold invL at hx
  obtain ⟨y, hy, rfl⟩ := List.mem_map.1 (List.mem_reverse.1 hx)
  exact (letter_inv y (h y hy)).1

set_option maxRecDepth 100000 in
set_option maxHeartbeats 1000000 in
theorem Spelled_any (w : World) (u1 u2 : Value) (bs : List (List UInt8)) (l : List Int) (h1 : Strs w u1 (bs.map strB)) (h2 : IntsR w u2 l) (hl : l.length < 1000) (hb : ∀ b ∈ bs, isWord b = true ∧ b.length ≤ 10000) (hbl : bs.length < 1000000)
    (hx : ∀ x ∈ l, x ≠ 0 ∧ x.natAbs ≤ bs.length) :
    Calls Try.prog 37 #[u1, u2] w fun e w' => e = .returned (.string (strB (spellL bs l))) ∧ Below w.heap.size w w' := by
  obtain ⟨m, hm⟩ : ∃ m, l.length = m := ⟨_, rfl⟩
  obtain ⟨a2, c2, rfl, q1, q2⟩ := h2.shape hm
  obtain ⟨a1, n, c1, rfl, hn, p1, p2⟩ := h1.open
  have hbn : bs.length = n := by rw [← hn.out, List.length_map]
  rw [hm] at hl
  rw [hbn] at hbl
  have H1 := Lib.hid h1
  have H2 := Lib.hid h2
  have HM := Lib.hid hm
  have HBN := Lib.hid hbn
  have HBS := Lib.hid hb
  have HXX := Lib.hid hx
  have HB := Lib.hid (Below.refl w.heap.size w)
  have HS : Hid (spellL bs (l.take 0) = bts ByteArray.empty ∧ isWord (bts ByteArray.empty) = true ∧ ByteArray.empty.size ≤ 10000 * 0) := Lib.hid ⟨rfl, rfl, Nat.le_refl _⟩
  clear h1 h2 hm hbn hb hx hn
  go_enter Try.func37, Try.ntmps37
  go_wp2_with fail
  go_loopw [6, 5] (fun iv sv wr => ∃ (i : Nat) (s : ByteArray), i ≤ m ∧ iv = .int .i64 i ∧ sv = .string s ∧ Hid (spellL bs (l.take i) = bts s ∧ isWord (bts s) = true ∧ s.size ≤ 10000 * i) ∧ Hid (Below w.heap.size w wr)) (fun iv _ _ => m - (intOf iv).toNat)
  case atStart => exact ⟨0, ByteArray.empty, by omega, rfl, rfl, HS, HB⟩
  case round =>
    clear HS HB
    obtain ⟨i, s, hi, rfl, rfl, HS, HB⟩ := hrel
    by_cases hlt : i < m
    · obtain ⟨x, hx⟩ : ∃ x, l[i]? = some x := ⟨_, List.getElem?_eq_getElem (by rw [HM.out]; exact hlt)⟩
      obtain ⟨b2, rfl, d2⟩ := H2.out.at_ HB.out hx
      have hxx := HXX.out x (List.mem_of_getElem? hx)
      rw [HBN.out] at hxx
      have i0 : (0 : Int) ≤ i := by omega
      have i1 : (i : Int) < m := by omega
      have hss := HS.out.2.2
      have HX := Lib.hid hx
      clear hx
      by_cases hpos : 0 < x
      · obtain ⟨t, ht⟩ : ∃ t : Nat, x = (t : Int) + 1 := ⟨(x - 1).toNat, by omega⟩
        subst ht
        obtain ⟨b1, o1, y, rfl, l1, hy, d1⟩ := (H1.out.keep HB.out).at_ (show t < n by omega)
        obtain ⟨z, hz1, hz2⟩ : ∃ z, bs[t]? = some z ∧ strB z = y := by
          have := hy.out
          rw [List.getElem?_map, Option.map_eq_some_iff] at this
          exact this
        have hzb := HBS.out z (List.mem_of_getElem? hz1)
        have hys : y.size ≤ 10000 := by rw [← hz2]; exact hzb.2
        have hno : ¬ 9223372036854775807 < s.size + y.size := by omega
        obtain ⟨S, hS⟩ : ∃ S, s ++ y = S := ⟨_, rfl⟩
        have hSb : bts S = bts s ++ z := by rw [← hS, bts_add, ← hz2]
        have hSs : S.size = s.size + y.size := by rw [← hS, ByteArray.size_append]
        have hred := fun wx => rReduce_any S wx (by rw [hSb]; exact isWord_app HS.out.2.1 hzb.1) (by omega)
        have hstep : spellL bs (l.take (i + 1)) = redW (bts S) := by rw [spell_step bs HX.out, (genW_pos hz1).1, HS.out.1, hSb]
        have hfin : spellL bs (l.take (i + 1)) = bts (strB (redW (bts S))) ∧ isWord (bts (strB (redW (bts S)))) = true ∧ (strB (redW (bts S))).size ≤ 10000 * (i + 1) := by
          refine ⟨hstep, isWord_red (by rw [hSb]; exact isWord_app HS.out.2.1 hzb.1), ?_⟩
          rw [size_str]
          have := redW_len (bts S)
          have h2 : (bts S).length = S.size := bts_len S
          omega
        obtain ⟨R, hR⟩ : ∃ R, strB (redW (bts S)) = R := ⟨_, rfl⟩
        rw [hR] at hfin hred
        have HRED := Lib.hid hred
        have G1 := Lib.hid hfin
        have t0 : (0 : Int) ≤ t := by omega
        have t1 : (t : Int) < n := by omega
        clear hz2 hSb hSs hred hstep hfin hR hxx hy hz1 hzb
        go_wp2_with (go_at_call 66; refine (HRED.out _).mono ?_; rintro e w3 ⟨rfl, hb3⟩; have HB3 := Lib.hid (HB.out.trans (hb3.mono HB.out.size)); clear hb3)
        go_roundw
        case rel => exact ⟨i + 1, _, by omega, by go_num, rfl, G1, HB3⟩
        case measure => simp [intOf]; omega
      · obtain ⟨t, ht⟩ : ∃ t : Nat, x = -((t : Int) + 1) := ⟨(-x - 1).toNat, by omega⟩
        subst ht
        obtain ⟨b1, o1, y, rfl, l1, hy, d1⟩ := (H1.out.keep HB.out).at_ (show t < n by omega)
        obtain ⟨z, hz1, hz2⟩ : ∃ z, bs[t]? = some z ∧ strB z = y := by
          have := hy.out
          rw [List.getElem?_map, Option.map_eq_some_iff] at this
          exact this
        have hzb := HBS.out z (List.mem_of_getElem? hz1)
        have hys : y.size ≤ 10000 := by rw [← hz2]; exact hzb.2
        have hyb : bts y = z := by rw [← hz2]
        obtain ⟨Y, hY⟩ : ∃ Y, strB (invL (bts y)) = Y := ⟨_, rfl⟩
        have hYs : Y.size = y.size := by rw [← hY, size_str, invL_len, bts_len]
        have hYb : bts Y = invL z := by rw [← hY, ← hyb]
        have hinv := fun wx => rInverse_any y wx (by rw [hyb]; exact hzb.1) (by omega)
        rw [hY] at hinv
        have hno : ¬ 9223372036854775807 < s.size + Y.size := by omega
        obtain ⟨S, hS⟩ : ∃ S, s ++ Y = S := ⟨_, rfl⟩
        have hSb : bts S = bts s ++ invL z := by rw [← hS, bts_add, hYb]
        have hSs : S.size = s.size + y.size := by rw [← hS, ByteArray.size_append, hYs]
        have hSw : isWord (bts S) = true := by rw [hSb]; exact isWord_app HS.out.2.1 (isWord_invL hzb.1)
        have hred := fun wx => rReduce_any S wx hSw (by omega)
        have hstep : spellL bs (l.take (i + 1)) = redW (bts S) := by rw [spell_step bs HX.out, (genW_pos hz1).2, HS.out.1, hSb]
        have hfin : spellL bs (l.take (i + 1)) = bts (strB (redW (bts S))) ∧ isWord (bts (strB (redW (bts S)))) = true ∧ (strB (redW (bts S))).size ≤ 10000 * (i + 1) := by
          refine ⟨hstep, isWord_red hSw, ?_⟩
          rw [size_str]
          have := redW_len (bts S)
          have h2 : (bts S).length = S.size := bts_len S
          omega
        obtain ⟨R, hR⟩ : ∃ R, strB (redW (bts S)) = R := ⟨_, rfl⟩
        rw [hR] at hfin hred
        have HRED := Lib.hid hred
        have HINV := Lib.hid hinv
        have G1 := Lib.hid hfin
        have t0 : (0 : Int) ≤ t := by omega
        have t1 : (t : Int) < n := by omega
        have hw1 : IntKind.i64.wrap ((t : Int) + 1) = (t : Int) + 1 := by rw [IntKind.wrap_i64]; omega
        clear hz2 hSb hSs hSw hred hinv hstep hfin hR hxx hy hz1 hzb hyb hY hYb hYs
        go_wp2_with (first
          | (go_at_call 38; refine (HINV.out _).mono ?_; rintro e w2 ⟨rfl, hb2⟩; have HB2 := Lib.hid (HB.out.trans (hb2.mono HB.out.size)); clear hb2)
          | (go_at_call 66; refine (HRED.out _).mono ?_; rintro e w3 ⟨rfl, hb3⟩; have HB3 := Lib.hid (HB2.out.trans (hb3.mono HB2.out.size)); clear hb3))
        go_roundw
        case rel => exact ⟨i + 1, _, by omega, by go_num, rfl, G1, HB3⟩
        case measure => simp [intOf]; omega
    · obtain rfl : i = m := by omega
      have hfin : spellL bs l = bts s := by
        have := HS.out.1
        rwa [List.take_of_length_le (by rw [HM.out]; omega)] at this
      have HF := Lib.hid hfin
      clear hfin
      go_wp2_with fail
      go_ret
      exact ⟨by rw [HF.out]; rfl, HB.out⟩
end Go.Proofs.Ytlooclpfoeakgaa

/- Express at a good graph: the walk. -/
namespace Go.Proofs.Ytlooclpfoeakgaa
open Go.RowKit

theorem cwErr_zero {k : Nat} {s : ByteArray} (h0 : cwErr k s = 0) : isWord (bts s) = true ∧ fitW k (bts s) = true := by
  unfold cwErr at h0
  split at h0
  · rename_i he
    refine ⟨word_of he, ?_⟩
    split at h0
    · assumption
    · cases h0
  · rename_i he; exact absurd h0 he
theorem Own.toR {w : World} {base : Nat} {e : TypeId} {v : Value} {zs : List Int} (h : Own w base e v zs) : IntsR w v zs := by
  obtain ⟨a, c, rfl, h1, h2⟩ := row_shapeV h
  refine ⟨a, c, by rfl, h1, h2, fun h0 => ?_⟩
  obtain ⟨g, cap, e1, -, -, -, h3⟩ := row_open h h0
  obtain ⟨rfl, -, -⟩ : a = some ⟨g, 0, none⟩ ∧ zs.length = zs.length ∧ c = cap := by simpa using e1
  exact ⟨g, rfl, fun j x hx => h3 j _ (i64s_get hx)⟩
theorem numQ_bound {k : Nat} {g : List (List Int)} (hg : GoodG k g) (v p : Nat) : (numQ k g v p).natAbs ≤ (basisW k g).length := by
  have hN := nums_good hg
  unfold numQ
  cases hm : mapM k g v p with
  | none => show (0 : Int).natAbs ≤ _; omega
  | some n =>
    obtain ⟨e, he, i, h1, h2⟩ := hN.only v p n hm
    have h3 : i < (basisW k g).length := h1
    show n.natAbs ≤ _
    rcases h2 with ⟨-, h2⟩ | ⟨-, h2⟩ <;> omega
theorem basis_len {k : Nat} {g : List (List Int)} (hg : GoodG k g) : (basisW k g).length ≤ 20000 := by
  have h1 : (basisW k g).length ≤ (edgesE k g).length := wordsQ_len _ _ _
  have h2 := edges_len k g g.length 0
  have h3 := hg.n5
  have h4 := hg.k4
  have h5 : g.length * k ≤ 5000 * 4 := Nat.mul_le_mul h3 h4
  unfold edgesE at h1
  omega
theorem expr_len {k : Nat} {g : List (List Int)} : ∀ (w : List UInt8) (v : Nat), (exprQ k g v w).length ≤ w.length
  | [], _ => Nat.le_refl _
  | c :: w, v => by
    rw [exprQ]
    split
    · simp
    · rename_i u _
      rw [List.length_append, List.length_cons]
      have := expr_len (k := k) (g := g) w u
      unfold nzL
      split <;> simp <;> omega

set_option maxRecDepth 100000 in
set_option maxHeartbeats 2000000 in
theorem Express_in (w : World) (k : Nat) (rv : Value) (g : List (List Int)) (h : RowsR w rv g) (hg : GoodG k g) (s : ByteArray) (hs : s.size < 1000000) (h0 : cwErr k s = 0) (hin : inG k g (bts s) = true) :
    Calls Try.prog 32 #[.agg #[.int .i64 k, rv], .string s] w fun e w' => ∃ v, e = .returned (.tuple #[v, .int .i64 0]) ∧ IntsR w' v (exprQ k g 0 (redW (bts s))) ∧ Below w.heap.size w w' := by
  obtain ⟨w1, hw1⟩ : ∃ w1, w1 = w.alloc (.cells #[.int .i64 k, rv] 25) := ⟨_, rfl⟩
  have hb1 : Below w.heap.size w w1 := by rw [hw1]; exact (Below.refl _ w).alloc (Nat.le_refl _) _
  have hx1 : Blk w1 w.heap.size 25 [.int .i64 k, rv] := by rw [hw1]; exact Blk.new w 25 [.int .i64 k, rv]
  have hs1 : w1.heap.size = w.heap.size + 1 := by rw [hw1]; simp
  have h1 := h.keep hb1
  have hrd := read_good w1 k rv g h1 hg s (by omega)
  rw [h0, if_pos rfl] at hrd
  obtain ⟨hw, hf⟩ := cwErr_zero h0
  have hrun : runS (stG k g) 0 (redW (bts s)) = some 0 := of_decide_eq_true hin
  obtain ⟨W, hWW⟩ : ∃ W, strB (redW (bts s)) = W := ⟨_, rfl⟩
  have hWb : bts W = redW (bts s) := by rw [← hWW]
  have hWs : W.size ≤ s.size := by rw [← bts_len, hWb]; exact Nat.le_trans (redW_len _) (by rw [bts_len]; exact Nat.le_refl _)
  have hWw : isWord (bts W) = true := by rw [hWb]; exact isWord_red hw
  have hWf : fitW k (bts W) = true := by
    rw [hWb]
    exact List.all_eq_true.2 fun c hc => List.all_eq_true.1 hf c (redW_sub hc)
  rw [hWW] at hrd
  rw [← hWb] at hrun ⊢
  obtain ⟨n, hn⟩ : ∃ n, g.length = n := ⟨_, rfl⟩
  obtain ⟨va, vc, rfl, hv1, hv2⟩ := h1.shape hn
  have hld := fun wx (hb : Below w1.heap.size w1 wx) => leads_any wx k _ g (h1.keep hb) hg 0 hg.n1 W (by omega) hWw hWf
  rw [hrun] at hld
  have hba := fun wx (hb : Below w1.heap.size w1 wx) => basis_any wx k _ g (h1.keep hb) hg
  have hrow := hg.row
  rw [hn] at hrow
  have hn5 : n ≤ 5000 := by rw [← hn]; exact hg.n5
  have hn1 : 1 ≤ n := by rw [← hn]; exact hg.n1
  have hk4 := hg.k4
  obtain ⟨KK, hKK⟩ : ∃ KK, KK = 2 * k := ⟨_, rfl⟩
  have hkk8 : KK ≤ 8 := by omega
  have hlet : ∀ c ∈ bts W, letter c.toNat = true ∧ placeB c < 2 * k := fun c hc => ⟨List.all_eq_true.1 (show (bts W).all _ = true from hWw) c hc, of_decide_eq_true (List.all_eq_true.1 hWf c hc)⟩
  have c0 := hx1.cell (j := 0) rfl
  have c1 := hx1.cell (j := 1) rfl
  have HKK := Lib.hid hKK
  have HRUN := Lib.hid hrun
  have HROW := Lib.hid hrow
  have HLET := Lib.hid hlet
  have HRD := Lib.hid hrd
  have HLD := Lib.hid hld
  have HBA := Lib.hid hba
  have HX := Lib.hid hx1
  have HB := Lib.hid hb1
  have H1 := Lib.hid h1
  have HN := Lib.hid hn
  have HG := Lib.hid hg
  have HS1 := Lib.hid hs1
  clear h h1 hx1 hb1 hg hrd hld hba hWb hWw hWf hWW hw hf h0 hrun hrow hlet hn hs1 hin hKK
  go_enter Try.func32, Try.ntmps32
  go_upto_region 1 with fail
  rw [← hw1]
  clear hw1
  go_upto_region 4 with (go_at_call 74; refine HRD.out.mono ?_; rintro e w2 ⟨rfl, hb2⟩)
  have d0 := (HX.out.keep hb2).cell (j := 0) rfl
  have d1 := (HX.out.keep hb2).cell (j := 1) rfl
  have HL := Lib.hid (HLD.out w2 hb2)
  have HB2 := Lib.hid hb2
  clear hb2 HLD HRD c0 c1
  go_upto_region 6 with (go_at_call 75; refine HL.out.mono ?_; rintro e w3 ⟨rfl, hb3⟩)
  have HB3 := Lib.hid (HB2.out.trans (hb3.mono HB2.out.size))
  have e0 := (HX.out.keep HB3.out).cell (j := 0) rfl
  have e1 := (HX.out.keep HB3.out).cell (j := 1) rfl
  have HBB := Lib.hid (HBA.out w3 HB3.out)
  clear hb3 HBA HL d0 d1
  go_upto_region 7 with (go_at_call 70; refine HBB.out.mono ?_; rintro e w4 ⟨mb, nm, v4, rfl, hm4, -, hb4⟩)
  have HB4 : Hid (Below w1.heap.size w1 w4) := Lib.hid (HB3.out.trans (hb4.mono HB3.out.size))
  have HM4 : Hid (MapQ w4 mb nm (mapM k g)) := Lib.hid hm4
  have HV0 : Hid (Below w4.heap.size w4 w4) := Lib.hid (Below.refl _ _)
  have HO0 : Hid (Own w4 w4.heap.size 3 (.slice none 0 0) (exprQ k g 0 ((bts W).take 0))) := Lib.hid (Own.nil _ _ _)
  have HU0 : Hid (runS (stG k g) 0 ((bts W).take 0) = some 0 ∧ 0 < n) := Lib.hid ⟨rfl, by omega⟩
  clear hb4 hm4 HBB e0 e1
  go_wp2_with fail
  go_loopw [34, 9, 10] (fun iv ov vv wr => ∃ (j u : Nat) (lw : Value), j ≤ W.size ∧ iv = .int .i64 j ∧ lw = ov ∧ vv = .int .i64 u ∧ Hid (runS (stG k g) 0 ((bts W).take j) = some u ∧ u < n) ∧ Hid (Own wr w4.heap.size 3 lw (exprQ k g 0 ((bts W).take j))) ∧ Hid (Below w4.heap.size w4 wr)) (fun iv _ _ _ => W.size - (intOf iv).toNat)
  case atStart => exact ⟨0, 0, _, by omega, rfl, rfl, rfl, HU0, HO0, HV0⟩
  case round =>
    clear HU0 HO0 HV0
    obtain ⟨j, u, lw, hj, rfl, rfl, rfl, HU, HO, HV⟩ := hrel
    by_cases hlt : j < W.size
    · have hu := HU.out.2
      have HBW : Hid (Below w1.heap.size w1 wr) := Lib.hid (HB4.out.trans (HV.out.mono HB4.out.size))
      have hc1 := (HX.out.keep HBW.out).cell (j := 1) rfl
      obtain ⟨r, hr⟩ : ∃ r, g[u]? = some r := ⟨_, List.getElem?_eq_getElem (by rw [HN.out]; exact hu)⟩
      obtain ⟨hl1, hl2⟩ := HROW.out r (List.mem_of_getElem? hr)
      rw [← HKK.out] at hl1
      have hcj := bts_get hlt
      obtain ⟨c, hcc⟩ : ∃ c, W[j]'hlt = c := ⟨_, rfl⟩
      rw [hcc] at hcj
      obtain ⟨hcl, hcp⟩ := HLET.out c (List.mem_of_getElem? hcj)
      rw [← HKK.out] at hcp
      obtain ⟨x, hx⟩ : ∃ x, r[placeB c]? = some x := ⟨_, List.getElem?_eq_getElem (by rw [hl1]; exact hcp)⟩
      obtain ⟨hx1, hx2⟩ := hl2 x (List.mem_of_getElem? hx)
      have hxo : x = optI (nxT g u (placeB c)) := (nxT_opt (by unfold atG; rw [hr]; exact hx) hx1).symm
      have hst : stG k g u c = nxT g u (placeB c) := by
        unfold stG stepL
        rw [if_pos ⟨hcl, by rw [← HKK.out]; exact hcp⟩]
      have hwt : (bts W).take (j + 1) = (bts W).take j ++ [c] := by rw [List.take_add_one, hcj]; rfl
      -- the way goes on
      obtain ⟨t, ht⟩ : ∃ t, nxT g u (placeB c) = some t := by
        cases hq : nxT g u (placeB c) with
        | some t => exact ⟨t, rfl⟩
        | none =>
          have h9 : runS (stG k g) 0 ((bts W).take (j + 1)) = none := by
            rw [hwt, leads_snoc, HU.out.1]
            show stG k g u c = none
            rw [hst, hq]
          have := leads_stop h9
          rw [HRUN.out] at this
          cases this
      rw [ht] at hxo hst
      obtain rfl : x = (t : Int) := hxo
      have hbt : t < n := by omega
      have hrunt : runS (stG k g) 0 ((bts W).take (j + 1)) = some t := by
        rw [hwt, leads_snoc, HU.out.1]; exact hst
      have hex : exprQ k g 0 ((bts W).take (j + 1)) = exprQ k g 0 ((bts W).take j) ++ nzL (numQ k g u (placeB c)) := by
        rw [hwt, expr_app _ HU.out.1, expr_one hst]
      have hnq := numQ_bound HG.out u (placeB c)
      have hbl := basis_len HG.out
      have hel := expr_len (k := k) (g := g) ((bts W).take j) 0
      rw [List.length_take, bts_len] at hel
      have HPL := Lib.hid (fun wx => place_any c wx hcl)
      obtain ⟨p, hp⟩ : ∃ p, placeB c = p := ⟨_, rfl⟩
      have hlook := (HM4.out.keep HV.out).look (x := u) (y := p) (by omega) (by omega)
      have hqq : (mapM k g u p).getD 0 = numQ k g u p := rfl
      rw [hqq] at hlook
      rw [hp] at hcp HPL hex ht hx hnq
      have G2 := Lib.hid (And.intro hrunt hbt)
      have HEX := Lib.hid hex
      have HXR := Lib.hid hx
      have HRR := Lib.hid hr
      have HL1 := Lib.hid hl1
      obtain ⟨E, hE⟩ : ∃ E, exprQ k g 0 ((bts W).take j) = E := ⟨_, rfl⟩
      rw [hE] at hel HEX HO
      obtain ⟨N, hN⟩ : ∃ N, numQ k g u p = N := ⟨_, rfl⟩
      rw [hN] at hlook HEX hnq
      have i0 : (0 : Int) ≤ u := by omega
      have i1 : (u : Int) < n := by omega
      have p0 : (0 : Int) ≤ p := by omega
      have p1 : (p : Int) < KK := by omega
      have j0 : (0 : Int) ≤ j := by omega
      have hsz := HV.out.size
      clear hr hl1 hl2 hcj hcl hx hst hwt ht hrunt hex hqq hE hN hx1 hx2 hp HU
      go_upto_region 14 with (go_at_call 76; refine (HPL.out _).mono ?_; rintro e w9 ⟨rfl, hw9⟩; obtain rfl := hw9.symm)
      obtain ⟨b1, v1, hva, d1, e1⟩ := H1.out.at_ HBW.out HRR.out
      subst hva
      obtain ⟨a2, c2, rfl, q1, q2⟩ := e1.shape HL1.out
      obtain ⟨b2, rfl, d2⟩ := e1.at_ (Below.refl _ _) HXR.out
      clear e1
      by_cases hN0 : N = 0
      · subst hN0
        have G3 : Hid (Own wr w4.heap.size 3 lw (exprQ k g 0 ((bts W).take (j + 1)))) := Lib.hid (by rw [HEX.out]; show Own wr w4.heap.size 3 lw (E ++ []); rw [List.append_nil]; exact HO.out)
        go_wp2_with fail
        go_roundw
        case rel => exact ⟨j + 1, t, _, by omega, by go_num, rfl, rfl, G2, G3, HV⟩
        case measure => simp [intOf]; omega
      · have HBS : Hid (w4.heap.size ≤ wr.heap.size) := Lib.hid hsz
        go_upto_region 16 with (at_builtin; refine wpList_app1 Try.info3 Try.underlying54 HO.out HBS.out (by omega) rfl (.tmp 48) (.tmp 50) rfl (z := N) (by simp [Act.eval]) (by simp [Act.eval]) ?_; intro v6 w6 hown6 hgrow6 hbel6 hsh6)
        obtain ⟨g6, cc6, rfl⟩ := hsh6
        have G3 : Hid (Own w6 w4.heap.size 3 (.slice (some ⟨g6, 0, none⟩) (E.length + 1) cc6) (exprQ k g 0 ((bts W).take (j + 1)))) := Lib.hid (by
          rw [HEX.out]
          have : nzL N = [N] := if_neg hN0
          rw [this]; exact hown6)
        have HV6 : Hid (Below w4.heap.size w4 w6) := Lib.hid (HV.out.trans hbel6)
        have hb16 : Below w1.heap.size w1 w6 := HB4.out.trans (HV6.out.mono HB4.out.size)
        have hc1' := (HX.out.keep hb16).cell (j := 1) rfl
        obtain ⟨b3, v3, hva3, d3, e3⟩ := H1.out.at_ hb16 HRR.out
        obtain rfl : b3 = b1 := by simpa using hva3.symm
        obtain ⟨a3, c3, rfl, q3, q4⟩ := e3.shape HL1.out
        obtain ⟨b4, rfl, d4⟩ := e3.at_ (Below.refl _ _) HXR.out
        clear e3 hva3 hb16 hown6 hgrow6 hbel6
        go_wp2_with fail
        go_roundw
        case rel => exact ⟨j + 1, t, _, by omega, by go_num, rfl, rfl, G2, G3, HV6⟩
        case measure => simp [intOf]; omega
    · obtain rfl : j = W.size := by omega
      have hres := HO.out
      rw [List.take_of_length_le (by rw [bts_len]; exact Nat.le_refl _)] at hres
      have HRES := Lib.hid hres.toR
      have HBW : Hid (Below w1.heap.size w1 wr) := Lib.hid (HB4.out.trans (HV.out.mono HB4.out.size))
      clear hres
      go_wp2_with fail
      go_ret2
      exact ⟨_, rfl, HRES.out, HB.out.trans (HBW.out.mono HB.out.size)⟩
end Go.Proofs.Ytlooclpfoeakgaa
