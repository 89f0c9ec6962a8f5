/- Fill: filled: the walk. -/
import Derived.Test.YtgajaccnjjiiaaaW65
import Derived.Test.YtgajaccnjjiiaaaW53
namespace Go.Proofs.Ytgajaccnjjiiaaa
open Go.RowKit

def ordF (k : Int) (perm : List Int) (n i : Nat) : Int := if k = 1 then (i : Int) else if k = 2 then (n : Int) - 1 - i else vat perm i
def ordL (k : Int) (perm : List Int) (n : Nat) : List Int := (List.range n).map (ordF k perm n)
def szL (os : List Int) (Ls : List (List Int)) : Nat → List Int
  | 0 => List.replicate os.length 0
  | i + 1 => (szL os Ls i).set (vat os i).toNat (((Ls[i]?.getD []).length : Nat) : Int)
def sumTake (l : List Int) (m : Nat) : Int := (l.take m).sum
def lowL (os : List Int) (Ls : List (List Int)) (i : Nat) : Int := sumTake (szL os Ls os.length) (vat os i).toNat
def outL (os : List Int) (Ls : List (List Int)) : Nat → List Int
  | 0 => []
  | i + 1 => outL os Ls i ++ (Ls[i]?.getD []).map (· + lowL os Ls i)
def filledT : Nat → TM → List Int
  | 0, _ => []
  | d + 1, .mk k perm parts => if k = 0 then [0] else outL (ordL k perm parts.length) (parts.map (filledT d)) parts.length
def nodesT : Nat → TM → Nat
  | 0, _ => 0
  | d + 1, .mk _ _ ps => 1 + (ps.map (nodesT d)).sum
def GoodT (d : Nat) (t : TM) : Prop := fitsT d t = true ∧ nodesT d t ≤ 1000

theorem ordL_len (k : Int) (perm : List Int) (n : Nat) : (ordL k perm n).length = n := by simp [ordL]
theorem ordL_get {k : Int} {perm : List Int} {n i : Nat} (h : i < n) : (ordL k perm n)[i]? = some (ordF k perm n i) := by simp [ordL, h]
theorem ordL_vat {k : Int} {perm : List Int} {n i : Nat} (h : i < n) : vat (ordL k perm n) i = ordF k perm n i := vat_of (ordL_get h)
theorem szL_len (os : List Int) (Ls : List (List Int)) : ∀ i, (szL os Ls i).length = os.length
  | 0 => by simp [szL]
  | i + 1 => by rw [szL, List.length_set, szL_len os Ls i]
theorem szL_box {os : List Int} {Ls : List (List Int)} (h : ∀ l ∈ Ls, l.length ≤ 1000) : ∀ i, ∀ x ∈ szL os Ls i, 0 ≤ x ∧ x ≤ 1000
  | 0, x, hx => by
    rw [szL, List.mem_replicate] at hx
    omega
  | i + 1, x, hx => by
    rw [szL] at hx
    rcases List.mem_or_eq_of_mem_set hx with hx | rfl
    · exact szL_box h i x hx
    · have : (Ls[i]?.getD []).length ≤ 1000 := by
        rcases hl : Ls[i]? with _ | l
        · simp
        · exact h l (List.mem_of_getElem? hl)
      omega
theorem sumTake_succ {l : List Int} {m : Nat} {x : Int} (h : l[m]? = some x) : sumTake l (m + 1) = sumTake l m + x := by
  unfold sumTake
  rw [take_snoc' h, List.sum_append]; simp
theorem sumTake_box {l : List Int} (h : ∀ x ∈ l, 0 ≤ x ∧ x ≤ 1000) : ∀ m, m ≤ l.length → 0 ≤ sumTake l m ∧ sumTake l m ≤ 1000 * m
  | 0, _ => by simp [sumTake]
  | m + 1, hm => by
    have ih := sumTake_box h m (by omega)
    have hx := vat_get (p := l) (i := m) (by omega)
    rw [sumTake_succ hx]
    have := h _ (List.mem_of_getElem? hx)
    omega
theorem outL_len {os : List Int} {Ls : List (List Int)} : ∀ i, i ≤ Ls.length → (outL os Ls i).length = ((Ls.take i).map List.length).sum
  | 0, _ => by simp [outL]
  | i + 1, hi => by
    have e : Ls[i]? = some Ls[i] := List.getElem?_eq_getElem (by omega)
    rw [outL, List.length_append, List.length_map, outL_len i (by omega), List.take_add_one, e, List.map_append, List.sum_append]
    simp
theorem sum_le_sum {α : Type} {f g : α → Nat} : ∀ {l : List α}, (∀ x ∈ l, f x ≤ g x) → (l.map f).sum ≤ (l.map g).sum
  | [], _ => by simp
  | x :: l, h => by
    have := sum_le_sum (l := l) (f := f) (g := g) (fun y hy => h y (by simp [hy]))
    have := h x (by simp)
    simp only [List.map_cons, List.sum_cons]; omega
theorem filled_len : ∀ (d : Nat) (t : TM), (filledT d t).length ≤ nodesT d t
  | 0, t => by simp [filledT]
  | d + 1, .mk k perm ps => by
    rw [filledT, nodesT]
    split
    · simp
    · rw [outL_len _ (by simp), List.take_of_length_le (by simp), List.map_map]
      have := sum_le_sum (l := ps) (f := List.length ∘ filledT d) (g := nodesT d) (fun t _ => filled_len d t)
      omega
theorem nodes_part {d : Nat} {k : Int} {perm : List Int} {ps : List TM} {t : TM} (h : t ∈ ps) : nodesT d t ≤ nodesT (d + 1) (.mk k perm ps) := by
  rw [nodesT]
  have : nodesT d t ≤ (ps.map (nodesT d)).sum := by
    induction ps with
    | nil => simp at h
    | cons x xs ih =>
      simp only [List.map_cons, List.sum_cons]
      rcases List.mem_cons.1 h with rfl | h
      · omega
      · have := ih h; omega
  omega
theorem nodes_pos {d : Nat} (t : TM) : 1 ≤ nodesT (d + 1) t := by obtain ⟨k, perm, ps⟩ := t; rw [nodesT]; omega
theorem nodes_count {d : Nat} {k : Int} {perm : List Int} : ∀ {ps : List TM}, ps.length ≤ ((ps.map (nodesT (d + 1))).sum)
  | [] => by simp
  | t :: ps => by
    have := nodes_count (d := d) (k := k) (perm := perm) (ps := ps)
    have := nodes_pos (d := d) t
    simp only [List.length_cons, List.map_cons, List.sum_cons]; omega
theorem GoodT.part {d : Nat} {k : Int} {perm : List Int} {ps : List TM} (h : GoodT (d + 1) (.mk k perm ps)) (hk : k ≠ 0) {t : TM} (ht : t ∈ ps) : GoodT d t := by
  refine ⟨?_, Nat.le_trans (nodes_part ht) h.2⟩
  have := h.1
  rw [fitsT, if_neg hk] at this
  split at this
  · split at this
    · cases this
    · exact List.all_eq_true.1 this t ht
  · split at this
    · split at this
      · cases this
      · exact List.all_eq_true.1 this t ht
    · cases this
theorem GoodT.zero (t : TM) : ¬ GoodT 0 t := fun h => by have := h.1; simp [fitsT] at this
theorem GoodT.kinds {d : Nat} {k : Int} {perm : List Int} {ps : List TM} (h : GoodT (d + 1) (.mk k perm ps)) (hk : k ≠ 0) : 2 ≤ ps.length ∧ ps.length ≤ 1000 ∧ (k = 1 ∨ k = 2 ∨ k = 3 ∧ perm.length = ps.length ∧ checkM perm = 0) := by
  have hlen : ps.length ≤ 1000 := by
    cases d with
    | zero =>
      rcases Nat.eq_zero_or_pos ps.length with h0 | h0
      · omega
      · exact absurd (h.part hk (List.getElem_mem h0)) (GoodT.zero _)
    | succ d =>
      have h1 := nodes_count (d := d) (k := k) (perm := perm) (ps := ps)
      have h2 := h.2
      rw [nodesT] at h2
      omega
  have h1 := h.1
  rw [fitsT, if_neg hk] at h1
  split at h1
  · rename_i h12
    split at h1
    · cases h1
    · exact ⟨by omega, hlen, by omega⟩
  · split at h1
    · rename_i h3
      split at h1
      · cases h1
      · rename_i hn
        refine ⟨by omega, hlen, .inr (.inr ⟨h3, ?_, ?_⟩)⟩
        · apply Classical.byContradiction; intro e; exact hn (.inr (.inl e))
        · apply Classical.byContradiction; intro e; exact hn (.inr (.inr e))
    · cases h1
theorem ord_box {k : Int} {perm : List Int} {n i : Nat} (h : k = 1 ∨ k = 2 ∨ k = 3 ∧ perm.length = n ∧ checkM perm = 0) (hi : i < n) : 0 ≤ ordF k perm n i ∧ ordF k perm n i < n := by
  unfold ordF
  rcases h with rfl | rfl | ⟨rfl, h1, h2⟩
  · rw [if_pos rfl]; omega
  · rw [if_neg (by decide), if_pos rfl]; omega
  · rw [if_neg (by decide), if_neg (by decide)]
    have := ((checkM_iff perm).1 h2).2.1 _ (vat_mem (show i < perm.length by omega))
    omega
theorem filled_box : ∀ (d : Nat) (t : TM), GoodT d t → (filledT d t).length ≤ 1000 ∧ ∀ x ∈ filledT d t, 0 ≤ x ∧ x ≤ 1000000 * d
  | 0, t, h => absurd h (GoodT.zero t)
  | d + 1, .mk k perm ps, h => by
    refine ⟨Nat.le_trans (filled_len _ _) h.2, ?_⟩
    rw [filledT]
    split
    · intro x hx
      simp at hx; omega
    · rename_i hk
      obtain ⟨h2, h3, h4⟩ := h.kinds hk
      have hls : ∀ l ∈ ps.map (filledT d), l.length ≤ 1000 ∧ ∀ x ∈ l, 0 ≤ x ∧ x ≤ 1000000 * d := by
        intro l hl
        rw [List.mem_map] at hl
        obtain ⟨t, ht, rfl⟩ := hl
        exact filled_box d t (h.part hk ht)
      have hsz := szL_box (os := ordL k perm ps.length) (fun l hl => (hls l hl).1) (ordL k perm ps.length).length
      have key : ∀ i, i ≤ ps.length → ∀ x ∈ outL (ordL k perm ps.length) (ps.map (filledT d)) i, 0 ≤ x ∧ x ≤ 1000000 * (d + 1 : Nat) := by
        intro i
        induction i with
        | zero => intro _ x hx; simp [outL] at hx
        | succ i ih =>
          intro hi x hx
          rw [outL, List.mem_append, List.mem_map] at hx
          rcases hx with hx | ⟨y, hy, rfl⟩
          · exact ih (by omega) x hx
          · have e : (ps.map (filledT d))[i]? = some ((ps.map (filledT d))[i]'(by simp; omega)) := List.getElem?_eq_getElem (by simp; omega)
            rw [e] at hy
            have h5 := (hls _ (List.getElem_mem _)).2 y hy
            have hb := ord_box h4 (show i < ps.length by omega)
            have h6 := sumTake_box hsz (vat (ordL k perm ps.length) i).toNat (by rw [szL_len, ordL_len, ordL_vat (by omega)]; omega)
            rw [ordL_vat (by omega)] at h6
            unfold lowL
            rw [ordL_vat (by omega)]
            omega
      exact key _ (Nat.le_refl _)

/-- the values vs own the lists Ls -/
def RowsOwn (w : World) (base : Nat) (vs : List Value) (Ls : List (List Int)) : Prop := ∀ (j : Nat) (v : Value), vs[j]? = some v → ∃ l, Ls[j]? = some l ∧ Own w base 3 v l
theorem RowsOwn.nil (w : World) (base : Nat) (Ls : List (List Int)) : RowsOwn w base [] Ls := fun j v h => by simp at h
theorem RowsOwn.keep {w w' : World} {base : Nat} {vs : List Value} {Ls : List (List Int)} (h : RowsOwn w base vs Ls) (hb : Below w.heap.size w w') : RowsOwn w' base vs Ls := fun j v hj => by
  obtain ⟨l, h1, h2⟩ := h j v hj
  exact ⟨l, h1, World.ownsRow.keep h2 hb⟩
theorem RowsOwn.other {w : World} {base : Nat} {vs : List Value} {Ls : List (List Int)} (h : RowsOwn w base vs Ls) {a : Addr} (ha : a.block < base) (x : Value) : RowsOwn (w.setCell a x) base vs Ls := fun j v hj => by
  obtain ⟨l, h1, h2⟩ := h j v hj
  refine ⟨l, h1, Own.other h2 (fun e => ?_) x⟩
  have := (World.ownsRow.lt h2 a.block e.symm).1
  omega
theorem RowsOwn.snoc {w : World} {base : Nat} {vs : List Value} {Ls : List (List Int)} (h : RowsOwn w base vs Ls) {v : Value} {l : List Int} (hl : Ls[vs.length]? = some l) (ho : Own w base 3 v l) : RowsOwn w base (vs ++ [v]) Ls := fun j u hj => by
  rw [List.getElem?_append] at hj
  split at hj
  · exact h j u hj
  · rename_i hn
    have : j = vs.length := by
      have := (List.getElem?_eq_some_iff.1 hj).1
      simp at this; omega
    subst this
    simp at hj
    subst hj
    exact ⟨l, hl, ho⟩
theorem snoc_set {α : Type} {xs : List α} {n : Nat} {z y : α} (h : xs.length < n) : (xs ++ List.replicate (n - xs.length) z).set xs.length y = (xs ++ [y]) ++ List.replicate (n - (xs.length + 1)) z := by
  rw [List.set_append_right _ _ (Nat.le_refl _), Nat.sub_self, show n - xs.length = (n - (xs.length + 1)) + 1 by omega, List.replicate_succ]
  simp
theorem Try.info22 : (Try.prog.info? 22).map (fun i => (i.zero, i.size, i.bytes)) = some (some (.slice none 0 0), 1, 24) := by kernel_rfl
theorem ret_slice {a b : Value} (h : a = b) : Ending.returned a = Ending.returned b := by rw [h]
end Go.Proofs.Ytgajaccnjjiiaaa
