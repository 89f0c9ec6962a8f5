/- The reference's fill: plain laws, and the walk. -/
import Derived.Test.YtgajaccnjjiiaaaW68
import Derived.Test.YtgajaccnjjiiaaaW75
namespace Go.Proofs.Ytgajaccnjjiiaaa
open Go.RowKit

def belB (k : Int) (perm : List Int) (i j : Nat) : Bool := if k = 2 then decide (i < j) else if k = 3 then decide (vat perm j < vat perm i) else decide (j < i)
def rlowTo (k : Int) (perm : List Int) (Ls : List (List Int)) (i : Nat) : Nat → Int
  | 0 => 0
  | j + 1 => rlowTo k perm Ls i j + if belB k perm i j then (((Ls[j]?.getD []).length : Nat) : Int) else 0
def routL (k : Int) (perm : List Int) (Ls : List (List Int)) : Nat → List Int
  | 0 => []
  | i + 1 => routL k perm Ls i ++ (Ls[i]?.getD []).map (rlowTo k perm Ls i Ls.length + ·)
def rfillT : Nat → TM → List Int
  | 0, _ => []
  | d + 1, .mk k perm ps => if ps.length = 0 then [0] else routL k perm (ps.map (rfillT d)) ps.length
/-- trees that fill may be asked for -/
def RGood : Nat → TM → Prop
  | 0, _ => False
  | d + 1, .mk k perm ps => (k = 3 → perm.length = ps.length) ∧ nodesT (d + 1) (.mk k perm ps) ≤ 1000 ∧ ∀ t ∈ ps, RGood d t
theorem rgood_can : ∀ (d : Nat) (t : TM), canT d t = true → nodesT d t ≤ 1000 → RGood d t
  | 0, t, h, _ => by simp [canT] at h
  | d + 1, .mk k perm ps, h, hn => by
    rw [canT] at h
    have hps := fun t (ht : t ∈ ps) => Nat.le_trans (nodes_part (k := k) (perm := perm) ht) hn
    split at h
    · rename_i h0
      simp at h
      refine ⟨fun e => by omega, hn, fun t ht => by rw [h.2] at ht; simp at ht⟩
    · rw [Bool.and_eq_true, List.all_eq_true] at h
      refine ⟨fun e => ?_, hn, fun t ht => rgood_can d t ?_ (hps t ht)⟩
      · have := h.1
        unfold headOk at this
        rw [if_neg (by omega)] at this
        simp at this
        exact this.1.1.2
      · have := h.2 t ht
        unfold partOk at this
        rw [Bool.and_eq_true] at this
        exact this.2
theorem routL_len {k : Int} {perm : List Int} {Ls : List (List Int)} : ∀ i, i ≤ Ls.length → (routL k perm Ls i).length = ((Ls.take i).map List.length).sum
  | 0, _ => by simp [routL]
  | i + 1, hi => by
    have e : Ls[i]? = some Ls[i] := List.getElem?_eq_getElem (by omega)
    rw [routL, List.length_append, List.length_map, routL_len i (by omega), List.take_add_one, e, List.map_append, List.sum_append]
    simp
theorem rfill_len : ∀ (d : Nat) (t : TM), (rfillT d t).length ≤ nodesT d t
  | 0, t => by simp [rfillT]
  | d + 1, .mk k perm ps => by
    rw [rfillT, nodesT]
    split
    · simp
    · rw [routL_len _ (by simp), List.take_of_length_le (by simp), List.map_map]
      have := sum_le_sum (l := ps) (f := List.length ∘ rfillT d) (g := nodesT d) (fun t _ => rfill_len d t)
      omega
theorem rlowTo_box {k : Int} {perm : List Int} {Ls : List (List Int)} {i : Nat} (h : ∀ l ∈ Ls, l.length ≤ 1000) : ∀ j, 0 ≤ rlowTo k perm Ls i j ∧ rlowTo k perm Ls i j ≤ 1000 * j
  | 0 => by simp [rlowTo]
  | j + 1 => by
    have ih := rlowTo_box (k := k) (perm := perm) (i := i) h j
    have : (Ls[j]?.getD []).length ≤ 1000 := by
      rcases hl : Ls[j]? with _ | l
      · simp
      · exact h l (List.mem_of_getElem? hl)
    rw [rlowTo]
    split <;> omega
theorem RGood.count {d : Nat} {k : Int} {perm : List Int} {ps : List TM} (h : RGood (d + 1) (.mk k perm ps)) : ps.length ≤ 1000 := by
  obtain ⟨_, h2, h3⟩ := h
  cases d with
  | zero =>
    rcases Nat.eq_zero_or_pos ps.length with h0 | h0
    · omega
    · exact (h3 _ (List.getElem_mem h0)).elim
  | succ d =>
    have h1 := nodes_count (d := d) (k := k) (perm := perm) (ps := ps)
    rw [nodesT] at h2
    omega
theorem RGood.nodes {d : Nat} {t : TM} (h : RGood d t) : nodesT d t ≤ 1000 := by
  cases d with
  | zero => exact h.elim
  | succ d => obtain ⟨k, perm, ps⟩ := t; exact h.2.1
theorem rfill_box : ∀ (d : Nat) (t : TM), RGood d t → (rfillT d t).length ≤ 1000 ∧ ∀ x ∈ rfillT d t, 0 ≤ x ∧ x ≤ 1000000 * d
  | 0, t, h => h.elim
  | d + 1, .mk k perm ps, h => by
    refine ⟨Nat.le_trans (rfill_len _ _) h.nodes, ?_⟩
    have hc := h.count
    rw [rfillT]
    split
    · intro x hx
      simp at hx; omega
    · have hls : ∀ l ∈ ps.map (rfillT d), l.length ≤ 1000 ∧ ∀ x ∈ l, 0 ≤ x ∧ x ≤ 1000000 * d := by
        intro l hl
        rw [List.mem_map] at hl
        obtain ⟨t, ht, rfl⟩ := hl
        exact rfill_box d t (h.2.2 t ht)
      have key : ∀ i, i ≤ ps.length → ∀ x ∈ routL k perm (ps.map (rfillT d)) i, 0 ≤ x ∧ x ≤ 1000000 * (d + 1 : Nat) := by
        intro i
        induction i with
        | zero => intro _ x hx; simp [routL] at hx
        | succ i ih =>
          intro hi x hx
          rw [routL, List.mem_append, List.mem_map] at hx
          rcases hx with hx | ⟨y, hy, rfl⟩
          · exact ih (by omega) x hx
          · have e : (ps.map (rfillT d))[i]? = some ((ps.map (rfillT d))[i]'(by simp; omega)) := List.getElem?_eq_getElem (by simp; omega)
            rw [e] at hy
            have h5 := (hls _ (List.getElem_mem _)).2 y hy
            have h6 := rlowTo_box (k := k) (perm := perm) (i := i) (fun l hl => (hls l hl).1) (ps.map (rfillT d)).length
            rw [List.length_map] at h6
            rw [List.length_map]
            omega
      exact key _ (Nat.le_refl _)
theorem routL_short {k : Int} {perm : List Int} {Ls : List (List Int)} (h : ∀ l ∈ Ls, l.length ≤ 1000) : ∀ q, (routL k perm Ls q).length ≤ 1000 * q
  | 0 => by simp [routL]
  | q + 1 => by
    have := routL_short (k := k) (perm := perm) h q
    rw [routL, List.length_append, List.length_map]
    rcases hl : Ls[q]? with _ | l
    · simp; omega
    · have := h l (List.mem_of_getElem? hl)
      simp; omega
theorem map_take_snoc2 {l : List Int} {e : Nat} {x c : Int} (h : l[e]? = some x) : (l.take (e + 1)).map (c + ·) = (l.take e).map (c + ·) ++ [c + x] := by
  rw [take_snoc' h, List.map_append]; rfl

/-- the value v owns the row values vs (of slices) -/
abbrev OwnV (w : World) (base : Nat) (v : Value) (vs : List Value) : Prop := w.ownsRow base 22 1 v vs.length vs
theorem RowsOwn.grown22 {w w' : World} {base b2 : Nat} {vs us : List Value} {Ls : List (List Int)} {v : Value} (h : RowsOwn w base vs Ls) (ho : OwnV w b2 v us) (hg : w.grownBy w' v.ownBlock) : RowsOwn w' base vs Ls := fun j u hj => by
  obtain ⟨l, h1, h2⟩ := h j u hj
  refine ⟨l, h1, Own.kept h2 hg fun g hgu e => ?_⟩
  rcases h2.2 with ⟨rfl, _⟩ | ⟨g', cap', cur', rfl, _, hg', _⟩
  · simp [Value.ownBlock] at hgu
  · rw [ob_some] at hgu
    cases hgu
    rcases ho.2 with ⟨rfl, _⟩ | ⟨g2, cap2, cur2, rfl, _, hg2, _⟩
    · simp [Value.ownBlock] at e
    · rw [ob_some] at e
      cases e
      have := hg'.symm.trans hg2
      simp at this
theorem OwnV.at_ {w : World} {base : Nat} {v : Value} {vs : List Value} (h : OwnV w base v vs) {n : Nat} (hn : vs.length = n) (h0 : 0 < n) : ∃ g cap, v = .slice (some ⟨g, 0, none⟩) n cap ∧ base ≤ g ∧ g < w.heap.size ∧ ∀ j u, vs[j]? = some u → w.cell? ⟨g, j, none⟩ = some u := by
  subst hn
  rcases h.2 with ⟨rfl, hz⟩ | ⟨g, cap, cur, rfl, hb, hgg, hn, hm, hc, htake⟩
  · omega
  · refine ⟨g, cap, rfl, hb, (Array.getElem?_eq_some_iff.1 hgg).1, fun j u hj => ?_⟩
    rw [cell_of_row w g j cur 22 (0, 0) hgg]
    have h2 := hj
    rw [← htake, List.getElem?_take] at h2
    split at h2
    · simpa using h2
    · cases h2
theorem OwnV.shape {w : World} {base : Nat} {v : Value} {vs : List Value} (h : OwnV w base v vs) {n : Nat} (hn : vs.length = n) : ∃ ad cap, v = .slice ad n cap := by
  subst hn
  rcases h.2 with ⟨rfl, hz⟩ | ⟨g, cap, cur, rfl, _⟩
  · rw [hz]; exact ⟨_, _, rfl⟩
  · exact ⟨_, _, rfl⟩
end Go.Proofs.Ytgajaccnjjiiaaa
