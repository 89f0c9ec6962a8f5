/- PermTrees: plain laws: the permutation of the tree of a permutation. -/
import Derived.Test.YtgajaccnjjiiaaaW57
import Derived.Test.YtgajaccnjjiiaaaW69
namespace Go.Proofs.Ytgajaccnjjiiaaa
open Go.RowKit

/-! The pieces, one behind the other. -/
def bnd (zs : List Int) (n k : Nat) : Nat := ((zs[k]?.map Int.toNat).getD n)
theorem bnd_in {zs : List Int} {n k : Nat} {a : Nat} (h : zs[k]? = some (a : Int)) : bnd zs n k = a := by rw [bnd, h]; simp
theorem bnd_out {zs : List Int} {n k : Nat} (h : zs.length ≤ k) : bnd zs n k = n := by rw [bnd, List.getElem?_eq_none h]; rfl
theorem piece_bnd {p zs : List Int} {k : Nat} (h : k < zs.length) : pieceM p zs k = (p.take (bnd zs p.length (k + 1))).drop (bnd zs p.length k) := by
  unfold pieceM bnd
  rw [List.getElem?_eq_getElem h]
  rfl
theorem bnd_mono {p : List Int} {zs : List Int} (hm : Marks p.length zs) {k : Nat} (hk : k < zs.length) : bnd zs p.length k < bnd zs p.length (k + 1) ∧ bnd zs p.length (k + 1) ≤ p.length := by
  obtain ⟨x, hx⟩ : ∃ x, zs[k]? = some x := ⟨_, List.getElem?_eq_getElem hk⟩
  have h0 := hm.2 x (List.mem_of_getElem? hx)
  obtain ⟨a, rfl⟩ := Int.eq_ofNat_of_zero_le h0.1
  rw [bnd_in hx]
  by_cases hl : k + 1 < zs.length
  · obtain ⟨y, hy⟩ : ∃ y, zs[k + 1]? = some y := ⟨_, List.getElem?_eq_getElem hl⟩
    have h1 := hm.2 y (List.mem_of_getElem? hy)
    obtain ⟨b, rfl⟩ := Int.eq_ofNat_of_zero_le h1.1
    rw [bnd_in hy]
    have := List.pairwise_iff_getElem.1 hm.1 k (k + 1) hk hl (by omega)
    rw [(List.getElem?_eq_some_iff.1 hx).2, (List.getElem?_eq_some_iff.1 hy).2] at this
    omega
  · rw [bnd_out (by omega)]; omega
theorem bnd_le {p : List Int} {zs : List Int} (hm : Marks p.length zs) {j k : Nat} (hjk : j ≤ k) (hk : k ≤ zs.length) : bnd zs p.length j ≤ bnd zs p.length k := by
  induction k with
  | zero => obtain rfl : j = 0 := by omega
            exact Nat.le_refl _
  | succ k ih =>
    by_cases e : j = k + 1
    · subst e; exact Nat.le_refl _
    · have := ih (by omega) (by omega)
      have := (bnd_mono hm (k := k) (by omega)).1
      omega
theorem take_piece {p zs : List Int} (hm : Marks p.length zs) {j : Nat} (hj : j < zs.length) : p.take (bnd zs p.length (j + 1)) = p.take (bnd zs p.length j) ++ pieceM p zs j := by
  rw [piece_bnd hj]
  have h := bnd_mono hm hj
  have e : p.take (bnd zs p.length j) = (p.take (bnd zs p.length (j + 1))).take (bnd zs p.length j) := by rw [List.take_take]; congr 1; omega
  rw [e, List.take_append_drop]
theorem piece_length {p zs : List Int} (hm : Marks p.length zs) {j : Nat} (hj : j < zs.length) : (pieceM p zs j).length = bnd zs p.length (j + 1) - bnd zs p.length j ∧ 0 < (pieceM p zs j).length := by
  have h := bnd_mono hm hj
  rw [piece_bnd hj, piece_len (by omega) h.2]
  omega
theorem marks_head {p : List Int} (h : 1 < p.length) : (marksM p)[0]? = some 0 := by
  have hc : ∀ r k, (cutsTo p r k)[0]? = some 0 := by
    intro r k
    induction k with
    | zero => rfl
    | succ k ih =>
      rw [cutsTo, List.getElem?_append_left (cutsTo_length p r k).1]; exact ih
  unfold marksM
  split
  · split
    · rw [blocksM, blocksFrom, dif_pos (by omega)]; rfl
    · exact hc _ _
  · exact hc _ _
theorem bnd_zero {p : List Int} (h : 1 < p.length) : bnd (marksM p) p.length 0 = 0 := bnd_in (a := 0) (marks_head h)
theorem piece_mem {p zs : List Int} {k : Nat} (hm : Marks p.length zs) (hk : k < zs.length) {x : Int} (hx : x ∈ pieceM p zs k) : ∃ i, bnd zs p.length k ≤ i ∧ i < bnd zs p.length (k + 1) ∧ i < p.length ∧ vat p i = x := by
  have h := bnd_mono hm hk
  obtain ⟨j, hj, e⟩ := mem_vat hx
  have hl := piece_length hm hk
  rw [piece_bnd hk, piece_vat (by omega)] at e
  exact ⟨bnd zs p.length k + j, by omega, by omega, by omega, e⟩

/-! Values are the numbers of lesser ones. -/
theorem iota_get {n i : Nat} (h : i < n) : (iota n)[i]? = some (i : Int) := by rw [iota, List.getElem?_map, List.getElem?_range h]; rfl
theorem perm_count {p : List Int} (hp : IsPerm p) {x : Int} (hx : x ∈ p) : ((p.countP (· < x) : Nat) : Int) = x := by
  have hx0 := hp.1 x hx
  have hn : (p.filter (· < x)).Nodup := hp.2.sublist List.filter_sublist
  have h1 := (fill_interval (l := p.filter (· < x)) (lo := 0) (hi := x - 1) hn (fun y hy => by
    rw [List.mem_filter] at hy
    have := hp.1 y hy.1
    have := hy.2
    simp at this; omega)).1
  have h2 := (nodup_cover (l := iota x.toNat) (m := p.filter (· < x)) (by
    refine nodup_of_vat fun i j hij hj => ?_
    rw [iota_len] at hj
    have e1 : vat (iota x.toNat) i = i := vat_of (iota_get (by omega))
    have e2 : vat (iota x.toNat) j = j := vat_of (iota_get hj)
    omega) (fun y hy => by
    have := iota_mem.1 hy
    exact List.mem_filter.2 ⟨hp.covers this.1 (by omega), by simp; omega⟩)).1
  rw [iota_len] at h2
  rw [List.countP_eq_length_filter]
  omega
theorem sumTake_set {l : List Int} {o m : Nat} {x : Int} (ho : o < l.length) (h0 : l[o]? = some 0) : sumTake (l.set o x) m = sumTake l m + if o < m then x else 0 := by
  induction m with
  | zero => simp [sumTake]
  | succ m ih =>
    by_cases hm : m < l.length
    · have h1 := sumTake_succ (vat_get hm)
      by_cases e : o = m
      · subst e
        have h2 : (l.set o x)[o]? = some x := List.getElem?_set_self ho
        have hv : vat l o = 0 := vat_of h0
        rw [sumTake_succ h2, ih, h1, hv, if_neg (by omega), if_pos (by omega)]
      · have h2 : (l.set o x)[m]? = some (vat l m) := by rw [List.getElem?_set_ne e]; exact vat_get hm
        rw [sumTake_succ h2, ih, h1]
        by_cases hom : o < m
        · rw [if_pos hom, if_pos (by omega)]; omega
        · rw [if_neg hom, if_neg (by omega)]; omega
    · unfold sumTake at ih ⊢
      rw [List.take_of_length_le (by rw [List.length_set]; omega), List.take_of_length_le (by omega)]
      rw [List.take_of_length_le (by rw [List.length_set]; omega), List.take_of_length_le (by omega)] at ih
      rw [ih, if_pos (by omega), if_pos (by omega)]

/-- the places of the pieces are in the order of their values -/
structure Placed (p zs os : List Int) : Prop where
  len : os.length = zs.length
  box : ∀ k, k < zs.length → 0 ≤ vat os k ∧ vat os k < zs.length
  inj : ∀ i k, i < zs.length → k < zs.length → vat os i = vat os k → i = k
  ord : ∀ i k, i < zs.length → k < zs.length → i ≠ k → ∀ x ∈ pieceM p zs i, ∀ y ∈ pieceM p zs k, (y < x ↔ vat os k < vat os i)

theorem sz_zero {os : List Int} {Ls : List (List Int)} {m : Nat} (hl : os.length = m) (hb : ∀ k, k < m → 0 ≤ vat os k ∧ vat os k < m) (hi : ∀ i k, i < m → k < m → vat os i = vat os k → i = k) : ∀ j, j ≤ m → ∀ k, j ≤ k → k < m → (szL os Ls j)[(vat os k).toNat]? = some 0
  | 0, _, k, _, hk => by
    have := hb k hk
    rw [szL, List.getElem?_replicate, if_pos (by omega)]
  | j + 1, hj, k, hjk, hk => by
    have h1 := hb k hk
    have h2 := hb j (by omega)
    rw [szL, List.getElem?_set_ne]
    · exact sz_zero hl hb hi j (by omega) k (by omega) hk
    · intro e
      have := hi j k (by omega) hk (by omega)
      omega
theorem placed_count {p zs os : List Int} (hm : Marks p.length zs) (hz : bnd zs p.length 0 = 0) (hP : Placed p zs os) {Ls : List (List Int)} (hL : ∀ k, k < zs.length → ∃ l, Ls[k]? = some l ∧ l.length = (pieceM p zs k).length)
    {i : Nat} (hi : i < zs.length) {x : Int} (hx : x ∈ pieceM p zs i) : ∀ j, j ≤ zs.length →
    (((p.take (bnd zs p.length j)).countP (· < x) : Nat) : Int) = sumTake (szL os Ls j) (vat os i).toNat + if i < j then (((pieceM p zs i).countP (· < x) : Nat) : Int) else 0
  | 0, _ => by
    rw [hz, if_neg (by omega)]
    have hs : ∀ n m : Nat, sumTake (List.replicate n 0) m = 0 := fun n m => by
      unfold sumTake
      rw [List.take_replicate]
      generalize min m n = c
      induction c with
      | zero => rfl
      | succ c ih => rw [List.replicate_succ, List.sum_cons, ih]; rfl
    rw [szL, hs]; simp
  | j + 1, hj => by
    have ih := placed_count hm hz hP hL hi hx j (by omega)
    obtain ⟨l, hl1, hl2⟩ := hL j (by omega)
    have hbj := hP.box j (by omega)
    have hbi := hP.box i hi
    have h0 := sz_zero (Ls := Ls) hP.len hP.box hP.inj j (by omega) j (Nat.le_refl _) (by omega)
    rw [take_piece hm (by omega), List.countP_append, szL, hl1, sumTake_set (by rw [szL_len, hP.len]; omega) h0]
    simp only [Option.getD_some]
    by_cases e : j = i
    · subst e
      rw [if_neg (show ¬ j < j by omega)] at ih
      rw [if_neg (by omega), if_pos (by omega)]
      omega
    · have ho := hP.ord i j hi (by omega) (fun h => e h.symm) x hx
      by_cases hlt : vat os j < vat os i
      · have hc : (pieceM p zs j).countP (· < x) = (pieceM p zs j).length := by
          rw [List.countP_eq_length]
          intro y hy
          simpa using (ho y hy).2 hlt
        rw [if_pos (by omega)]
        by_cases hij : i < j
        · rw [if_pos hij] at ih
          rw [if_pos (by omega)]; omega
        · rw [if_neg hij] at ih
          rw [if_neg (by omega)]; omega
      · have hc : (pieceM p zs j).countP (· < x) = 0 := by
          rw [List.countP_eq_zero]
          intro y hy
          have := mt (ho y hy).1 hlt
          simpa using this
        rw [if_neg (by omega)]
        by_cases hij : i < j
        · rw [if_pos hij] at ih
          rw [if_pos (by omega)]; omega
        · rw [if_neg hij] at ih
          rw [if_neg (by omega)]; omega
theorem placed_out {p zs os : List Int} (hp : IsPerm p) (hm : Marks p.length zs) (hz : bnd zs p.length 0 = 0) (hP : Placed p zs os) {Ls : List (List Int)} (hL : ∀ k, k < zs.length → Ls[k]? = some (flatM (pieceM p zs k))) :
    ∀ j, j ≤ zs.length → outL os Ls j = p.take (bnd zs p.length j)
  | 0, _ => by rw [hz]; rfl
  | j + 1, hj => by
    rw [outL, placed_out hp hm hz hP hL j (by omega), take_piece hm (by omega), hL j (by omega)]
    congr 1
    simp only [Option.getD_some]
    apply List.ext_getElem?
    intro i
    rw [List.getElem?_map, flatM, List.getElem?_map]
    by_cases hi : i < (pieceM p zs j).length
    · have hx := vat_get hi
      have hmem := vat_mem hi
      generalize vat (pieceM p zs j) i = x at *
      rw [hx]
      simp only [Option.map_some, Option.some.injEq]
      have hc := placed_count hm hz hP (Ls := Ls) (fun k hk => ⟨_, hL k hk, by rw [flatM_len]⟩) (show j < zs.length by omega) hmem zs.length (Nat.le_refl _)
      rw [bnd_out (Nat.le_refl _), List.take_of_length_le (Nat.le_refl _), if_pos (by omega), perm_count hp (by
        obtain ⟨q, _, _, q1, q2⟩ := piece_mem hm (by omega) hmem
        exact q2 ▸ vat_mem q1)] at hc
      unfold lowL
      rw [hP.len]
      omega
    · rw [List.getElem?_eq_none (by omega)]; rfl
end Go.Proofs.Ytgajaccnjjiiaaa
