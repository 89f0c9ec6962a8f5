/- PermTrees: plain laws: what Fill makes of the tree of a permutation. -/
import Derived.Test.YtgajaccnjjiiaaaW70
namespace Go.Proofs.Ytgajaccnjjiiaaa
open Go.RowKit

theorem vat_eq' {p : List Int} (h : p.Nodup) {i k : Nat} (hi : i < p.length) (hk : k < p.length) (e : vat p i = vat p k) : i = k := by
  rcases Nat.lt_trichotomy i k with h1 | h1 | h1
  · exact absurd e (vat_inj h h1 hk)
  · exact h1
  · exact absurd e.symm (vat_inj h h1 hi)
theorem bnd_mem {p : List Int} {k : Nat} (h0 : 0 < p.length) (hk : k < (marksM p).length) : ((bnd (marksM p) p.length k : Nat) : Int) ∈ marksM p ∧ bnd (marksM p) p.length k < p.length := by
  obtain ⟨x, hx⟩ : ∃ x, (marksM p)[k]? = some x := ⟨_, List.getElem?_eq_getElem hk⟩
  have h1 := (marksM_marks h0).2 x (List.mem_of_getElem? hx)
  obtain ⟨a, rfl⟩ := Int.eq_ofNat_of_zero_le h1.1
  rw [bnd_in hx]
  exact ⟨List.mem_of_getElem? hx, by omega⟩
theorem marks_cut_of {p : List Int} (hp : IsPerm p) (h1 : 1 < p.length) {r : Bool} (he : marksM p = cutsM p r) {i : Nat} (h0 : 0 < i) (hi : i < (marksM p).length) : Cuts p r (bnd (marksM p) p.length i) ∧ 0 < bnd (marksM p) p.length i := by
  have hm := marksM_marks (p := p) (by omega)
  obtain ⟨m1, m2⟩ := bnd_mem (p := p) (by omega) hi
  have hpos : 0 < bnd (marksM p) p.length i := by
    have := bnd_le hm (j := 1) (k := i) (by omega) (by omega)
    have h01 := (bnd_mono hm (k := 0) (by omega)).1
    rw [Nat.zero_add] at h01
    omega
  rw [he] at m1
  rcases (cuts_mem hp r (by omega)).1 m1 with h | ⟨a, e, _, _, hc⟩
  · rw [← he] at h; omega
  · rw [← he] at e
    have : bnd (marksM p) p.length i = a := by omega
    rw [this] at hpos ⊢
    exact ⟨hc, hpos⟩
theorem kind_marks {p : List Int} : (kindM p = 1 ∧ marksM p = cutsM p true ∧ topsM p = []) ∨ (kindM p = 2 ∧ marksM p = cutsM p false ∧ topsM p = []) ∨ (kindM p = 3 ∧ marksM p = blocksM p ∧ topsM p = flatM (pickM p)) := by
  unfold kindM marksM topsM
  split
  · split
    · exact .inr (.inr ⟨rfl, rfl, rfl⟩)
    · exact .inr (.inl ⟨rfl, rfl, rfl⟩)
  · exact .inl ⟨rfl, rfl, rfl⟩

/-! Blocks are intervals. -/
theorem span_in {p : List Int} {i : Nat} : ∀ m j, i ≤ j → j ≤ i + m → (spanTo p i m).1 ≤ vat p j ∧ vat p j ≤ (spanTo p i m).2
  | 0, j, h1, h2 => by
    obtain rfl : j = i := by omega
    exact ⟨Int.le_refl _, Int.le_refl _⟩
  | m + 1, j, h1, h2 => by
    have e1 : (spanTo p i (m + 1)).1 = min (spanTo p i m).1 (vat p (i + 1 + m)) := rfl
    have e2 : (spanTo p i (m + 1)).2 = max (spanTo p i m).2 (vat p (i + 1 + m)) := rfl
    by_cases e : j = i + 1 + m
    · subst e; omega
    · have := span_in (p := p) (i := i) m j h1 (by omega)
      omega
def Interval (l : List Int) : Prop := ∀ x ∈ l, ∀ y ∈ l, ∀ v, x ≤ v → v ≤ y → v ∈ l
theorem interval_of {l : List Int} {lo hi : Int} (hn : l.Nodup) (hb : ∀ x ∈ l, lo ≤ x ∧ x ≤ hi) (hl : (l.length : Int) = hi - lo + 1) : Interval l := fun x hx y hy v h1 h2 => by
  have := hb x hx
  have := hb y hy
  exact (fill_interval hn hb).2 hl v (by omega) (by omega)
theorem endTo_interval {p : List Int} (hp : p.Nodup) {i : Nat} (hi : i < p.length) : ∀ m, i + 1 + m ≤ p.length → Interval ((p.take (endTo p i m)).drop i)
  | 0, _ => by
    rw [endTo]
    have hl : ((p.take (i + 1)).drop i).length = 1 := by rw [piece_len (by omega) (by omega)]; omega
    obtain ⟨x, hx⟩ := List.length_eq_one_iff.1 hl
    rw [hx]
    intro a ha b hb v h1 h2
    rw [List.mem_singleton] at ha hb ⊢
    omega
  | m + 1, hm => by
    rw [endTo]
    split
    · rename_i h
      have hl := piece_len (p := p) (a := i) (b := i + 1 + m + 1) (by omega) (by omega)
      refine interval_of (lo := (spanTo p i (m + 1)).1) (hi := (spanTo p i (m + 1)).2) (piece_nodup hp _ _) (fun x hx => ?_) (by rw [hl]; omega)
      obtain ⟨j, hj, e⟩ := mem_vat hx
      rw [hl] at hj
      rw [piece_vat (by omega)] at e
      rw [← e]
      exact span_in (m + 1) (i + j) (by omega) (by omega)
    · exact endTo_interval hp hi m (by omega)
theorem blocks_next (p : List Int) : ∀ (i k : Nat) (a : Nat), (blocksFrom p i)[k]? = some (a : Int) → bnd (blocksFrom p i) p.length (k + 1) = endM p a ∧ a < p.length := by
  intro i
  induction i using blocksFrom.induct p with
  | case1 i h ih =>
    intro k a hk
    rw [blocksFrom, dif_pos h] at hk ⊢
    cases k with
    | zero =>
      simp only [List.getElem?_cons_zero, Option.some.injEq] at hk
      have : i = a := by omega
      subst this
      refine ⟨?_, h⟩
      rw [bnd, List.getElem?_cons_succ]
      by_cases he : endM p i < p.length
      · rw [blocksFrom, dif_pos he]; simp
      · rw [blocksFrom, dif_neg he]
        have h1 := endTo_le p i (p.length - (i + 1))
        have : endM p i = p.length := by unfold endM at he ⊢; omega
        simp [this]
    | succ k =>
      rw [List.getElem?_cons_succ] at hk
      obtain ⟨h1, h2⟩ := ih k a hk
      refine ⟨?_, h2⟩
      rw [bnd, List.getElem?_cons_succ]
      exact h1
  | case2 i h => intro k a hk; rw [blocksFrom, dif_neg h] at hk; simp at hk
theorem block_interval {p : List Int} (hp : p.Nodup) {k : Nat} (hk : k < (blocksM p).length) : Interval (pieceM p (blocksM p) k) := by
  obtain ⟨x, hx⟩ : ∃ x, (blocksM p)[k]? = some x := ⟨_, List.getElem?_eq_getElem hk⟩
  have h1 := (blocksM_marks p).2 x (List.mem_of_getElem? hx)
  obtain ⟨a, rfl⟩ := Int.eq_ofNat_of_zero_le h1.1
  obtain ⟨e1, e2⟩ := blocks_next p 0 k a hx
  rw [piece_bnd hk, bnd_in hx]
  change bnd (blocksM p) p.length (k + 1) = _ at e1
  rw [e1]
  exact endTo_interval hp e2 _ (by omega)

/-- two different pieces have no value in common -/
theorem piece_apart {p : List Int} (hp : p.Nodup) {zs : List Int} (hm : Marks p.length zs) {i k : Nat} (hi : i < zs.length) (hk : k < zs.length) (hne : i ≠ k) {x : Int} (h1 : x ∈ pieceM p zs i) (h2 : x ∈ pieceM p zs k) : False := by
  obtain ⟨a, a1, a2, a3, a4⟩ := piece_mem hm hi h1
  obtain ⟨b, b1, b2, b3, b4⟩ := piece_mem hm hk h2
  have e := a4.trans b4.symm
  rcases Nat.lt_or_gt_of_ne hne with h | h
  · have := bnd_le hm (j := i + 1) (k := k) (by omega) (by omega)
    exact vat_inj hp (show a < b by omega) b3 e
  · have := bnd_le hm (j := k + 1) (k := i) (by omega) (by omega)
    exact vat_inj hp (show b < a by omega) a3 e.symm
theorem pick_len (p : List Int) : (pickM p).length = (blocksM p).length := by simp [pickM]
theorem pick_vat {p : List Int} {k : Nat} (hk : k < (blocksM p).length) : vat (pickM p) k = vat p (bnd (blocksM p) p.length k) := by
  apply vat_of
  rw [pickM, List.getElem?_map, bnd, List.getElem?_eq_getElem hk]; rfl
theorem pick_in {p : List Int} {k : Nat} (hk : k < (blocksM p).length) : vat (pickM p) k ∈ pieceM p (blocksM p) k := by
  have h := bnd_mono (blocksM_marks p) hk
  rw [pick_vat hk, piece_bnd hk]
  have := piece_vat (p := p) (a := bnd (blocksM p) p.length k) (b := bnd (blocksM p) p.length (k + 1)) (i := 0) (by omega)
  simp only [Nat.add_zero] at this
  rw [← this]
  exact vat_mem (by rw [piece_len (by omega) h.2]; omega)
theorem pick_nodup {p : List Int} (hp : p.Nodup) : (pickM p).Nodup := by
  refine nodup_of_vat fun i k hik hk e => ?_
  rw [pick_len] at hk
  have h1 := pick_in (p := p) (k := i) (by omega)
  rw [e] at h1
  exact piece_apart hp (blocksM_marks p) (by omega) hk (by omega) h1 (pick_in hk)
theorem block_order {p : List Int} (hp : p.Nodup) {i k : Nat} (hi : i < (blocksM p).length) (hk : k < (blocksM p).length) (hne : i ≠ k) {x y : Int} (hx : x ∈ pieceM p (blocksM p) i) (hy : y ∈ pieceM p (blocksM p) k) : y < x ↔ vat (pickM p) k < vat (pickM p) i := by
  have hm := blocksM_marks p
  have I := block_interval hp hi
  have K := block_interval hp hk
  have fi := pick_in hi
  have fk := pick_in hk
  have ap := fun v (h1 : v ∈ pieceM p (blocksM p) i) (h2 : v ∈ pieceM p (blocksM p) k) => piece_apart hp hm hi hk hne h1 h2
  generalize vat (pickM p) i = a at *
  generalize vat (pickM p) k = b at *
  have nxy : x ≠ y := by rintro rfl; exact ap x hx hy
  have nab : a ≠ b := by rintro rfl; exact ap a fi fk
  have nay : a ≠ y := by rintro rfl; exact ap a fi hy
  have nbx : b ≠ x := by rintro rfl; exact ap b hx fk
  constructor
  · intro h
    apply Int.not_le.1
    intro hab
    -- a < b, y < x
    by_cases h1 : y < a
    · exact ap a fi (K y hy b fk a (by omega) (by omega))
    · exact ap y (I a fi x hx y (by omega) (by omega)) hy
  · intro h
    apply Int.not_le.1
    intro hxy
    by_cases h1 : b < x
    · exact ap x hx (K b fk y hy x (by omega) (by omega))
    · exact ap b (I x hx a fi b (by omega) (by omega)) fk

theorem tree_placed {p : List Int} (hp : IsPerm p) (h1 : 1 < p.length) : Placed p (marksM p) (ordL (kindM p) (topsM p) (marksM p).length) := by
  have hm := marksM_marks (p := p) (by omega)
  have h2 := marksM_two h1
  rcases kind_marks (p := p) with ⟨e1, e2, e3⟩ | ⟨e1, e2, e3⟩ | ⟨e1, e2, e3⟩
  · have hv : ∀ k, k < (marksM p).length → vat (ordL (kindM p) (topsM p) (marksM p).length) k = k := fun k hk => by rw [ordL_vat hk, e1, ordF, if_pos rfl]
    refine ⟨ordL_len _ _ _, fun k hk => by rw [hv k hk]; omega, fun i k hi hk h => by rw [hv i hi, hv k hk] at h; omega, fun i k hi hk hne x hx y hy => ?_⟩
    rw [hv i hi, hv k hk]
    obtain ⟨a, a1, a2, a3, rfl⟩ := piece_mem hm hi hx
    obtain ⟨b, b1, b2, b3, rfl⟩ := piece_mem hm hk hy
    rcases Nat.lt_or_gt_of_ne hne with h | h
    · have hc : Rises (vat p) p.length _ := (marks_cut_of hp h1 e2 (i := k) (by omega) hk).1
      have := bnd_le hm (j := i + 1) (k := k) (by omega) (by omega)
      have := hc a b (by omega) (by omega) b3
      omega
    · have hc : Rises (vat p) p.length _ := (marks_cut_of hp h1 e2 (i := i) (by omega) hi).1
      have := bnd_le hm (j := k + 1) (k := i) (by omega) (by omega)
      have := hc b a (by omega) (by omega) a3
      omega
  · have hv : ∀ k, k < (marksM p).length → vat (ordL (kindM p) (topsM p) (marksM p).length) k = ((marksM p).length : Int) - 1 - k := fun k hk => by rw [ordL_vat hk, e1, ordF, if_neg (by decide), if_pos rfl]
    refine ⟨ordL_len _ _ _, fun k hk => by rw [hv k hk]; omega, fun i k hi hk h => by rw [hv i hi, hv k hk] at h; omega, fun i k hi hk hne x hx y hy => ?_⟩
    rw [hv i hi, hv k hk]
    obtain ⟨a, a1, a2, a3, rfl⟩ := piece_mem hm hi hx
    obtain ⟨b, b1, b2, b3, rfl⟩ := piece_mem hm hk hy
    rcases Nat.lt_or_gt_of_ne hne with h | h
    · have hc : Drops (vat p) p.length _ := (marks_cut_of hp h1 e2 (i := k) (by omega) hk).1
      have := bnd_le hm (j := i + 1) (k := k) (by omega) (by omega)
      have := hc a b (by omega) (by omega) b3
      omega
    · have hc : Drops (vat p) p.length _ := (marks_cut_of hp h1 e2 (i := i) (by omega) hi).1
      have := bnd_le hm (j := k + 1) (k := i) (by omega) (by omega)
      have := hc b a (by omega) (by omega) a3
      omega
  · rw [e2] at h2 hm ⊢
    have hpl := pick_len p
    have hfp := flat_perm (pick_nodup hp.2)
    have hfl := flatM_len (pickM p)
    have hv : ∀ k, k < (blocksM p).length → vat (ordL (kindM p) (topsM p) (blocksM p).length) k = vat (flatM (pickM p)) k := fun k hk => by rw [ordL_vat hk, e1, ordF, if_neg (by decide), if_neg (by decide), e3]
    refine ⟨ordL_len _ _ _, fun k hk => ?_, fun i k hi hk h => ?_, fun i k hi hk hne x hx y hy => ?_⟩
    · rw [hv k hk]
      have := hfp.1 _ (vat_mem (show k < (flatM (pickM p)).length by omega))
      omega
    · rw [hv i hi, hv k hk] at h
      exact vat_eq' hfp.2 (by omega) (by omega) h
    · rw [hv i hi, hv k hk, flat_lt (by omega) (by omega)]
      exact block_order hp.2 hi hk hne hx hy
theorem blocks_four {p : List Int} (hp : IsPerm p) (h1 : 1 < p.length) (h3 : kindM p = 3) : 4 ≤ (blocksM p).length := by
  have hk := kind_three.1 h3
  rw [cuts_one hp _ (by omega), cuts_one hp _ (by omega)] at hk
  have h2 := blocksM_two h1
  apply Nat.le_of_not_lt
  intro hlt
  have hm := blocksM_marks p
  have hz : bnd (blocksM p) p.length 0 = 0 := by
    have e : marksM p = blocksM p := by
      rcases kind_marks (p := p) with ⟨e, _⟩ | ⟨e, _⟩ | ⟨_, e, _⟩
      · omega
      · omega
      · exact e
    rw [← e]; exact bnd_zero h1
  obtain ⟨a, a0, al, ha⟩ := sep_cut (f := vat (pickM p)) (n := (blocksM p).length) h2 (fun i k hik hk => vat_inj (pick_nodup hp.2) hik (by rw [pick_len]; exact hk))
    (by rintro ⟨i, j, k, l, h⟩; omega) (by rintro ⟨i, j, k, l, h⟩; omega)
  have hb := bnd_mono hm al
  have hb0 : 0 < bnd (blocksM p) p.length a := by
    have := bnd_le hm (j := 1) (k := a) (by omega) (by omega)
    have h01 := (bnd_mono hm (k := 0) (by omega)).1
    rw [Nat.zero_add] at h01
    omega
  -- the piece of a position
  have hpc : ∀ q, q < p.length → ∃ k, k < (blocksM p).length ∧ bnd (blocksM p) p.length k ≤ q ∧ q < bnd (blocksM p) p.length (k + 1) := by
    intro q hq
    have key : ∀ j, j ≤ (blocksM p).length → q < bnd (blocksM p) p.length j → ∃ k, k < j ∧ bnd (blocksM p) p.length k ≤ q ∧ q < bnd (blocksM p) p.length (k + 1) := by
      intro j
      induction j with
      | zero => intro _ h; omega
      | succ j ih =>
        intro hj h
        by_cases h' : q < bnd (blocksM p) p.length j
        · obtain ⟨k, k1, k2⟩ := ih (by omega) h'
          exact ⟨k, by omega, k2⟩
        · exact ⟨j, by omega, by omega, h⟩
    exact key _ (Nat.le_refl _) (by rw [bnd_out (Nat.le_refl _)]; exact hq)
  have hin : ∀ q k, k < (blocksM p).length → bnd (blocksM p) p.length k ≤ q → q < bnd (blocksM p) p.length (k + 1) → vat p q ∈ pieceM p (blocksM p) k := by
    intro q k hk h5 h6
    have hbm := bnd_mono hm hk
    rw [piece_bnd hk]
    have := piece_vat (p := p) (a := bnd (blocksM p) p.length k) (b := bnd (blocksM p) p.length (k + 1)) (i := q - bnd (blocksM p) p.length k) (by omega)
    rw [show bnd (blocksM p) p.length k + (q - bnd (blocksM p) p.length k) = q by omega] at this
    rw [← this]
    exact vat_mem (by rw [piece_len (by omega) hbm.2]; omega)
  have hlift : ∀ q r, q < bnd (blocksM p) p.length a → bnd (blocksM p) p.length a ≤ r → r < p.length → ∃ i k, i < a ∧ a ≤ k ∧ k < (blocksM p).length ∧ vat p q ∈ pieceM p (blocksM p) i ∧ vat p r ∈ pieceM p (blocksM p) k := by
    intro q r hq hr hrl
    obtain ⟨i, i1, i2, i3⟩ := hpc q (by omega)
    obtain ⟨k, k1, k2, k3⟩ := hpc r hrl
    refine ⟨i, k, ?_, ?_, k1, hin q i i1 i2 i3, hin r k k1 k2 k3⟩
    · apply Nat.lt_of_not_le
      intro h
      have := bnd_le hm (j := a) (k := i) h (by omega)
      omega
    · apply Nat.le_of_not_lt
      intro h
      have := bnd_le hm (j := k + 1) (k := a) (by omega) (by omega)
      omega
  rcases ha with ha | ha
  · refine hk.1 _ hb0 (by omega) fun q r hq hr hrl => ?_
    obtain ⟨i, k, g1, g2, g3, g4, g5⟩ := hlift q r hq hr hrl
    exact (block_order hp.2 g3 (by omega) (by omega) g5 g4).2 (ha i k g1 g2 g3)
  · refine hk.2 _ hb0 (by omega) fun q r hq hr hrl => ?_
    obtain ⟨i, k, g1, g2, g3, g4, g5⟩ := hlift q r hq hr hrl
    exact (block_order hp.2 (by omega) g3 (by omega) g4 g5).2 (ha i k g1 g2 g3)

theorem deep_mono : ∀ {d e : Nat} {t : TM}, DeepAt d t → d ≤ e → DeepAt e t
  | 0, _, _, h, _ => h.elim
  | d + 1, 0, _, _, he => by omega
  | d + 1, e + 1, .mk k p ts, h, he => by
    rw [DeepAt] at h ⊢
    exact fun t ht => deep_mono (h t ht) (by omega)
theorem size_nodes : ∀ (l : Nat) (t : TM), DeepAt l t → nodesT l t ≤ 1000 → sizeT l t = nodesT l t
  | 0, _, h, _ => h.elim
  | l + 1, .mk k perm ps, hd, h => by
    rw [DeepAt] at hd
    rw [nodesT] at h ⊢
    rw [sizeT]
    have key : ∀ (ts : List TM) (n : Nat), (∀ t ∈ ts, sizeT l t = nodesT l t) → n + (ts.map (nodesT l)).sum ≤ 1000 → addN (sizeT l) ts n = n + (ts.map (nodesT l)).sum := by
      intro ts
      induction ts with
      | nil => intro n _ _; simp [addN]
      | cons t ts ih =>
        intro n h1 h2
        rw [List.map_cons, List.sum_cons] at h2 ⊢
        rw [addN, h1 t (by simp), if_neg (by omega), ih _ (fun u hu => h1 u (by simp [hu])) (by omega)]
        omega
    refine key ps 1 (fun t ht => size_nodes l t (hd t ht) ?_) h
    have := nodes_part (d := l) (k := k) (perm := perm) ht
    rw [nodesT] at this
    omega

theorem tree_fills : ∀ (d : Nat) (p : List Int), IsPerm p → 0 < p.length → p.length ≤ d → p.length ≤ 60 → ∀ e, d < e → nodesT e (treeF d p) + 1 ≤ 2 * p.length ∧ fitsT e (treeF d p) = true ∧ filledT e (treeF d p) = p
  | 0, p, _, h0, hd, _, _, _ => by omega
  | d + 1, p, hp, h0, hd, h60, 0, he => by omega
  | d + 1, p, hp, h0, hd, h60, e + 1, he => by
    rw [treeF]
    by_cases h1 : p.length = 1
    · rw [if_pos h1]
      refine ⟨by rw [nodesT]; simp; omega, by rw [fitsT]; rfl, ?_⟩
      rw [filledT, if_pos rfl]
      obtain ⟨x, rfl⟩ := List.length_eq_one_iff.1 h1
      have := hp.1 x (by simp)
      simp at this
      congr 1; omega
    · rw [if_neg h1]
      have hn1 : 1 < p.length := by omega
      have hm := marksM_marks (p := p) h0
      have h2 := marksM_two hn1
      have hpart : ∀ k, k < (marksM p).length → nodesT e (treeF d (flatM (pieceM p (marksM p) k))) + 1 ≤ 2 * (pieceM p (marksM p) k).length ∧ fitsT e (treeF d (flatM (pieceM p (marksM p) k))) = true ∧ filledT e (treeF d (flatM (pieceM p (marksM p) k))) = flatM (pieceM p (marksM p) k) := by
        intro k hk
        have hl := piece_length hm hk
        have hb := bnd_mono hm hk
        have hlt : (pieceM p (marksM p) k).length < p.length := by
          rw [hl.1]
          have h3 := bnd_zero hn1
          rcases Nat.eq_zero_or_pos k with rfl | hk0
          · have h11 := (bnd_mono hm (k := 1) (by omega)).1
            have h12 := (bnd_mono hm (k := 1) (by omega)).2
            simp only [Nat.zero_add] at *
            omega
          · have := bnd_le hm (j := 1) (k := k) (by omega) (by omega)
            have h01 := (bnd_mono hm (k := 0) (by omega)).1
            rw [Nat.zero_add] at h01
            omega
        have hnd : (pieceM p (marksM p) k).Nodup := by rw [piece_bnd hk]; exact piece_nodup hp.2 _ _
        have := tree_fills d (flatM (pieceM p (marksM p) k)) (flat_perm hnd) (by rw [flatM_len]; exact hl.2) (by rw [flatM_len]; omega) (by rw [flatM_len]; omega) e (by omega)
        rwa [flatM_len] at this
      have hpl : ((List.range (marksM p).length).map fun k => treeF d (flatM (pieceM p (marksM p) k))).length = (marksM p).length := by simp
      refine ⟨?_, ?_, ?_⟩
      · rw [nodesT, List.map_map]
        have key : ∀ j, j ≤ (marksM p).length → ((List.range j).map (nodesT e ∘ fun k => treeF d (flatM (pieceM p (marksM p) k)))).sum + j ≤ 2 * bnd (marksM p) p.length j := by
          intro j
          induction j with
          | zero => intro _; simp
          | succ j ih =>
            intro hj
            have h3 := ih (by omega)
            have h4 := hpart j (by omega)
            have h5 := piece_length hm (show j < (marksM p).length by omega)
            have h6 := bnd_mono hm (show j < (marksM p).length by omega)
            rw [List.range_succ, List.map_append, List.sum_append]
            simp only [List.map_cons, List.map_nil, List.sum_cons, List.sum_nil, Function.comp_apply]
            omega
        have := key _ (Nat.le_refl _)
        rw [bnd_out (Nat.le_refl _)] at this
        omega
      · have hall : ((List.range (marksM p).length).map fun k => treeF d (flatM (pieceM p (marksM p) k))).all (fitsT e) = true := by
          rw [List.all_eq_true]
          intro t ht
          rw [List.mem_map] at ht
          obtain ⟨k, hk, rfl⟩ := ht
          exact (hpart k (List.mem_range.1 hk)).2.1
        rcases kind_marks (p := p) with ⟨e1, e2, e3⟩ | ⟨e1, e2, e3⟩ | ⟨e1, e2, e3⟩
        · rw [fitsT, e1, if_neg (by decide), if_pos (.inl rfl), if_neg (by rw [hpl, e3]; simp; omega)]
          exact hall
        · rw [fitsT, e1, if_neg (by decide), if_pos (.inr rfl), if_neg (by rw [hpl, e3]; simp; omega)]
          exact hall
        · have h4 := blocks_four hp hn1 e1
          have hml := marksM_len (p := p) h0
          rw [fitsT, e1, if_neg (by decide), if_neg (by decide), if_pos rfl, if_neg]
          · exact hall
          · rw [hpl, e3, flatM_len, pick_len, e2]
            rw [e2] at hml
            have hck : checkM (flatM (pickM p)) = 0 := (checkM_iff _).2 ⟨by rw [flatM_len, pick_len]; omega, flat_perm (pick_nodup hp.2)⟩
            rw [hck]; omega
      · have hk0 : kindM p ≠ 0 := by
          rcases kind_marks (p := p) with ⟨e1, _⟩ | ⟨e1, _⟩ | ⟨e1, _⟩ <;> rw [e1] <;> decide
        rw [filledT, if_neg hk0, hpl, placed_out hp hm (bnd_zero hn1) (tree_placed hp hn1) (fun k hk => ?_) _ (Nat.le_refl _), bnd_out (Nat.le_refl _), List.take_of_length_le (Nat.le_refl _)]
        rw [List.getElem?_map, List.getElem?_map, List.getElem?_range hk]
        simp only [Option.map_some, (hpart k hk).2.2]
theorem fill_tree {p : List Int} (h : checkM p = 0) : fillM (treeF 60 p) = some p := by
  obtain ⟨⟨h0, h60⟩, hp⟩ := (checkM_iff p).1 h
  obtain ⟨h1, h2, h3⟩ := tree_fills 60 p hp h0 h60 h60 100 (by omega)
  have hd : DeepAt 100 (treeF 60 p) := deep_mono (deep_treeF 60 p) (by omega)
  have hs := size_nodes 100 (treeF 60 p) hd (by omega)
  rw [fillM, if_pos ⟨by rw [hs]; omega, h2⟩, h3, if_pos ⟨h, eqT_self 61 _ (deep_treeF 60 p)⟩]
end Go.Proofs.Ytgajaccnjjiiaaa
