/- Plain laws of cuts and pieces: the marks of a permutation; which permutations have a simple node. -/
import Derived.Test.YtgajaccnjjiiaaaW53
import Derived.Test.YtgajaccnjjiiaaaL2
namespace Go.Proofs.Ytgajaccnjjiiaaa
open Go.RowKit

/-! The flat form of numbers keeps their order. -/
theorem countP_lt_of {l : List Int} {x y : Int} (hx : x ∈ l) (h : x < y) : l.countP (· < x) < l.countP (· < y) := by
  induction l with
  | nil => simp at hx
  | cons z l ih =>
    have hmono : l.countP (· < x) ≤ l.countP (· < y) := List.countP_mono_left (fun u _ hu => by simp at hu ⊢; omega)
    simp only [List.countP_cons]
    rcases List.mem_cons.1 hx with rfl | hx
    · simp [h]; omega
    · have := ih hx
      by_cases h1 : z < x
      · simp [h1, Int.lt_trans h1 h]; omega
      · by_cases h2 : z < y <;> simp [h1, h2] <;> omega
theorem countP_le_of {l : List Int} {x y : Int} (h : x ≤ y) : l.countP (· < x) ≤ l.countP (· < y) := List.countP_mono_left (fun u _ hu => by simp at hu ⊢; omega)
theorem flat_vat {l : List Int} {i : Nat} (h : i < l.length) : vat (flatM l) i = ((l.countP (· < vat l i) : Nat) : Int) := by
  apply vat_of
  rw [flatM, List.getElem?_map, vat_get h]; rfl
theorem flat_lt {l : List Int} {i j : Nat} (hi : i < l.length) (hj : j < l.length) : vat (flatM l) i < vat (flatM l) j ↔ vat l i < vat l j := by
  rw [flat_vat hi, flat_vat hj]
  constructor
  · intro h
    apply Int.not_le.1
    intro h'
    have := countP_le_of (l := l) h'
    omega
  · intro h
    have := countP_lt_of (vat_mem hi) h
    omega
theorem nodup_of_vat {l : List Int} (h : ∀ i j, i < j → j < l.length → vat l i ≠ vat l j) : l.Nodup := by
  rw [List.Nodup, List.pairwise_iff_getElem]
  intro i j hi hj hij e
  have h1 : vat l i = l[i] := vat_of (List.getElem?_eq_getElem hi)
  have h2 : vat l j = l[j] := vat_of (List.getElem?_eq_getElem hj)
  exact h i j hij hj (by rw [h1, h2]; exact e)
theorem countP_lt_len {l : List Int} {x : Int} (hx : x ∈ l) : l.countP (· < x) < l.length := by
  induction l with
  | nil => simp at hx
  | cons z l ih =>
    have hle : l.countP (· < x) ≤ l.length := List.countP_le_length
    simp only [List.countP_cons, List.length_cons]
    rcases List.mem_cons.1 hx with rfl | hx
    · simp; omega
    · have := ih hx
      split <;> omega
theorem flat_perm {l : List Int} (h : l.Nodup) : IsPerm (flatM l) := by
  refine ⟨fun x hx => ?_, nodup_of_vat fun i j hij hj => ?_⟩
  · rw [flatM_len]
    simp only [flatM, List.mem_map] at hx
    obtain ⟨y, hy, rfl⟩ := hx
    have := countP_lt_len hy
    omega
  · rw [flatM_len] at hj
    have h1 := flat_lt (l := l) (i := i) (j := j) (by omega) hj
    have h2 := flat_lt (l := l) (i := j) (j := i) hj (by omega)
    have h3 := vat_inj h hij hj
    omega

/-! Cuts. -/
theorem seen_box {p : List Int} (lo hi : Int) : ∀ k, k < p.length → ((lo ≤ (seenTo p (k + 1)).1 ∧ (seenTo p (k + 1)).2 ≤ hi) ↔ ((lo ≤ p.length ∧ -1 ≤ hi) ∧ ∀ i, i ≤ k → lo ≤ vat p i ∧ vat p i ≤ hi))
  | 0, h => by
    simp only [seenTo, vat]
    constructor
    · rintro ⟨h1, h2⟩
      refine ⟨by omega, fun i hi => ?_⟩
      obtain rfl : i = 0 := by omega
      omega
    · rintro ⟨h1, h2⟩
      have := h2 0 (by omega)
      omega
  | k + 1, h => by
    have ih := seen_box (p := p) lo hi k (by omega)
    rw [seenTo]
    change (lo ≤ min (seenTo p (k + 1)).1 (vat p (k + 1)) ∧ max (seenTo p (k + 1)).2 (vat p (k + 1)) ≤ hi) ↔ _
    constructor
    · rintro ⟨h1, h2⟩
      obtain ⟨h3, h4⟩ := ih.1 ⟨by omega, by omega⟩
      refine ⟨h3, fun i hi => ?_⟩
      by_cases e : i = k + 1
      · subst e; omega
      · exact h4 i (by omega)
    · rintro ⟨h1, h2⟩
      obtain ⟨h3, h4⟩ := ih.2 ⟨h1, fun i hi => h2 i (by omega)⟩
      have := h2 (k + 1) (by omega)
      omega
/-- as many different numbers as an interval has fill it -/
theorem fill_interval {l : List Int} {lo hi : Int} (hn : l.Nodup) (hb : ∀ x ∈ l, lo ≤ x ∧ x ≤ hi) : (l.length : Int) ≤ max 0 (hi - lo + 1) ∧ ((l.length : Int) = hi - lo + 1 → ∀ y, lo ≤ y → y ≤ hi → y ∈ l) := by
  have hn' : (l.map (fun x => x - lo)).Nodup := by
    refine nodup_of_vat fun i j hij hj => ?_
    rw [List.length_map] at hj
    have h1 : vat (l.map (fun x => x - lo)) i = vat l i - lo := vat_of (by rw [List.getElem?_map, vat_get (show i < l.length by omega)]; rfl)
    have h2 : vat (l.map (fun x => x - lo)) j = vat l j - lo := vat_of (by rw [List.getElem?_map, vat_get hj]; rfl)
    have := vat_inj hn hij hj
    omega
  obtain ⟨h1, h2⟩ := nodup_cover (l := l.map (fun x => x - lo)) (m := iota (hi - lo + 1).toNat) hn' (fun x hx => by
    simp only [List.mem_map] at hx
    obtain ⟨y, hy, rfl⟩ := hx
    have := hb y hy
    exact iota_mem.2 (by omega))
  rw [List.length_map, iota_len] at h1 h2
  refine ⟨by omega, fun he y hy1 hy2 => ?_⟩
  have := h2 (by omega) (y - lo) (iota_mem.2 (by omega))
  simp only [List.mem_map] at this
  obtain ⟨z, hz, e⟩ := this
  have : z = y := by omega
  exact this ▸ hz
theorem take_vat {p : List Int} {k : Nat} {P : Int → Prop} : (∀ x ∈ p.take k, P x) ↔ ∀ i, i < k → i < p.length → P (vat p i) := by
  constructor
  · intro h i hi hp
    exact h _ (vat_mem_take hi hp)
  · intro h x hx
    obtain ⟨i, h1, h2, rfl⟩ := mem_take_vat hx
    exact h i h1 h2
theorem drop_vat {p : List Int} {k : Nat} {P : Int → Prop} : (∀ x ∈ p.drop k, P x) ↔ ∀ i, k ≤ i → i < p.length → P (vat p i) := by
  constructor
  · intro h i hi hp
    refine h _ (List.mem_of_getElem? (i := i - k) ?_)
    rw [List.getElem?_drop, show k + (i - k) = i by omega]
    exact vat_get hp
  · intro h x hx
    obtain ⟨i, hi⟩ := List.mem_iff_getElem?.1 hx
    rw [List.getElem?_drop] at hi
    have := h (k + i) (by omega) (List.getElem?_eq_some_iff.1 hi).1
    rwa [vat_of hi] at this

theorem rises_iff {p : List Int} (hp : IsPerm p) {a : Nat} (ha : a < p.length) : Rises (vat p) p.length a ↔ ∀ i, i < a → vat p i < a := by
  constructor
  · intro h i hi
    -- the later ones, all greater than the value here, are too many
    apply Int.not_le.1
    intro hge
    have hn : (p.drop a).Nodup := hp.2.sublist (List.drop_sublist _ _)
    have := (fill_interval (lo := vat p i + 1) (hi := p.length - 1) hn (drop_vat.2 fun k hk hkl => by
      have h1 := h i k hi hk hkl
      have h2 := hp.1 _ (vat_mem hkl)
      omega)).1
    rw [List.length_drop] at this
    omega
  · intro h i k hi hk hkl
    have hn : (p.take a).Nodup := hp.2.sublist (List.take_sublist _ _)
    have hcov := (fill_interval (lo := 0) (hi := a - 1) hn (take_vat.2 fun i hi hil => by
      have h1 := h i hi
      have h2 := hp.1 _ (vat_mem hil)
      omega)).2 (by rw [List.length_take]; omega)
    have hka : (a : Int) ≤ vat p k := by
      apply Int.not_lt.1
      intro hlt
      have h2 := hp.1 _ (vat_mem hkl)
      obtain ⟨j, h3, h4, h5⟩ := mem_take_vat (hcov (vat p k) h2.1 (by omega))
      exact vat_inj hp.2 (show j < k by omega) hkl h5
    have := h i hi
    omega
theorem drops_iff {p : List Int} (hp : IsPerm p) {a : Nat} (ha : a < p.length) : Drops (vat p) p.length a ↔ ∀ i, i < a → (p.length : Int) - a ≤ vat p i := by
  constructor
  · intro h i hi
    apply Int.not_lt.1
    intro hge
    have hn : (p.drop a).Nodup := hp.2.sublist (List.drop_sublist _ _)
    have := (fill_interval (lo := 0) (hi := vat p i - 1) hn (drop_vat.2 fun k hk hkl => by
      have h1 := h i k hi hk hkl
      have h2 := hp.1 _ (vat_mem hkl)
      omega)).1
    have h2 := hp.1 _ (vat_mem (show i < p.length by omega))
    rw [List.length_drop] at this
    omega
  · intro h i k hi hk hkl
    have hn : (p.take a).Nodup := hp.2.sublist (List.take_sublist _ _)
    have hcov := (fill_interval (lo := p.length - a) (hi := p.length - 1) hn (take_vat.2 fun i hi hil => by
      have h1 := h i hi
      have h2 := hp.1 _ (vat_mem hil)
      omega)).2 (by rw [List.length_take]; omega)
    have hka : vat p k < (p.length : Int) - a := by
      apply Int.not_le.1
      intro hlt
      have h2 := hp.1 _ (vat_mem hkl)
      obtain ⟨j, h3, h4, h5⟩ := mem_take_vat (hcov (vat p k) (by omega) (by omega))
      exact vat_inj hp.2 (show j < k by omega) hkl h5
    have := h i hi
    omega
def Cuts (p : List Int) (r : Bool) (a : Nat) : Prop := if r then Rises (vat p) p.length a else Drops (vat p) p.length a
theorem seen_cut {p : List Int} (hp : IsPerm p) (r : Bool) {k : Nat} (hk : k + 1 < p.length) : seenTo p (k + 1) = wholeM p.length r k ↔ Cuts p r (k + 1) := by
  have hb := fun lo hi => seen_box (p := p) lo hi k (by omega)
  have key : ∀ lo hi : Int, hi - lo = k → 0 ≤ lo → hi < p.length → (seenTo p (k + 1) = (lo, hi) ↔ ∀ i, i ≤ k → lo ≤ vat p i ∧ vat p i ≤ hi) := by
    intro lo hi he h0 h1
    constructor
    · intro e
      have := (hb lo hi).1 (by rw [e]; simp)
      exact this.2
    · intro h
      obtain ⟨h2, h3⟩ := (hb lo hi).2 ⟨by omega, h⟩
      have hn : (p.take (k + 1)).Nodup := hp.2.sublist (List.take_sublist _ _)
      have hcov := (fill_interval (lo := lo) (hi := hi) hn (take_vat.2 fun i hi _ => h i (by omega))).2 (by rw [List.length_take]; omega)
      obtain ⟨i, i1, i2, i3⟩ := mem_take_vat (hcov lo (by omega) (by omega))
      obtain ⟨j, j1, j2, j3⟩ := mem_take_vat (hcov hi (by omega) (by omega))
      have q1 := (hb (seenTo p (k + 1)).1 (seenTo p (k + 1)).2).1 ⟨Int.le_refl _, Int.le_refl _⟩
      have q2 := q1.2 i (by omega)
      have q3 := q1.2 j (by omega)
      ext <;> simp <;> omega
  cases r
  · have hw : wholeM p.length false k = ((p.length : Int) - 1 - k, (p.length : Int) - 1) := rfl
    rw [hw, key _ _ (by omega) (by omega) (by omega)]
    show _ ↔ Drops (vat p) p.length (k + 1)
    rw [drops_iff hp hk]
    constructor
    · intro h i hi; have := h i (by omega); omega
    · intro h i hi
      have h1 := h i (by omega)
      have h2 := hp.1 _ (vat_mem (show i < p.length by omega))
      omega
  · have hw : wholeM p.length true k = (0, (k : Int)) := rfl
    rw [hw, key _ _ (by omega) (by omega) (by omega)]
    show _ ↔ Rises (vat p) p.length (k + 1)
    rw [rises_iff hp hk]
    constructor
    · intro h i hi; have := h i (by omega); omega
    · intro h i hi
      have h1 := h i (by omega)
      have h2 := hp.1 _ (vat_mem (show i < p.length by omega))
      omega
theorem cutsTo_mem {p : List Int} (hp : IsPerm p) (r : Bool) : ∀ k, k < p.length → ∀ x : Int, x ∈ cutsTo p r k ↔ x = 0 ∨ ∃ a : Nat, x = a ∧ 0 < a ∧ a ≤ k ∧ Cuts p r a
  | 0, _, x => by
    simp only [cutsTo, List.mem_singleton]
    constructor
    · exact .inl
    · rintro (h | ⟨a, _, h1, h2, _⟩)
      · exact h
      · omega
  | k + 1, hk, x => by
    rw [cutsTo, List.mem_append, cutsTo_mem hp r k (by omega)]
    have hs := seen_cut hp r hk
    constructor
    · rintro ((h | ⟨a, h1, h2, h3, h4⟩) | h)
      · exact .inl h
      · exact .inr ⟨a, h1, h2, by omega, h4⟩
      · split at h
        · rename_i e
          rw [List.mem_singleton] at h
          exact .inr ⟨k + 1, by omega, by omega, by omega, hs.1 e⟩
        · simp at h
    · rintro (h | ⟨a, h1, h2, h3, h4⟩)
      · exact .inl (.inl h)
      · by_cases e : a = k + 1
        · subst e
          right
          rw [if_pos (hs.2 h4), List.mem_singleton]; omega
        · exact .inl (.inr ⟨a, h1, h2, by omega, h4⟩)
theorem cuts_mem {p : List Int} (hp : IsPerm p) (r : Bool) (h0 : 0 < p.length) {x : Int} : x ∈ cutsM p r ↔ x = 0 ∨ ∃ a : Nat, x = a ∧ 0 < a ∧ a < p.length ∧ Cuts p r a := by
  rw [cutsM, cutsTo_mem hp r _ (by omega)]
  constructor
  · rintro (h | ⟨a, h1, h2, h3, h4⟩)
    · exact .inl h
    · exact .inr ⟨a, h1, h2, by omega, h4⟩
  · rintro (h | ⟨a, h1, h2, h3, h4⟩)
    · exact .inl h
    · exact .inr ⟨a, h1, h2, by omega, h4⟩
theorem cuts_one {p : List Int} (hp : IsPerm p) (r : Bool) (h0 : 0 < p.length) : (cutsM p r).length = 1 ↔ ∀ a, 0 < a → a < p.length → ¬ Cuts p r a := by
  have hm := cutsM_marks (r := r) h0
  have hz : (0 : Int) ∈ cutsM p r := (cuts_mem hp r h0).2 (.inl rfl)
  constructor
  · intro h a ha hal hc
    have h1 := (cuts_mem hp r h0 (x := (a : Int))).2 (.inr ⟨a, rfl, ha, hal, hc⟩)
    obtain ⟨y, hy⟩ := List.length_eq_one_iff.1 h
    rw [hy, List.mem_singleton] at h1 hz
    omega
  · intro h
    have hall : ∀ x ∈ cutsM p r, x = 0 := fun x hx => by
      rcases (cuts_mem hp r h0).1 hx with h1 | ⟨a, _, h1, h2, h3⟩
      · exact h1
      · exact absurd h3 (h a h1 h2)
    match he : cutsM p r with
    | [] => rw [he] at hz; simp at hz
    | [x] => rfl
    | x :: y :: l =>
      have h1 := hall x (by rw [he]; simp)
      have h2 := hall y (by rw [he]; simp)
      have := hm.1
      rw [he] at this
      have := (List.pairwise_cons.1 this).1 y (by simp)
      omega

/-! Pieces. -/
theorem piece_vat {p : List Int} {a b i : Nat} (h : a + i < b) : vat ((p.take b).drop a) i = vat p (a + i) := by
  rw [vat, vat, List.getElem?_drop, List.getElem?_take, if_pos h]
theorem piece_len {p : List Int} {a b : Nat} (hab : a ≤ b) (hb : b ≤ p.length) : ((p.take b).drop a).length = b - a := by
  rw [List.length_drop, List.length_take]; omega
theorem piece_nodup {p : List Int} (h : p.Nodup) (a b : Nat) : ((p.take b).drop a).Nodup := (h.sublist (List.take_sublist _ _)).sublist (List.drop_sublist _ _)
/-- the piece in which a position lies -/
theorem piece_of {p : List Int} (h1 : 1 < p.length) (hz : (0 : Int) ∈ marksM p) {i : Nat} (hi : i < p.length) :
    ∃ (k a b : Nat), (marksM p)[k]? = some (a : Int) ∧ a ≤ i ∧ i < b ∧ b ≤ p.length ∧ b - a < p.length ∧ pieceM p (marksM p) k = (p.take b).drop a ∧ (b = p.length ∨ (b : Int) ∈ marksM p) := by
  have hm := marksM_marks (p := p) (by omega)
  have hex : ∀ n, n ≤ (marksM p).length → (∃ k, k < n ∧ ∃ x, (marksM p)[k]? = some x ∧ x ≤ i) → ∃ k, k < n ∧ (∃ x, (marksM p)[k]? = some x ∧ x ≤ i) ∧ ∀ k', k < k' → k' < n → ∀ x, (marksM p)[k']? = some x → (i : Int) < x := by
    intro n
    induction n with
    | zero => rintro _ ⟨k, h, _⟩; omega
    | succ n ih =>
      intro hn hex
      obtain ⟨y, hy⟩ : ∃ y, (marksM p)[n]? = some y := ⟨_, List.getElem?_eq_getElem (by omega)⟩
      by_cases hyi : y ≤ i
      · exact ⟨n, by omega, ⟨y, hy, hyi⟩, fun k' h1 h2 => by omega⟩
      · obtain ⟨k, hk, x, hx, hxi⟩ := hex
        have hkn : k ≠ n := by
          rintro rfl
          rw [hy] at hx
          obtain rfl := Option.some.inj hx
          exact hyi hxi
        obtain ⟨k0, h3, h4, h5⟩ := ih (by omega) ⟨k, by omega, x, hx, hxi⟩
        refine ⟨k0, by omega, h4, fun k' h6 h7 z hz => ?_⟩
        by_cases e : k' = n
        · subst e
          rw [hy] at hz
          obtain rfl := Option.some.inj hz
          omega
        · exact h5 k' h6 (by omega) z hz
  obtain ⟨k, hk⟩ := List.mem_iff_getElem?.1 hz
  obtain ⟨k0, h2, ⟨x, hx, hxi⟩, h4⟩ := hex _ (Nat.le_refl _) ⟨k, (List.getElem?_eq_some_iff.1 hk).1, 0, hk, by omega⟩
  have hx0 := hm.2 x (List.mem_of_getElem? hx)
  obtain ⟨a, rfl⟩ := Int.eq_ofNat_of_zero_le hx0.1
  obtain ⟨b, h5, h6, h7, h8, h9, h10⟩ := piece_to h1 hx
  refine ⟨k0, a, b, hx, by omega, ?_, h6, h7, h8, ?_⟩
  · by_cases hl : k0 + 1 < (marksM p).length
    · have := h4 (k0 + 1) (by omega) hl _ (h9 hl); omega
    · have := h10 hl; omega
  · by_cases hl : k0 + 1 < (marksM p).length
    · exact .inr (List.mem_of_getElem? (h9 hl))
    · exact .inl (h10 hl)
theorem kind_three {p : List Int} : kindM p = 3 ↔ (cutsM p true).length = 1 ∧ (cutsM p false).length = 1 := by
  unfold kindM
  split
  · split
    · simp [*]
    · simp [*]
  · simp [*]
theorem marks_cut {p : List Int} (hp : IsPerm p) (h0 : 0 < p.length) (h3 : kindM p ≠ 3) : (0 : Int) ∈ marksM p ∧ ∃ r, ∀ a : Nat, 0 < a → a < p.length → ((a : Int) ∈ marksM p ↔ Cuts p r a) := by
  have key : ∀ r, marksM p = cutsM p r → (0 : Int) ∈ marksM p ∧ ∃ r, ∀ a : Nat, 0 < a → a < p.length → ((a : Int) ∈ marksM p ↔ Cuts p r a) := by
    intro r e
    rw [e]
    refine ⟨(cuts_mem hp r h0).2 (.inl rfl), r, fun a ha hal => ?_⟩
    rw [cuts_mem hp r h0]
    constructor
    · rintro (h | ⟨b, h1, _, _, h⟩)
      · omega
      · have : a = b := by omega
        exact this ▸ h
    · exact fun h => .inr ⟨a, rfl, ha, hal, h⟩
  rw [Ne, kind_three] at h3
  by_cases h1 : (cutsM p true).length = 1
  · by_cases h2 : (cutsM p false).length = 1
    · exact absurd ⟨h1, h2⟩ h3
    · exact key false (by unfold marksM; rw [if_pos h1, if_neg h2])
  · exact key true (by unfold marksM; rw [if_neg h1])

theorem simK_iff : ∀ (d : Nat) (p : List Int), p.length ≤ d → IsPerm p → 0 < p.length → (simK d p = true ↔ Has1302 (vat p) p.length ∨ Has2031 (vat p) p.length)
  | 0, p, hd, _, h0 => by omega
  | d + 1, p, hd, hp, h0 => by
    rw [simK]
    by_cases h1 : p.length = 1
    · rw [if_pos h1]
      constructor
      · intro h; cases h
      · rintro (⟨i, j, k, l, h⟩ | ⟨i, j, k, l, h⟩) <;> omega
    · rw [if_neg h1, Bool.or_eq_true, beq_iff_eq, List.any_eq_true]
      have hn1 : 1 < p.length := by omega
      have hpiece : ∀ (k a b : Nat), (marksM p)[k]? = some (a : Int) → a < b → b ≤ p.length → b - a < p.length → pieceM p (marksM p) k = (p.take b).drop a →
          (simK d (flatM (pieceM p (marksM p) k)) = true ↔ Has1302 (fun i => vat p (a + i)) (b - a) ∨ Has2031 (fun i => vat p (a + i)) (b - a)) := by
        intro k a b hk hab hb hlt hpc
        have hlen := piece_len (p := p) (a := a) (b := b) (by omega) hb
        have hnd := piece_nodup hp.2 a b
        rw [hpc, simK_iff d _ (by rw [flatM_len, hlen]; omega) (flat_perm hnd) (by rw [flatM_len, hlen]; omega), flatM_len, hlen]
        have ho : ∀ i j, i < b - a → j < b - a → (vat (flatM ((p.take b).drop a)) i < vat (flatM ((p.take b).drop a)) j ↔ vat p (a + i) < vat p (a + j)) := by
          intro i j hi hj
          rw [flat_lt (by rw [hlen]; exact hi) (by rw [hlen]; exact hj), piece_vat (by omega), piece_vat (by omega)]
        constructor
        · rintro (⟨i, j, k, l, g1, g2, g3, g4, g5, g6, g7⟩ | ⟨i, j, k, l, g1, g2, g3, g4, g5, g6, g7⟩)
          · exact .inl ⟨i, j, k, l, g1, g2, g3, g4, (ho _ _ (by omega) (by omega)).1 g5, (ho _ _ (by omega) (by omega)).1 g6, (ho _ _ (by omega) (by omega)).1 g7⟩
          · exact .inr ⟨i, j, k, l, g1, g2, g3, g4, (ho _ _ (by omega) (by omega)).1 g5, (ho _ _ (by omega) (by omega)).1 g6, (ho _ _ (by omega) (by omega)).1 g7⟩
        · rintro (⟨i, j, k, l, g1, g2, g3, g4, g5, g6, g7⟩ | ⟨i, j, k, l, g1, g2, g3, g4, g5, g6, g7⟩)
          · exact .inl ⟨i, j, k, l, g1, g2, g3, g4, (ho _ _ (by omega) (by omega)).2 g5, (ho _ _ (by omega) (by omega)).2 g6, (ho _ _ (by omega) (by omega)).2 g7⟩
          · exact .inr ⟨i, j, k, l, g1, g2, g3, g4, (ho _ _ (by omega) (by omega)).2 g5, (ho _ _ (by omega) (by omega)).2 g6, (ho _ _ (by omega) (by omega)).2 g7⟩
      rw [← marksM_K]
      constructor
      · rintro (h3 | ⟨k, hk, hs⟩)
        · obtain ⟨c1, c2⟩ := kind_three.1 h3
          rw [cuts_one hp _ h0] at c1 c2
          apply Classical.byContradiction
          intro hno
          have hno1 : ¬ Has1302 (vat p) p.length := fun h => hno (.inl h)
          have hno2 : ¬ Has2031 (vat p) p.length := fun h => hno (.inr h)
          obtain ⟨a, a1, a2, a3⟩ := sep_cut hn1 (fun i k hik hk => vat_inj hp.2 hik hk) hno1 hno2
          rcases a3 with a3 | a3
          · exact c1 a a1 a2 a3
          · exact c2 a a1 a2 a3
        · rw [List.mem_range] at hk
          have hm := marksM_marks (p := p) h0
          obtain ⟨x, hx⟩ : ∃ x, (marksM p)[k]? = some x := ⟨_, List.getElem?_eq_getElem hk⟩
          have hx0 := hm.2 x (List.mem_of_getElem? hx)
          obtain ⟨a, rfl⟩ := Int.eq_ofNat_of_zero_le hx0.1
          obtain ⟨b, h5, h6, h7, h8, _, _⟩ := piece_to hn1 hx
          rcases (hpiece k a b hx h5 h6 h7 h8).1 hs with ⟨i, j, k, l, g1, g2, g3, g4, g5, g6, g7⟩ | ⟨i, j, k, l, g1, g2, g3, g4, g5, g6, g7⟩
          · exact .inl ⟨a + i, a + j, a + k, a + l, by omega, by omega, by omega, by omega, g5, g6, g7⟩
          · exact .inr ⟨a + i, a + j, a + k, a + l, by omega, by omega, by omega, by omega, g5, g6, g7⟩
      · intro hh
        by_cases h3 : kindM p = 3
        · exact .inl h3
        · right
          obtain ⟨hz, r, hr⟩ := marks_cut hp h0 h3
          have hcut : ∀ a : Nat, (a : Int) ∈ marksM p → a = 0 ∨ Rises (vat p) p.length a ∨ Drops (vat p) p.length a := by
            intro a ha
            rcases Nat.eq_zero_or_pos a with h | h
            · exact .inl h
            · have hal := (marksM_marks (p := p) h0).2 _ ha
              have := (hr a h (by omega)).1 ha
              cases r
              · exact .inr (.inr this)
              · exact .inr (.inl this)
          rcases hh with ⟨i, j, k, l, g1, g2, g3, g4, g5, g6, g7⟩ | ⟨i, j, k, l, g1, g2, g3, g4, g5, g6, g7⟩
          · obtain ⟨t, a, b, q1, q2, q3, q4, q5, q6, q7⟩ := piece_of hn1 hz (i := i) (by omega)
            have hlb : l < b := by
              rcases q7 with rfl | q7
              · exact g4
              · rcases hcut b q7 with h | h
                · omega
                · rcases not_1302_cut h g1 g2 g3 g4 g5 g6 g7 with h | h <;> omega
            refine ⟨t, List.mem_range.2 (List.getElem?_eq_some_iff.1 q1).1, (hpiece t a b q1 (by omega) q4 q5 q6).2 (.inl ⟨i - a, j - a, k - a, l - a, by omega, by omega, by omega, by omega, ?_⟩)⟩
            simp only []
            rw [show a + (i - a) = i by omega, show a + (j - a) = j by omega, show a + (k - a) = k by omega, show a + (l - a) = l by omega]
            exact ⟨g5, g6, g7⟩
          · obtain ⟨t, a, b, q1, q2, q3, q4, q5, q6, q7⟩ := piece_of hn1 hz (i := i) (by omega)
            have hlb : l < b := by
              rcases q7 with rfl | q7
              · exact g4
              · rcases hcut b q7 with h | h
                · omega
                · rcases not_2031_cut h g1 g2 g3 g4 g5 g6 g7 with h | h <;> omega
            refine ⟨t, List.mem_range.2 (List.getElem?_eq_some_iff.1 q1).1, (hpiece t a b q1 (by omega) q4 q5 q6).2 (.inr ⟨i - a, j - a, k - a, l - a, by omega, by omega, by omega, by omega, ?_⟩)⟩
            simp only []
            rw [show a + (i - a) = i by omega, show a + (j - a) = j by omega, show a + (k - a) = k by omega, show a + (l - a) = l by omega]
            exact ⟨g5, g6, g7⟩
end Go.Proofs.Ytgajaccnjjiiaaa
