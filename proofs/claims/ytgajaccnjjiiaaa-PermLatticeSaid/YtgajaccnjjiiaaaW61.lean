/- PermLattice: plain laws: the weak order is a lattice. -/
import Derived.Test.YtgajaccnjjiiaaaW57
import Derived.Test.YtgajaccnjjiiaaaW45
namespace Go.Proofs.Ytgajaccnjjiiaaa
open Go.RowKit

/-! Inversions, by values. -/
theorem rowTo_mem {p : List Int} {i m : Nat} {x : Nat × Nat} : x ∈ rowTo p i m ↔ x.1 = i ∧ i < x.2 ∧ x.2 < i + 1 + m ∧ vat p x.2 < vat p i := by
  induction m with
  | zero =>
    simp only [rowTo, List.not_mem_nil, false_iff]
    rintro ⟨_, h1, h2, _⟩; omega
  | succ m ih =>
    rw [rowTo, List.mem_append, ih]
    change _ ∨ x ∈ (if vat p (i + 1 + m) < vat p i then [(i, i + 1 + m)] else []) ↔ _
    constructor
    · rintro (⟨h1, h2, h3, h4⟩ | h)
      · exact ⟨h1, h2, by omega, h4⟩
      · split at h
        · rename_i hl
          rw [List.mem_singleton] at h
          subst h
          exact ⟨rfl, by simp only []; omega, by simp only []; omega, hl⟩
        · simp at h
    · rintro ⟨h1, h2, h3, h4⟩
      by_cases e : x.2 = i + 1 + m
      · right
        rw [← e, if_pos h4, List.mem_singleton, ← h1]
      · exact .inl ⟨h1, h2, by omega, h4⟩
theorem invTo_mem {p : List Int} {i : Nat} {x : Nat × Nat} : x ∈ invTo p i ↔ x.1 < i ∧ x.1 < x.2 ∧ x.2 < max p.length (x.1 + 1) ∧ vat p x.2 < vat p x.1 := by
  induction i with
  | zero =>
    simp only [invTo, List.not_mem_nil, false_iff]
    rintro ⟨h1, _⟩; omega
  | succ i ih =>
    rw [invTo, List.mem_append, ih, rowTo_mem]
    constructor
    · rintro (⟨h1, h2, h3, h4⟩ | ⟨h1, h2, h3, h4⟩)
      · exact ⟨by omega, h2, h3, h4⟩
      · subst h1
        exact ⟨by omega, h2, by omega, h4⟩
    · rintro ⟨h1, h2, h3, h4⟩
      by_cases e : x.1 = i
      · subst e
        exact .inr ⟨rfl, h2, by omega, h4⟩
      · exact .inl ⟨by omega, h2, h3, h4⟩
theorem invs_mem {p : List Int} {x : Nat × Nat} : x ∈ invs p ↔ x.1 < x.2 ∧ x.2 < p.length ∧ vat p x.2 < vat p x.1 := by
  rw [invs, invTo_mem]
  constructor
  · rintro ⟨h1, h2, h3, h4⟩; exact ⟨h2, by omega, h4⟩
  · rintro ⟨h1, h2, h3⟩; exact ⟨by omega, h1, by omega, h3⟩
theorem invT_at {p : List Int} {a b : Nat} : invT p a b = true ↔ ∃ i k, i < k ∧ k < p.length ∧ vat p i = a ∧ vat p k = b ∧ b < a := by
  rw [invT_iff]
  constructor
  · rintro ⟨x, hx, h1, h2⟩
    change vat p x.1 = a at h1
    change vat p x.2 = b at h2
    rw [invs_mem] at hx
    exact ⟨x.1, x.2, hx.1, hx.2.1, h1, h2, by omega⟩
  · rintro ⟨i, k, h1, h2, h3, h4, h5⟩
    exact ⟨(i, k), invs_mem.2 ⟨h1, h2, by simp only []; omega⟩, h3, h4⟩
theorem vat_eq {p : List Int} (h : p.Nodup) {i k : Nat} (hi : i < p.length) (hk : k < p.length) (e : vat p i = vat p k) : i = k := by
  rcases Nat.lt_trichotomy i k with h1 | h1 | h1
  · exact absurd e (vat_inj h h1 hk)
  · exact h1
  · exact absurd e.symm (vat_inj h h1 hi)
theorem IsPerm.pos {p : List Int} (h : IsPerm p) {a : Nat} (ha : a < p.length) : ∃ i, i < p.length ∧ vat p i = a := mem_vat (h.covers (x := (a : Int)) (by omega) (by omega))
theorem IsPerm.val {p : List Int} (h : IsPerm p) {i : Nat} (hi : i < p.length) : ∃ a : Nat, vat p i = a ∧ a < p.length := by
  have := h.1 _ (vat_mem hi)
  exact ⟨(vat p i).toNat, by omega, by omega⟩

abbrev Rel := Nat → Nat → Prop
structure InvRel (n : Nat) (T : Rel) : Prop where
  bound : ∀ a b, T a b → b < a ∧ a < n
  trans : ∀ a b c, T a b → T b c → T a c
  co : ∀ a b c, T a c → c < b → b < a → T a b ∨ T b c
abbrev IT (p : List Int) : Rel := fun a b => invT p a b = true
theorem inv_rel {p : List Int} (hp : IsPerm p) : InvRel p.length (IT p) := by
  refine ⟨fun a b h => invT_bound hp.1 h, fun a b c h1 h2 => ?_, fun a b c h h1 h2 => ?_⟩
  · obtain ⟨i, k, a1, a2, a3, a4, a5⟩ := invT_at.1 h1
    obtain ⟨k', l, b1, b2, b3, b4, b5⟩ := invT_at.1 h2
    have : k = k' := vat_eq hp.2 a2 (by omega) (a4.trans b3.symm)
    subst this
    exact invT_at.2 ⟨i, l, by omega, b2, a3, b4, by omega⟩
  · obtain ⟨i, k, a1, a2, a3, a4, a5⟩ := invT_at.1 h
    have hb := invT_bound hp.1 h
    obtain ⟨j, hj, ej⟩ := hp.pos (a := b) (by omega)
    by_cases hij : i < j
    · exact .inl (invT_at.2 ⟨i, j, hij, hj, a3, ej, h2⟩)
    · have : j ≠ i := by rintro rfl; omega
      exact .inr (invT_at.2 ⟨j, k, by omega, a2, ej, a4, h1⟩)
theorem first_diff {p q : List Int} (hl : p.length = q.length) (hne : p ≠ q) : ∃ d, d < p.length ∧ (∀ i < d, vat p i = vat q i) ∧ vat p d ≠ vat q d := by
  have hex : ∃ d, d < p.length ∧ vat p d ≠ vat q d := by
    apply Classical.byContradiction
    intro h
    apply hne
    apply List.ext_getElem?
    intro i
    by_cases hi : i < p.length
    · rw [vat_get hi, vat_get (by omega)]
      congr 1
      apply Classical.byContradiction
      intro e; exact h ⟨i, hi, e⟩
    · rw [List.getElem?_eq_none (by omega), List.getElem?_eq_none (by omega)]
  have key : ∀ m, (∃ d, d < m ∧ vat p d ≠ vat q d) → ∃ d, d < m ∧ (∀ i < d, vat p i = vat q i) ∧ vat p d ≠ vat q d := by
    intro m
    induction m with
    | zero => rintro ⟨d, h, _⟩; omega
    | succ m ih =>
      rintro ⟨d, hd, hS⟩
      by_cases h : ∃ a, a < m ∧ vat p a ≠ vat q a
      · obtain ⟨b, hb, r⟩ := ih h
        exact ⟨b, by omega, r⟩
      · have : d = m := by
          apply Classical.byContradiction
          intro e; exact h ⟨d, by omega, hS⟩
        subst this
        exact ⟨d, by omega, fun i hi => Classical.byContradiction fun e => h ⟨i, hi, e⟩, hS⟩
  exact key _ hex
/-- where they first differ, each has the other's value later -/
theorem diff_later {p q : List Int} (hp : IsPerm p) (hq : IsPerm q) (hl : p.length = q.length) {d : Nat} (hd : d < p.length) (hb : ∀ i < d, vat p i = vat q i) (hne : vat p d ≠ vat q d) :
    ∃ k, d < k ∧ k < p.length ∧ vat p k = vat q d := by
  obtain ⟨u, hu, hul⟩ := hq.val (i := d) (by omega)
  obtain ⟨k, hk, ek⟩ := hp.pos (a := u) (by omega)
  refine ⟨k, ?_, hk, by rw [ek, hu]⟩
  rcases Nat.lt_trichotomy k d with h | h | h
  · have := hb k h
    have h2 := vat_inj hq.2 h (by omega)
    rw [← this, ek, hu] at h2
    exact absurd rfl h2
  · subst h
    exact absurd (ek.trans hu.symm) hne
  · exact h
theorem perm_unique {p q : List Int} (hp : IsPerm p) (hq : IsPerm q) (hl : p.length = q.length) (h : ∀ a b, invT p a b = true ↔ invT q a b = true) : p = q := by
  apply Classical.byContradiction
  intro hne
  obtain ⟨d, hd, hb, hdd⟩ := first_diff hl hne
  obtain ⟨k, k1, k2, k3⟩ := diff_later hp hq hl hd hb hdd
  obtain ⟨m, m1, m2, m3⟩ := diff_later hq hp hl.symm (by omega) (fun i hi => (hb i hi).symm) (fun e => hdd e.symm)
  obtain ⟨v, hv, hvl⟩ := hp.val hd
  obtain ⟨u, hu, hul⟩ := hq.val (i := d) (by omega)
  rcases Nat.lt_trichotomy u v with hlt | hlt | hlt
  · have h1 : invT p v u = true := invT_at.2 ⟨d, k, k1, k2, hv, k3.trans hu, hlt⟩
    obtain ⟨i, j, a1, a2, a3, a4, _⟩ := invT_at.1 ((h v u).1 h1)
    have e1 : i = m := vat_eq hq.2 (by omega) m2 (by rw [a3, m3, hv])
    have e2 : j = d := vat_eq hq.2 a2 (by omega) (by rw [a4, hu])
    omega
  · exact hdd (by rw [hv, hu, hlt])
  · have h1 : invT q u v = true := invT_at.2 ⟨d, m, m1, m2, hu, m3.trans hv, hlt⟩
    obtain ⟨i, j, a1, a2, a3, a4, _⟩ := invT_at.1 ((h u v).2 h1)
    have e1 : i = k := vat_eq hp.2 (by omega) k2 (by rw [a3, k3, hu])
    have e2 : j = d := vat_eq hp.2 a2 hd (by rw [a4, hv])
    omega

/-! Closure. -/
theorem cl3_fun (T : Nat → Nat → Bool) (b a : Nat) : ∀ c i j, cl3 T b a c i j = if i = a ∧ j < c then (T a j || (T a b && T b j)) else T i j
  | 0, i, j => by rw [cl3, if_neg (by omega)]
  | c + 1, i, j => by
    have ih := cl3_fun T b a c
    rw [cl3]
    unfold upd
    have hab : cl3 T b a c a b = T a b := by
      rw [ih]
      split
      · cases T a b <;> cases T b b <;> rfl
      · rfl
    have hbc : cl3 T b a c b c = T b c := by
      rw [ih]; rw [if_neg (by omega)]
    have hac : cl3 T b a c a c = T a c := by rw [ih, if_neg (by omega)]
    rw [hab, hbc, hac, ih]
    by_cases h1 : i = a
    · subst h1
      by_cases h2 : j = c
      · subst h2
        rw [if_pos ⟨rfl, rfl⟩, if_pos ⟨rfl, by omega⟩]
      · by_cases h3 : j < c
        · rw [if_neg (by omega), if_pos ⟨rfl, h3⟩, if_pos ⟨rfl, by omega⟩]
        · rw [if_neg (by omega), if_neg (by omega), if_neg (by omega)]
    · rw [if_neg (by omega), if_neg (by omega), if_neg (by omega)]
theorem cl2_fun (T : Nat → Nat → Bool) (n b : Nat) : ∀ a i j, cl2 T n b a i j = if i < a ∧ j < n then (T i j || (T i b && T b j)) else T i j
  | 0, i, j => by rw [cl2, if_neg (by omega)]
  | a + 1, i, j => by
    have ih := cl2_fun T n b a
    have hb : ∀ j, cl2 T n b a b j = T b j := fun j => by
      rw [ih]
      split
      · cases T b j <;> cases T b b <;> rfl
      · rfl
    rw [cl2, cl3_fun, hb, ih, ih, ih]
    by_cases h1 : i = a
    · subst h1
      by_cases h2 : j < n
      · rw [if_pos ⟨rfl, h2⟩, if_neg (by omega), if_neg (by omega), if_pos ⟨by omega, h2⟩]
      · rw [if_neg (by omega), if_neg (by omega), if_neg (by omega)]
    · rw [if_neg (by omega)]
      by_cases h2 : i < a ∧ j < n
      · rw [if_pos h2, if_pos ⟨by omega, h2.2⟩]
      · rw [if_neg h2, if_neg (by omega)]
theorem cl1_succ (T : Nat → Nat → Bool) (n b : Nat) {i j : Nat} (hi : i < n) (hj : j < n) : cl1 T n (b + 1) i j = (cl1 T n b i j || (cl1 T n b i b && cl1 T n b b j)) := by
  rw [cl1, cl2_fun, if_pos ⟨hi, hj⟩]
theorem cl1_mono (T : Nat → Nat → Bool) (n : Nat) {i j : Nat} (hi : i < n) (hj : j < n) (h : T i j = true) : ∀ b, cl1 T n b i j = true
  | 0 => h
  | b + 1 => by rw [cl1_succ T n b hi hj, cl1_mono T n hi hj h b]; rfl
theorem cl1_least {T : Nat → Nat → Bool} {n : Nat} {R : Rel} (hR : ∀ a b c, R a b → R b c → R a c) (hT : ∀ i j, T i j = true → R i j) : ∀ b, b ≤ n → ∀ i j, i < n → j < n → cl1 T n b i j = true → R i j
  | 0, _, i, j, _, _, h => hT i j h
  | b + 1, hb, i, j, hi, hj, h => by
    rw [cl1_succ T n b hi hj, Bool.or_eq_true, Bool.and_eq_true] at h
    rcases h with h | ⟨h1, h2⟩
    · exact cl1_least hR hT b (by omega) i j hi hj h
    · exact hR _ _ _ (cl1_least hR hT b (by omega) i b hi (by omega) h1) (cl1_least hR hT b (by omega) b j (by omega) hj h2)
theorem cl1_trans {T : Nat → Nat → Bool} {n : Nat} : ∀ b, b ≤ n → ∀ i k j, i < n → k < b → j < n → cl1 T n b i k = true → cl1 T n b k j = true → cl1 T n b i j = true
  | 0, _, i, k, j, _, hk, _, _, _ => by omega
  | b + 1, hb, i, k, j, hi, hk, hj, h1, h2 => by
    have ih := cl1_trans (T := T) (n := n) b (by omega)
    rw [cl1_succ T n b hi (by omega), Bool.or_eq_true, Bool.and_eq_true] at h1
    rw [cl1_succ T n b (by omega) hj, Bool.or_eq_true, Bool.and_eq_true] at h2
    rw [cl1_succ T n b hi hj, Bool.or_eq_true, Bool.and_eq_true]
    by_cases e : k = b
    · subst e
      right
      exact ⟨h1.elim id (·.1), h2.elim id (·.2)⟩
    · have hk' : k < b := by omega
      rcases h1 with h1 | ⟨h1, h1'⟩
      · rcases h2 with h2 | ⟨h2, h2'⟩
        · exact .inl (ih i k j hi hk' hj h1 h2)
        · exact .inr ⟨ih i k b hi hk' (by omega) h1 h2, h2'⟩
      · rcases h2 with h2 | ⟨h2, h2'⟩
        · exact .inr ⟨h1, ih b k j (by omega) hk' hj h1' h2⟩
        · exact .inr ⟨h1, h2'⟩

/-- the relation of the join -/
def JT (p q : List Int) : Nat → Nat → Bool := cl1 (or1 (invT p) (invT q) p.length) p.length p.length
def U2 (p q : List Int) : Rel := fun a b => IT p a b ∨ IT q a b
theorem or1_U {p q : List Int} (hp : IsPerm p) (hq : IsPerm q) (hl : p.length = q.length) (a b : Nat) : or1 (invT p) (invT q) p.length a b = true ↔ U2 p q a b := by
  rw [or1_fun]
  have h1 := fun h => (inv_rel hp).bound a b h
  have h2 := fun h => (inv_rel hq).bound a b h
  unfold U2
  split
  · rw [Bool.or_eq_true]
  · rename_i hn
    constructor
    · exact fun h => .inl h
    · rintro (h | h)
      · exact h
      · have := h2 h; omega
theorem JT_bound {p q : List Int} (hp : IsPerm p) (hq : IsPerm q) (hl : p.length = q.length) : ∀ b, b ≤ p.length → ∀ i j, cl1 (or1 (invT p) (invT q) p.length) p.length b i j = true → j < i ∧ i < p.length
  | 0, _, i, j, h => by
    rcases (or1_U hp hq hl i j).1 h with h | h
    · exact (inv_rel hp).bound i j h
    · have := (inv_rel hq).bound i j h; omega
  | b + 1, hb, i, j, h => by
    have ih := JT_bound hp hq hl b (by omega)
    rw [cl1, cl2_fun] at h
    split at h
    · rw [Bool.or_eq_true, Bool.and_eq_true] at h
      rcases h with h | ⟨h1, h2⟩
      · exact ih i j h
      · have := ih i b h1
        have := ih b j h2
        omega
    · exact ih i j h
theorem JT_least {p q : List Int} (hp : IsPerm p) (hq : IsPerm q) (hl : p.length = q.length) {R : Rel} (hR : ∀ a b c, R a b → R b c → R a c) (h1 : ∀ a b, IT p a b → R a b) (h2 : ∀ a b, IT q a b → R a b) (a b : Nat) (h : JT p q a b = true) : R a b := by
  have hb := JT_bound hp hq hl _ (Nat.le_refl _) a b h
  exact cl1_least hR (fun i j hij => ((or1_U hp hq hl i j).1 hij).elim (h1 i j) (h2 i j)) _ (Nat.le_refl _) a b hb.2 (by omega) h
theorem JT_above {p q : List Int} (hp : IsPerm p) (hq : IsPerm q) (hl : p.length = q.length) {a b : Nat} (h : U2 p q a b) : JT p q a b = true := by
  have hb : b < a ∧ a < p.length := by
    rcases h with h | h
    · exact (inv_rel hp).bound a b h
    · have := (inv_rel hq).bound a b h; omega
  exact cl1_mono _ _ hb.2 (by omega) ((or1_U hp hq hl a b).2 h) _
theorem JT_rel {p q : List Int} (hp : IsPerm p) (hq : IsPerm q) (hl : p.length = q.length) : InvRel p.length (fun a b => JT p q a b = true) := by
  have hbd := fun a b h => JT_bound hp hq hl _ (Nat.le_refl _) a b h
  have htr : ∀ a b c, JT p q a b = true → JT p q b c = true → JT p q a c = true := fun a b c h1 h2 => by
    have e1 := hbd a b h1
    have e2 := hbd b c h2
    exact cl1_trans _ (Nat.le_refl _) a b c e1.2 (by omega) (by omega) h1 h2
  refine ⟨hbd, htr, fun a b c h => ?_⟩
  have key := JT_least hp hq hl (R := fun a c => JT p q a c = true ∧ ∀ b, c < b → b < a → JT p q a b = true ∨ JT p q b c = true) ?_ ?_ ?_ a c h
  · exact key.2 b
  · rintro a m c ⟨h1, h2⟩ ⟨h3, h4⟩
    refine ⟨htr a m c h1 h3, fun b hc ha => ?_⟩
    rcases Nat.lt_trichotomy b m with hb | hb | hb
    · rcases h4 b hc hb with h | h
      · exact .inl (htr a m b h1 h)
      · exact .inr h
    · subst hb; exact .inl h1
    · rcases h2 b hb ha with h | h
      · exact .inl h
      · exact .inr (htr b m c h h3)
  · intro a c h
    refine ⟨JT_above hp hq hl (.inl h), fun b hc ha => ?_⟩
    rcases (inv_rel hp).co a b c h hc ha with h | h
    · exact .inl (JT_above hp hq hl (.inl h))
    · exact .inr (JT_above hp hq hl (.inl h))
  · intro a c h
    refine ⟨JT_above hp hq hl (.inr h), fun b hc ha => ?_⟩
    rcases (inv_rel hq).co a b c h hc ha with h | h
    · exact .inl (JT_above hp hq hl (.inr h))
    · exact .inr (JT_above hp hq hl (.inr h))

/-! The permutation of a relation. -/
def OkT (T : Rel) (x y : Int) : Prop := (x < y → ¬ T y.toNat x.toNat) ∧ (y < x → T x.toNat y.toNat)
theorem ord_ok {n : Nat} {T : Nat → Nat → Bool} (h : InvRel n (fun a b => T a b = true)) : ∀ v, (ordTo T v).Pairwise (OkT fun a b => T a b = true) ∧ (ordTo T v).Nodup
  | 0 => by simp [ordTo]
  | v + 1 => by
    obtain ⟨ih, ihn⟩ := ord_ok h v
    have hm := ordTo_mem T v
    rw [ordTo, insM]
    generalize hk : (ordTo T v).findIdx (fun u => T v u.toNat) = k
    generalize ordTo T v = l at *
    have hbefore : ∀ x ∈ l.take k, T v x.toNat = false := fun x hx => by
      obtain ⟨i, hi⟩ := List.mem_iff_getElem?.1 hx
      rw [List.getElem?_take] at hi
      split at hi
      · rename_i hik
        obtain ⟨hil, e⟩ := List.getElem?_eq_some_iff.1 hi
        have := List.not_of_lt_findIdx (p := fun u : Int => T v u.toNat) (xs := l) (i := i) (by rw [hk]; exact hik)
        rw [e] at this
        simpa using this
      · cases hi
    have hafter : ∀ y ∈ l.drop k, T v y.toNat = true := fun y hy => by
      obtain ⟨i, hi⟩ := List.mem_iff_getElem?.1 hy
      rw [List.getElem?_drop] at hi
      obtain ⟨hil, e⟩ := List.getElem?_eq_some_iff.1 hi
      have hkl : k < l.length := by omega
      have hfirst : T v (l[k]).toNat = true := by
        have := List.findIdx_getElem (p := fun u : Int => T v u.toNat) (xs := l) (w := by rw [hk]; exact hkl)
        simpa [hk] using this
      rcases Nat.eq_zero_or_pos i with rfl | h0
      · rw [← e]; exact hfirst
      · have hok := List.pairwise_iff_getElem.1 ih k (k + i) hkl hil (by omega)
        rw [e] at hok
        have hml := hm l[k] (List.getElem_mem _)
        have hmy := hm y (List.mem_of_getElem? hi)
        have hne : l[k] ≠ y := by
          rw [← e]
          exact List.pairwise_iff_getElem.1 ihn k (k + i) hkl hil (by omega)
        generalize l[k] = u at *
        rcases Int.lt_or_gt_of_ne hne with hlt | hlt
        · apply Classical.byContradiction
          intro hno
          rcases h.co v y.toNat u.toNat hfirst (by omega) (by omega) with h1 | h1
          · exact hno h1
          · exact hok.1 hlt h1
        · exact h.trans v u.toNat y.toNat hfirst (hok.2 hlt)
    have hnv : ∀ x ∈ l, x ≠ (v : Int) := fun x hx e => by have := hm x hx; omega
    have hs := List.take_append_drop k l
    rw [← hs] at ih ihn
    rw [List.pairwise_append] at ih
    rw [List.nodup_append] at ihn
    refine ⟨List.pairwise_append.2 ⟨ih.1, List.pairwise_cons.2 ⟨fun y hy => ?_, ih.2.1⟩, fun x hx y hy => ?_⟩, List.nodup_append.2 ⟨ihn.1, List.nodup_cons.2 ⟨fun hv => hnv _ (List.mem_of_mem_drop hv) rfl, ihn.2.1⟩, fun x hx y hy => ?_⟩⟩
    · have := hm y (List.mem_of_mem_drop hy)
      exact ⟨fun h1 => by omega, fun _ => by simpa using hafter y hy⟩
    · rcases List.mem_cons.1 hy with rfl | hy
      · have := hm x (List.mem_of_mem_take hx)
        exact ⟨fun _ => by simpa using hbefore x hx, fun h1 => by omega⟩
      · exact ih.2.2 x hx y hy
    · rcases List.mem_cons.1 hy with rfl | hy
      · exact hnv x (List.mem_of_mem_take hx)
      · exact ihn.2.2 x hx y hy
theorem ord_perm {n : Nat} {T : Nat → Nat → Bool} (h : InvRel n (fun a b => T a b = true)) : IsPerm (ordTo T n) ∧ ∀ a b, invT (ordTo T n) a b = true ↔ T a b = true := by
  obtain ⟨hok, hnd⟩ := ord_ok h n
  have hm := ordTo_mem T n
  have hl := ordTo_len T n
  generalize ordTo T n = l at *
  have hp : IsPerm l := ⟨fun x hx => by rw [hl]; exact hm x hx, hnd⟩
  have hat : ∀ i k, i < k → k < l.length → OkT (fun a b => T a b = true) (vat l i) (vat l k) := by
    intro i k hik hk
    have := List.pairwise_iff_getElem.1 hok i k (by omega) hk hik
    have e1 : vat l i = l[i] := vat_of (List.getElem?_eq_getElem _)
    have e2 : vat l k = l[k] := vat_of (List.getElem?_eq_getElem _)
    rw [e1, e2]; exact this
  refine ⟨hp, fun a b => ⟨fun hi => ?_, fun ht => ?_⟩⟩
  · obtain ⟨i, k, h1, h2, h3, h4, h5⟩ := invT_at.1 hi
    have := (hat i k h1 h2).2 (by rw [h3, h4]; omega)
    rw [h3, h4] at this
    simpa using this
  · obtain ⟨h1, h2⟩ := h.bound a b ht
    obtain ⟨i, hi, ei⟩ := hp.pos (a := a) (by omega)
    obtain ⟨k, hk, ek⟩ := hp.pos (a := b) (by omega)
    rcases Nat.lt_trichotomy i k with hik | hik | hik
    · exact invT_at.2 ⟨i, k, hik, hk, ei, ek, h1⟩
    · subst hik
      rw [ei] at ek; omega
    · have := (hat k i hik hi).1 (by rw [ei, ek]; omega)
      rw [ei, ek] at this
      exact absurd (by simpa using ht) this
theorem join_perm {p q : List Int} (hp : IsPerm p) (hq : IsPerm q) (hl : p.length = q.length) : IsPerm (joinM p q) ∧ (joinM p q).length = p.length ∧ ∀ a b, invT (joinM p q) a b = true ↔ JT p q a b = true := by
  obtain ⟨h1, h2⟩ := ord_perm (JT_rel hp hq hl)
  exact ⟨h1, joinM_len p q, h2⟩
end Go.Proofs.Ytgajaccnjjiiaaa
