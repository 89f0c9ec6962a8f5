/- PermLattice: plain laws: the laws of the lattice; inverses. -/
import Derived.Test.YtgajaccnjjiiaaaW61
import Derived.Test.YtgajaccnjjiiaaaW7
namespace Go.Proofs.Ytgajaccnjjiiaaa
open Go.RowKit

theorem findUp_some' {α : Type} {f : Nat → Option α} : ∀ {n i : Nat}, (findUp f n i).isSome = true → ∃ k, i ≤ k ∧ k < i + n ∧ (f k).isSome = true
  | 0, i, h => by simp [findUp] at h
  | n + 1, i, h => by
    rw [findUp] at h
    rcases hf : f i with _ | r
    · rw [hf] at h
      obtain ⟨k, h1, h2, h3⟩ := findUp_some' h
      exact ⟨k, by omega, by omega, h3⟩
    · exact ⟨i, by omega, by omega, by rw [hf]; rfl⟩
theorem weak_iff {p q : List Int} (hp : IsPerm p) : weakM p q = true ↔ ∀ a b, IT p a b → IT q a b := by
  unfold weakM
  rw [List.all_eq_true]
  constructor
  · intro h a b hab
    obtain ⟨i, k, h1, h2, h3, h4, h5⟩ := invT_at.1 hab
    have := h (i, k) (invs_mem.2 ⟨h1, h2, by simp only []; omega⟩)
    change invT q (vat p i).toNat (vat p k).toNat = true at this
    rw [h3, h4] at this
    simpa using this
  · intro h x hx
    obtain ⟨h1, h2, h3⟩ := invs_mem.1 hx
    obtain ⟨a, ha, _⟩ := hp.val (i := x.1) (by omega)
    obtain ⟨b, hb, _⟩ := hp.val (i := x.2) h2
    change invT q (vat p x.1).toNat (vat p x.2).toNat = true
    rw [ha, hb]
    have : IT q a b := h a b (invT_at.2 ⟨x.1, x.2, h1, h2, ha, hb, by omega⟩)
    simpa using this
/-- what is below both is below the join, and the join is above both -/
theorem join_iff {p q z : List Int} (hp : IsPerm p) (hq : IsPerm q) (hz : IsPerm z) (hl : p.length = q.length) : (∀ a b, IT (joinM p q) a b → IT z a b) ↔ (∀ a b, IT p a b → IT z a b) ∧ (∀ a b, IT q a b → IT z a b) := by
  obtain ⟨_, _, hj⟩ := join_perm hp hq hl
  constructor
  · intro h
    exact ⟨fun a b hab => h a b ((hj a b).2 (JT_above hp hq hl (.inl hab))), fun a b hab => h a b ((hj a b).2 (JT_above hp hq hl (.inr hab)))⟩
  · rintro ⟨h1, h2⟩ a b hab
    exact JT_least hp hq hl (inv_rel hz).trans h1 h2 a b ((hj a b).1 hab)
theorem perm_eq_of {p q : List Int} (hp : IsPerm p) (hq : IsPerm q) (hl : p.length = q.length) (h1 : ∀ a b, IT p a b → IT q a b) (h2 : ∀ a b, IT q a b → IT p a b) : p = q :=
  perm_unique hp hq hl fun a b => ⟨h1 a b, h2 a b⟩
theorem join_weak {p q : List Int} (hp : IsPerm p) (hq : IsPerm q) (hl : p.length = q.length) : joinM p q = q ↔ weakM p q = true := by
  obtain ⟨j1, j2, _⟩ := join_perm hp hq hl
  rw [weak_iff hp]
  constructor
  · intro h a b hab
    have := ((join_iff hp hq j1 hl).1 fun _ _ h => h).1 a b hab
    rwa [h] at this
  · intro h
    exact perm_eq_of j1 hq (by omega) ((join_iff hp hq hq hl).2 ⟨h, fun _ _ h => h⟩) ((join_iff hp hq j1 hl).1 fun _ _ h => h).2
theorem join_comm {p q : List Int} (hp : IsPerm p) (hq : IsPerm q) (hl : p.length = q.length) : joinM p q = joinM q p := by
  obtain ⟨j1, j2, _⟩ := join_perm hp hq hl
  obtain ⟨k1, k2, _⟩ := join_perm hq hp hl.symm
  have a1 := (join_iff hp hq j1 hl).1 fun _ _ h => h
  have a2 := (join_iff hq hp k1 hl.symm).1 fun _ _ h => h
  exact perm_eq_of j1 k1 (by omega) ((join_iff hp hq k1 hl).2 ⟨a2.2, a2.1⟩) ((join_iff hq hp j1 hl.symm).2 ⟨a1.2, a1.1⟩)
theorem join_assoc {p q r : List Int} (hp : IsPerm p) (hq : IsPerm q) (hr : IsPerm r) (h1 : p.length = q.length) (h2 : q.length = r.length) : joinM (joinM p q) r = joinM p (joinM q r) := by
  obtain ⟨j1, j2, _⟩ := join_perm hp hq h1
  obtain ⟨k1, k2, _⟩ := join_perm hq hr h2
  have l1 : (joinM p q).length = r.length := by omega
  have l2 : p.length = (joinM q r).length := by omega
  obtain ⟨m1, m2, _⟩ := join_perm j1 hr l1
  obtain ⟨n1, n2, _⟩ := join_perm hp k1 l2
  have a1 := (join_iff j1 hr m1 l1).1 fun _ _ h => h
  have a2 := (join_iff hp hq m1 h1).1 a1.1
  have b1 := (join_iff hp k1 n1 l2).1 fun _ _ h => h
  have b2 := (join_iff hq hr n1 h2).1 b1.2
  exact perm_eq_of m1 n1 (by omega) ((join_iff j1 hr n1 l1).2 ⟨(join_iff hp hq n1 h1).2 ⟨b1.1, b2.1⟩, b2.2⟩) ((join_iff hp k1 m1 l2).2 ⟨a2.1, (join_iff hq hr m1 h2).2 ⟨a2.2, a1.2⟩⟩)

/-! Read from behind. -/
theorem vat_reverse {p : List Int} {i : Nat} (h : i < p.length) : vat p.reverse i = vat p (p.length - 1 - i) := by
  apply vat_of
  rw [List.getElem?_reverse h]
  exact vat_get (by omega)
theorem inv_reverse {p : List Int} (hp : IsPerm p) (a b : Nat) : IT p.reverse a b ↔ (b < a ∧ a < p.length ∧ ¬ IT p a b) := by
  constructor
  · intro h
    obtain ⟨i, k, h1, h2, h3, h4, h5⟩ := invT_at.1 h
    have hb := (inv_rel (isPerm_reverse hp)).bound a b h
    rw [List.length_reverse] at h2 hb
    rw [vat_reverse (by omega)] at h3 h4
    refine ⟨h5, hb.2, fun hi => ?_⟩
    obtain ⟨i', k', g1, g2, g3, g4, _⟩ := invT_at.1 hi
    have e1 := vat_eq hp.2 (i := i') (k := p.length - 1 - i) (by omega) (by omega) (g3.trans h3.symm)
    have e2 := vat_eq hp.2 (i := k') (k := p.length - 1 - k) (by omega) (by omega) (g4.trans h4.symm)
    omega
  · rintro ⟨h1, h2, h3⟩
    obtain ⟨i, hi, ei⟩ := hp.pos h2
    obtain ⟨k, hk, ek⟩ := hp.pos (a := b) (by omega)
    have hki : k < i := by
      rcases Nat.lt_trichotomy i k with h | h | h
      · exact absurd (invT_at.2 ⟨i, k, h, hk, ei, ek, h1⟩) h3
      · subst h; rw [ei] at ek; omega
      · exact h
    refine invT_at.2 ⟨p.length - 1 - i, p.length - 1 - k, by omega, by rw [List.length_reverse]; omega, ?_, ?_, h1⟩
    · rw [vat_reverse (by omega), show p.length - 1 - (p.length - 1 - i) = i by omega, ei]
    · rw [vat_reverse (by omega), show p.length - 1 - (p.length - 1 - k) = k by omega, ek]
theorem weak_reverse {p q : List Int} (hp : IsPerm p) (hq : IsPerm q) (hl : p.length = q.length) : weakM q.reverse p.reverse = true ↔ weakM p q = true := by
  rw [weak_iff (isPerm_reverse hq), weak_iff hp]
  constructor
  · intro h a b hab
    have hb := (inv_rel hp).bound a b hab
    apply Classical.byContradiction
    intro hn
    exact ((inv_reverse hp a b).1 (h a b ((inv_reverse hq a b).2 ⟨hb.1, by omega, hn⟩))).2.2 hab
  · intro h a b hab
    obtain ⟨h1, h2, h3⟩ := (inv_reverse hq a b).1 hab
    exact (inv_reverse hp a b).2 ⟨h1, by omega, fun hp' => h3 (h a b hp')⟩
theorem meet_weak {p q : List Int} (hp : IsPerm p) (hq : IsPerm q) (hl : p.length = q.length) : meetM p q = p ↔ weakM p q = true := by
  have hp' := isPerm_reverse hp
  have hq' := isPerm_reverse hq
  have hl' : q.reverse.length = p.reverse.length := by rw [List.length_reverse, List.length_reverse, hl]
  rw [← weak_reverse hp hq hl, ← join_weak hq' hp' hl', join_comm hq' hp' hl']
  unfold meetM
  constructor
  · intro h
    have := congrArg List.reverse h
    rwa [List.reverse_reverse] at this
  · intro h
    rw [h, List.reverse_reverse]
theorem absorb {p q : List Int} (hp : IsPerm p) (hq : IsPerm q) (hl : p.length = q.length) : meetM p (joinM p q) = p := by
  obtain ⟨j1, j2, _⟩ := join_perm hp hq hl
  rw [meet_weak hp j1 j2.symm, weak_iff hp]
  exact ((join_iff hp hq j1 hl).1 fun _ _ h => h).1

/-! The strong order, and lists. -/
theorem before_of {p q : List Int} (hp : IsPerm p) (hq : IsPerm q) (hl : p.length = q.length) (hw : weakM p q = true) {d : Nat} (hd : d < p.length) (hb : ∀ i < d, vat p i = vat q i) (hne : vat p d ≠ vat q d) : vat p d < vat q d := by
  rw [weak_iff hp] at hw
  obtain ⟨k, k1, k2, k3⟩ := diff_later hp hq hl hd hb hne
  obtain ⟨m, m1, m2, m3⟩ := diff_later hq hp hl.symm (by omega) (fun i hi => (hb i hi).symm) (fun e => hne e.symm)
  obtain ⟨v, hv, hvl⟩ := hp.val hd
  obtain ⟨u, hu, hul⟩ := hq.val (i := d) (by omega)
  apply Int.not_le.1
  intro hge
  have hlt : u < v := by omega
  have h1 := hw v u (invT_at.2 ⟨d, k, k1, k2, hv, k3.trans hu, hlt⟩)
  obtain ⟨i, j, a1, a2, a3, a4, _⟩ := invT_at.1 h1
  have e1 : i = m := vat_eq hq.2 (by omega) m2 (by rw [a3, m3, hv])
  have e2 : j = d := vat_eq hq.2 a2 (by omega) (by rw [a4, hu])
  omega
theorem strong_iff {p q : List Int} {n : Nat} : strongM p q n = true ↔ ∀ i j, i < n → j < n → gcnt p (i + 1) j ≤ gcnt q (i + 1) j := by
  unfold strongM dif
  rw [List.all_eq_true]
  constructor
  · intro h i j hi hj
    have := h i (List.mem_range.2 hi)
    rw [List.all_eq_true] at this
    have := this j (List.mem_range.2 hj)
    simp only [decide_eq_true_eq] at this
    omega
  · intro h i hi
    rw [List.all_eq_true]
    intro j hj
    have := h i j (List.mem_range.1 hi) (List.mem_range.1 hj)
    simp only [decide_eq_true_eq]
    omega
theorem mem_filter_take {p : List Int} {i : Nat} {P : Int → Bool} {x : Int} : x ∈ (p.take i).filter P ↔ (∃ k, k < i ∧ k < p.length ∧ vat p k = x) ∧ P x = true := by
  rw [List.mem_filter]
  constructor
  · rintro ⟨h1, h2⟩
    exact ⟨mem_take_vat h1, h2⟩
  · rintro ⟨⟨k, h1, h2, rfl⟩, h3⟩
    exact ⟨vat_mem_take h1 h2, h3⟩
theorem weak_strong {p q : List Int} (hp : IsPerm p) (hq : IsPerm q) (hl : p.length = q.length) (hw : weakM p q = true) : strongM p q p.length = true := by
  rw [weak_iff hp] at hw
  rw [strong_iff]
  intro i j hi hj
  apply Nat.le_of_not_lt
  intro hlt
  have hnd : ∀ (l : List Int) (P : Int → Bool) (m : Nat), l.Nodup → ((l.take m).filter P).Nodup := fun l P m h => (h.sublist (List.take_sublist _ _)).sublist List.filter_sublist
  have hsum : ∀ l : List Int, i + 1 ≤ l.length → ((l.take (i + 1)).filter (fun x => decide ((j : Int) ≤ x))).length + ((l.take (i + 1)).filter (fun x => !decide ((j : Int) ≤ x))).length = i + 1 := fun l h => by
    have hf : ∀ (m : List Int) (P : Int → Bool), (m.filter P).length + (m.filter (fun x => !P x)).length = m.length := fun m P => by
      induction m with
      | nil => rfl
      | cons x m ih => cases hx : P x <;> simp [hx] <;> omega
    rw [hf, List.length_take]; omega
  have s1 := hsum p (by omega)
  have s2 := hsum q (by omega)
  unfold gcnt at hlt
  rw [List.countP_eq_length_filter, List.countP_eq_length_filter] at hlt
  have ex1 : ∃ v, v ∈ (p.take (i + 1)).filter (fun x => decide ((j : Int) ≤ x)) ∧ v ∉ (q.take (i + 1)).filter (fun x => decide ((j : Int) ≤ x)) := by
    apply Classical.byContradiction
    intro h
    have := (nodup_cover (hnd p (fun x => decide ((j : Int) ≤ x)) (i + 1) hp.2) (fun x hx => Classical.byContradiction fun e => h ⟨x, hx, e⟩)).1
    omega
  have ex2 : ∃ u, u ∈ (q.take (i + 1)).filter (fun x => !decide ((j : Int) ≤ x)) ∧ u ∉ (p.take (i + 1)).filter (fun x => !decide ((j : Int) ≤ x)) := by
    apply Classical.byContradiction
    intro h
    have := (nodup_cover (hnd q (fun x => !decide ((j : Int) ≤ x)) (i + 1) hq.2) (fun x hx => Classical.byContradiction fun e => h ⟨x, hx, e⟩)).1
    omega
  obtain ⟨v, hv1, hv2⟩ := ex1
  obtain ⟨u, hu1, hu2⟩ := ex2
  rw [mem_filter_take] at hv1 hv2 hu1 hu2
  obtain ⟨⟨a, a1, a2, a3⟩, hvj⟩ := hv1
  obtain ⟨⟨b, b1, b2, b3⟩, huj⟩ := hu1
  have hvj' : (j : Int) ≤ v := by simpa using hvj
  have huj' : u < (j : Int) := by simpa using huj
  obtain ⟨vN, hvN, hvl⟩ := hp.val a2
  obtain ⟨uN, huN, hul⟩ := hq.val b2
  obtain ⟨c, c1, c2⟩ := hp.pos (a := uN) (by omega)
  obtain ⟨d, d1, d2⟩ := hq.pos (a := vN) (by omega)
  have hc : i + 1 ≤ c := by
    apply Nat.le_of_not_lt
    intro h
    exact hu2 ⟨⟨c, h, c1, by rw [c2, ← b3, huN]⟩, huj⟩
  have hd : i + 1 ≤ d := by
    apply Nat.le_of_not_lt
    intro h
    exact hv2 ⟨⟨d, h, d1, by rw [d2, ← a3, hvN]⟩, hvj⟩
  have h1 := hw vN uN (invT_at.2 ⟨a, c, by omega, c1, hvN, c2, by omega⟩)
  obtain ⟨x, y, g1, g2, g3, g4, _⟩ := invT_at.1 h1
  have e1 : x = d := vat_eq hq.2 (by omega) d1 (g3.trans d2.symm)
  have e2 : y = b := vat_eq hq.2 g2 b2 (g4.trans huN.symm)
  omega

/-! Inverses. -/
theorem posTo_spec {p : List Int} (hp : IsPerm p) : ∀ k, k ≤ p.length → ∀ i, i < k → vat (posTo p k) (vat p i).toNat = i
  | 0, _, i, hi => by omega
  | k + 1, hk, i, hi => by
    rw [posTo]
    change vat ((posTo p k).set (vat p k).toNat k) (vat p i).toNat = i
    have hl := posTo_len p k
    have hik := hp.1 _ (vat_mem (show i < p.length by omega))
    have hkk := hp.1 _ (vat_mem (show k < p.length by omega))
    unfold vat
    by_cases e : i = k
    · subst e
      change (((posTo p i).set (vat p i).toNat (i : Int))[(vat p i).toNat]?).getD 0 = _
      rw [List.getElem?_set_self (by omega)]; rfl
    · change (((posTo p k).set (vat p k).toNat (k : Int))[(vat p i).toNat]?).getD 0 = _
      have := vat_inj hp.2 (show i < k by omega) (by omega)
      rw [List.getElem?_set_ne (by omega)]
      exact posTo_spec hp k (by omega) i (by omega)
theorem pos_len (p : List Int) : (posM p).length = p.length := posTo_len _ _
theorem pos_at {p : List Int} (hp : IsPerm p) {i a : Nat} (hi : i < p.length) (h : vat p i = a) : vat (posM p) a = i := by
  have := posTo_spec hp _ (Nat.le_refl _) i hi
  rw [h] at this
  simpa [posM] using this
theorem pos_perm {p : List Int} (hp : IsPerm p) : IsPerm (posM p) := by
  refine ⟨fun x hx => ?_, nodup_of_vat fun a b hab hb => ?_⟩
  · obtain ⟨a, ha, rfl⟩ := mem_vat hx
    rw [pos_len] at ha ⊢
    obtain ⟨i, hi, e⟩ := hp.pos ha
    rw [pos_at hp hi e]; omega
  · rw [pos_len] at hb
    obtain ⟨i, hi, ei⟩ := hp.pos (a := a) (by omega)
    obtain ⟨k, hk, ek⟩ := hp.pos hb
    rw [pos_at hp hi ei, pos_at hp hk ek]
    intro e
    have : i = k := by omega
    subst this
    rw [ei] at ek; omega
theorem pos_pos {p : List Int} (hp : IsPerm p) : posM (posM p) = p := by
  apply List.ext_getElem?
  intro i
  by_cases hi : i < p.length
  · obtain ⟨a, ha, hal⟩ := hp.val hi
    have h1 := pos_at hp hi ha
    have h2 := pos_at (pos_perm hp) (i := a) (a := i) (by rw [pos_len]; exact hal) h1
    rw [vat_get (by rw [pos_len, pos_len]; exact hi), vat_get hi, h2, ha]
  · rw [List.getElem?_eq_none (by rw [pos_len, pos_len]; omega), List.getElem?_eq_none (by omega)]
theorem count_take {p : List Int} (hp : IsPerm p) {i j k : Nat} (hk : k < p.length) (e : vat p k = j) : gcnt p i j = gcnt p i (j + 1) + if k < i then 1 else 0 := by
  have hsplit : ∀ l : List Int, l.countP (fun x => decide ((j : Int) ≤ x)) = l.countP (fun x => decide (((j + 1 : Nat) : Int) ≤ x)) + l.count (j : Int) := by
    intro l
    induction l with
    | nil => rfl
    | cons x l ih =>
      rw [List.countP_cons, List.countP_cons, List.count_cons, ih]
      by_cases h1 : x = j
      · rw [if_pos (decide_eq_true (show (j : Int) ≤ x by omega)), if_neg (by rw [decide_eq_true_eq]; omega), if_pos (by rw [beq_iff_eq]; exact h1)]
        omega
      · rw [if_neg (show ¬ (x == (j : Int)) = true by rw [beq_iff_eq]; exact h1)]
        by_cases h2 : (j : Int) ≤ x
        · rw [if_pos (decide_eq_true h2), if_pos (decide_eq_true (show ((j + 1 : Nat) : Int) ≤ x by omega))]
          omega
        · rw [if_neg (by rw [decide_eq_true_eq]; exact h2), if_neg (by rw [decide_eq_true_eq]; omega)]
          omega
  unfold gcnt
  rw [hsplit]
  congr 1
  have hn : (p.take i).Nodup := hp.2.sublist (List.take_sublist _ _)
  by_cases hki : k < i
  · rw [if_pos hki]
    have hm : (j : Int) ∈ p.take i := e ▸ vat_mem_take hki hk
    rw [hn.count, if_pos hm]
  · rw [if_neg hki]
    apply List.count_eq_zero_of_not_mem
    intro hm
    obtain ⟨m, m1, m2, m3⟩ := mem_take_vat hm
    have := vat_eq hp.2 m2 hk (m3.trans e.symm)
    omega
theorem gcnt_zero {p : List Int} (hp : IsPerm p) {i : Nat} (hi : i ≤ p.length) : gcnt p i 0 = i := by
  unfold gcnt
  have : (p.take i).countP (fun x => decide (((0 : Nat) : Int) ≤ x)) = (p.take i).length := by
    rw [List.countP_eq_length]
    intro x hx
    have := hp.1 x (List.mem_of_mem_take hx)
    simp; omega
  rw [this, List.length_take]; omega
theorem gcnt_inverse {p : List Int} (hp : IsPerm p) {i : Nat} (hi : i ≤ p.length) : ∀ j, j ≤ p.length → gcnt (posM p) i j + j = i + gcnt p j i
  | 0, _ => by
    rw [gcnt_zero (pos_perm hp) (by rw [pos_len]; exact hi)]
    simp [gcnt]
  | j + 1, hj => by
    have ih := gcnt_inverse hp hi j (by omega)
    obtain ⟨a, ha, hal⟩ := hp.val (i := j) (by omega)
    have h1 := count_take (pos_perm hp) (i := i) (j := j) (k := a) (by rw [pos_len]; exact hal) (pos_at hp (by omega) ha)
    have h2 := gcnt_succ (vat_get (p := p) (i := j) (by omega)) i
    rw [ha] at h2
    by_cases hai : a < i
    · rw [if_pos hai] at h1
      rw [if_neg (by omega)] at h2
      omega
    · rw [if_neg hai] at h1
      rw [if_pos (by omega)] at h2
      omega
theorem strong_inverse {p q : List Int} (hp : IsPerm p) (hq : IsPerm q) (hl : p.length = q.length) : strongM (posM p) (posM q) p.length = strongM p q p.length := by
  have key : ∀ {p q : List Int}, IsPerm p → IsPerm q → p.length = q.length → strongM p q p.length = true → strongM (posM p) (posM q) p.length = true := by
    intro p q hp hq hl h
    rw [strong_iff] at h ⊢
    intro i j hi hj
    have h1 := gcnt_inverse hp (i := i + 1) (by omega) j (by omega)
    have h2 := gcnt_inverse hq (i := i + 1) (by omega) j (by omega)
    rcases Nat.eq_zero_or_pos j with rfl | h0
    · simp only [gcnt, List.take_zero, List.countP_nil] at h1 h2 ⊢
      omega
    · by_cases hin : i + 1 < p.length
      · have := h (j - 1) (i + 1) (by omega) hin
        rw [show j - 1 + 1 = j by omega] at this
        omega
      · have e1 := gcnt_top hp.1 j (i + 1) (by omega)
        have e2 := gcnt_top hq.1 j (i + 1) (by omega)
        omega
  rw [Bool.eq_iff_iff]
  constructor
  · intro h
    have := key (pos_perm hp) (pos_perm hq) (by rw [pos_len, pos_len, hl]) (by rw [pos_len]; exact h)
    rwa [pos_pos hp, pos_pos hq, pos_len] at this
  · exact key hp hq hl
theorem after_inverse {p : List Int} (hp : IsPerm p) {d : Nat} (hd : d < p.length) : vat (afterM p (posM p)) d = d := by
  obtain ⟨i, hi, e⟩ := hp.pos hd
  have h1 := pos_at hp hi e
  apply vat_of
  rw [afterM, List.getElem?_map, vat_get (by rw [pos_len]; exact hd), h1]
  simp only [Option.map_some, Int.toNat_natCast]
  change some (vat p i) = _
  rw [e]

/-! Baxter permutations. -/
def BX1 (f : Nat → Int) (n : Nat) : Prop := ∃ a j b, a < j ∧ j + 1 < b ∧ b < n ∧ f (j + 1) < f a ∧ f a < f b ∧ f b < f j
def BX2 (f : Nat → Int) (n : Nat) : Prop := ∃ a j b, a < j ∧ j + 1 < b ∧ b < n ∧ f j < f b ∧ f b < f a ∧ f a < f (j + 1)
theorem bx_iff {p : List Int} : (bxFind p).isSome = true ↔ BX1 (vat p) p.length ∨ BX2 (vat p) p.length := by
  constructor
  · intro h
    obtain ⟨a, a1, a2, h⟩ := findUp_some' h
    obtain ⟨j, j1, j2, h⟩ := findUp_some' h
    obtain ⟨b, b1, b2, h⟩ := findUp_some' h
    unfold bxAt at h
    split at h
    · rename_i hb
      change badB (vat p a) (vat p j) (vat p (j + 1)) (vat p b) = true at hb
      simp only [badB, Bool.or_eq_true, Bool.and_eq_true, decide_eq_true_eq] at hb
      rcases hb with ⟨⟨h1, h2⟩, h3⟩ | ⟨⟨h1, h2⟩, h3⟩
      · exact .inl ⟨a, j, b, by omega, by omega, by omega, h1, h2, h3⟩
      · exact .inr ⟨a, j, b, by omega, by omega, by omega, h1, h2, h3⟩
    · cases h
  · intro h
    have hit : ∀ {α : Type} {f : Nat → Option α} {n i k : Nat}, i ≤ k → k < i + n → (f k).isSome = true → (findUp f n i).isSome = true := by
      intro α f n
      induction n with
      | zero => intro i k h1 h2 _; omega
      | succ n ih =>
        intro i k h1 h2 h3
        rw [findUp]
        rcases hf : f i with _ | r
        · by_cases e : k = i
          · subst e; rw [hf] at h3; cases h3
          · exact ih (by omega) (by omega) h3
        · rfl
    have go : ∀ a j b, a < j → j + 1 < b → b < p.length → badB (vat p a) (vat p j) (vat p (j + 1)) (vat p b) = true → (bxFind p).isSome = true := by
      intro a j b h1 h2 h3 hb
      refine hit (k := a) (by omega) (by omega) (hit (k := j) (by omega) (by omega) (hit (k := b) (by omega) (by omega) ?_))
      unfold bxAt
      rw [if_pos (show badB (p[a]?.getD 0) (p[j]?.getD 0) (p[j + 1]?.getD 0) (p[b]?.getD 0) = true from hb)]
      rfl
    rcases h with ⟨a, j, b, h1, h2, h3, h4, h5, h6⟩ | ⟨a, j, b, h1, h2, h3, h4, h5, h6⟩
    · exact go a j b h1 h2 h3 (by simp [badB]; left; exact ⟨⟨h4, h5⟩, h6⟩)
    · exact go a j b h1 h2 h3 (by simp [badB]; right; exact ⟨⟨h4, h5⟩, h6⟩)
/-- between two numbers of two sides there is a step from side to side -/
theorem side_step {S : Nat → Prop} : ∀ {v w : Nat}, v < w → S v → ¬ S w → ∃ m, v ≤ m ∧ m < w ∧ S m ∧ ¬ S (m + 1)
  | v, 0, h, _, _ => by omega
  | v, w + 1, h, h1, h2 => by
    by_cases hw : S w
    · exact ⟨w, by omega, by omega, hw, h2⟩
    · have : v ≠ w := by rintro rfl; exact hw h1
      obtain ⟨m, a, b, c, d⟩ := side_step (S := S) (show v < w by omega) h1 hw
      exact ⟨m, a, by omega, c, d⟩
theorem bx_inverse_some {p : List Int} (hp : IsPerm p) (h : (bxFind p).isSome = true) : (bxFind (posM p)).isSome = true := by
  rw [bx_iff] at h ⊢
  rw [pos_len]
  rcases h with ⟨a, j, b, h1, h2, h3, h4, h5, h6⟩ | ⟨a, j, b, h1, h2, h3, h4, h5, h6⟩
  · obtain ⟨A, hA, hAl⟩ := hp.val (i := a) (by omega)
    obtain ⟨B, hB, hBl⟩ := hp.val (i := b) (by omega)
    obtain ⟨J, hJ, hJl⟩ := hp.val (i := j) (by omega)
    obtain ⟨K, hK, hKl⟩ := hp.val (i := j + 1) (by omega)
    obtain ⟨m, m1, m2, m3, m4⟩ := side_step (S := fun v => ∃ i, i ≤ j ∧ vat p i = (v : Int)) (v := A) (w := B) (by omega) ⟨a, by omega, hA⟩ (by
      rintro ⟨i, h7, h8⟩
      have := vat_eq hp.2 (i := i) (k := b) (by omega) h3 (h8.trans hB.symm)
      omega)
    obtain ⟨i, i1, i2⟩ := m3
    obtain ⟨k, k1, k2⟩ := hp.pos (a := m + 1) (by omega)
    have hkj : j < k := by
      apply Nat.lt_of_not_le
      intro h; exact m4 ⟨k, h, k2⟩
    have e1 : i ≠ j := by rintro rfl; omega
    have e2 : k ≠ j + 1 := by rintro rfl; omega
    refine .inr ⟨K, m, J, by omega, by omega, hJl, ?_⟩
    rw [pos_at hp (by omega) hK, pos_at hp (by omega) i2, pos_at hp k1 k2, pos_at hp (by omega) hJ]
    omega
  · obtain ⟨A, hA, hAl⟩ := hp.val (i := a) (by omega)
    obtain ⟨B, hB, hBl⟩ := hp.val (i := b) (by omega)
    obtain ⟨J, hJ, hJl⟩ := hp.val (i := j) (by omega)
    obtain ⟨K, hK, hKl⟩ := hp.val (i := j + 1) (by omega)
    obtain ⟨m, m1, m2, m3, m4⟩ := side_step (S := fun v => ¬ ∃ i, i ≤ j ∧ vat p i = (v : Int)) (v := B) (w := A) (by omega) (by
      rintro ⟨i, h7, h8⟩
      have := vat_eq hp.2 (i := i) (k := b) (by omega) h3 (h8.trans hB.symm)
      omega) (fun h => h ⟨a, by omega, hA⟩)
    have m4' : ∃ i, i ≤ j ∧ vat p i = ((m + 1 : Nat) : Int) := Classical.byContradiction m4
    obtain ⟨i, i1, i2⟩ := m4'
    obtain ⟨k, k1, k2⟩ := hp.pos (a := m) (by omega)
    have hkj : j < k := by
      apply Nat.lt_of_not_le
      intro h; exact m3 ⟨k, h, k2⟩
    have e1 : i ≠ j := by rintro rfl; omega
    have e2 : k ≠ j + 1 := by rintro rfl; omega
    refine .inl ⟨J, m, K, by omega, by omega, hKl, ?_⟩
    rw [pos_at hp (by omega) hJ, pos_at hp k1 k2, pos_at hp (by omega) i2, pos_at hp (by omega) hK]
    omega
theorem bx_inverse {p : List Int} (hp : IsPerm p) : (bxFind (posM p)).isNone = (bxFind p).isNone := by
  have h1 := bx_inverse_some hp
  have h2 := bx_inverse_some (pos_perm hp)
  rw [pos_pos hp] at h2
  cases ha : bxFind p <;> cases hb : bxFind (posM p) <;> simp_all
end Go.Proofs.Ytgajaccnjjiiaaa
