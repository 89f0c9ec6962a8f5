/- Patterns: plain laws on functions from positions to values: a permutation without two patterns can be cut; the stack. -/
namespace Go.Proofs.Ytgajaccnjjiiaaa

/-- One more vertex beside a part that no edge leaves. -/
theorem p4_step {E : Nat → Nat → Prop} (sym : ∀ x y, E x y → E y x) {L : List Nat} {v : Nat} (hv : v ∉ L)
    (no : ∀ a b c d, a ∈ v :: L → b ∈ v :: L → c ∈ v :: L → d ∈ v :: L → E a b → E b c → E c d → ¬ E a c → ¬ E a d → ¬ E b d → False)
    {S : Nat → Prop} (h1 : ∃ x ∈ L, S x) (h2 : ∃ x ∈ L, ¬ S x) (hs : ∀ x ∈ L, ∀ y ∈ L, S x → ¬ S y → ¬ E x y) :
    ∃ S : Nat → Prop, (∃ x ∈ v :: L, S x) ∧ (∃ x ∈ v :: L, ¬ S x) ∧ ((∀ x ∈ v :: L, ∀ y ∈ v :: L, S x → ¬ S y → ¬ E x y) ∨ (∀ x ∈ v :: L, ∀ y ∈ v :: L, S x → ¬ S y → E x y)) := by
  obtain ⟨s0, hs0, hS0⟩ := h1
  obtain ⟨t0, ht0, hT0⟩ := h2
  have hs' : ∀ x ∈ L, ∀ y ∈ L, ¬ S x → S y → ¬ E x y := fun x hx y hy h1 h2 he => hs y hy x hx h2 h1 (sym _ _ he)
  by_cases hNT : ∃ t ∈ L, ¬ S t ∧ E v t
  · by_cases hNS : ∃ s ∈ L, S s ∧ E v s
    · obtain ⟨t, htL, htS, htE⟩ := hNT
      obtain ⟨s, hsL, hsS, hsE⟩ := hNS
      by_cases hM : ∃ x ∈ L, ¬ E v x
      · obtain ⟨m, hmL, hmE⟩ := hM
        -- no edge from those beside v to the others
        refine ⟨fun x => x ≠ v ∧ ¬ E v x, ⟨m, by simp [hmL], fun e => hv (e ▸ hmL), hmE⟩, ⟨v, by simp, fun h => h.1 rfl⟩, .inl ?_⟩
        rintro x hx y hy ⟨hxv, hxE⟩ hy2 hxy
        have hxL : x ∈ L := by rcases List.mem_cons.1 hx with h | h; exact absurd h hxv; exact h
        rcases List.mem_cons.1 hy with rfl | hyL
        · exact hxE (sym _ _ hxy)
        · have hyv : y ≠ v := fun e => hv (e ▸ hyL)
          have hyE : E v y := by
            apply Classical.byContradiction
            intro h; exact hy2 ⟨hyv, h⟩
          by_cases hxS : S x
          · have hyS : S y := by
              apply Classical.byContradiction
              intro h; exact hs x hxL y hyL hxS h hxy
            exact no x y v t hx hy (by simp) (by simp [htL]) hxy (sym _ _ hyE) htE (fun h => hxE (sym _ _ h)) (hs x hxL t htL hxS htS) (hs y hyL t htL hyS htS)
          · have hyS : ¬ S y := fun h => hs' x hxL y hyL hxS h hxy
            exact no x y v s hx hy (by simp) (by simp [hsL]) hxy (sym _ _ hyE) hsE (fun h => hxE (sym _ _ h)) (hs' x hxL s hsL hxS hsS) (hs' y hyL s hsL hyS hsS)
      · refine ⟨fun x => x = v, ⟨v, by simp, rfl⟩, ⟨s, by simp [hsL], fun e => hv (e ▸ hsL)⟩, .inr ?_⟩
        rintro x _ y hy rfl hyv
        rcases List.mem_cons.1 hy with h | hyL
        · exact absurd h hyv
        · apply Classical.byContradiction
          intro h; exact hM ⟨y, hyL, h⟩
    · refine ⟨fun x => x ≠ v ∧ S x, ⟨s0, by simp [hs0], fun e => hv (e ▸ hs0), hS0⟩, ⟨v, by simp, fun h => h.1 rfl⟩, .inl ?_⟩
      rintro x hx y hy ⟨hxv, hxS⟩ hy2 hxy
      have hxL : x ∈ L := by rcases List.mem_cons.1 hx with h | h; exact absurd h hxv; exact h
      rcases List.mem_cons.1 hy with rfl | hyL
      · exact hNS ⟨x, hxL, hxS, sym _ _ hxy⟩
      · have hyv : y ≠ v := fun e => hv (e ▸ hyL)
        exact hs x hxL y hyL hxS (fun h => hy2 ⟨hyv, h⟩) hxy
  · refine ⟨fun x => x ≠ v ∧ ¬ S x, ⟨t0, by simp [ht0], fun e => hv (e ▸ ht0), hT0⟩, ⟨v, by simp, fun h => h.1 rfl⟩, .inl ?_⟩
    rintro x hx y hy ⟨hxv, hxS⟩ hy2 hxy
    have hxL : x ∈ L := by rcases List.mem_cons.1 hx with h | h; exact absurd h hxv; exact h
    rcases List.mem_cons.1 hy with rfl | hyL
    · exact hNT ⟨x, hxL, hxS, sym _ _ hxy⟩
    · have hyv : y ≠ v := fun e => hv (e ▸ hyL)
      refine hs' x hxL y hyL hxS ?_ hxy
      apply Classical.byContradiction
      intro h; exact hy2 ⟨hyv, h⟩

/-- Without a path of four, the vertices fall into two parts with no edge between them, or with all. -/
theorem p4_split {E : Nat → Nat → Prop} (sym : ∀ x y, E x y → E y x) (irr : ∀ x, ¬ E x x) : ∀ (L : List Nat), L.Nodup → 2 ≤ L.length →
    (∀ a b c d, a ∈ L → b ∈ L → c ∈ L → d ∈ L → E a b → E b c → E c d → ¬ E a c → ¬ E a d → ¬ E b d → False) →
    ∃ S : Nat → Prop, (∃ x ∈ L, S x) ∧ (∃ x ∈ L, ¬ S x) ∧ ((∀ x ∈ L, ∀ y ∈ L, S x → ¬ S y → ¬ E x y) ∨ (∀ x ∈ L, ∀ y ∈ L, S x → ¬ S y → E x y))
  | [], _, h, _ => by simp at h
  | [x], _, h, _ => by simp at h
  | [v, x], hn, _, _ => by
    have hvx : x ≠ v := by rintro rfl; simp at hn
    refine ⟨fun y => y = v, ⟨v, by simp, rfl⟩, ⟨x, by simp, hvx⟩, ?_⟩
    by_cases h : E v x
    · refine .inr ?_
      rintro a _ b hb rfl hbv
      have : b = x := by simp at hb; rcases hb with h | h; exact absurd h hbv; exact h
      subst this; exact h
    · refine .inl ?_
      rintro a _ b hb rfl hbv
      have : b = x := by simp at hb; rcases hb with h | h; exact absurd h hbv; exact h
      subst this; exact h
  | v :: x :: y :: L, hn, _, no => by
    obtain ⟨hv, hn'⟩ := List.nodup_cons.1 hn
    obtain ⟨S, h1, h2, h3⟩ := p4_split sym irr (x :: y :: L) hn' (by simp) (fun a b c d ha hb hc hd => no a b c d (List.mem_cons_of_mem _ ha) (List.mem_cons_of_mem _ hb) (List.mem_cons_of_mem _ hc) (List.mem_cons_of_mem _ hd))
    rcases h3 with h3 | h3
    · exact p4_step sym hv no h1 h2 h3
    · -- the same with the edges that are not there
      have hsplit := p4_step (E := fun a b => a ≠ b ∧ ¬ E a b) (fun a b h => ⟨h.1.symm, fun e => h.2 (sym _ _ e)⟩) hv (L := x :: y :: L) (S := S) ?_ h1 h2 ?_
      · obtain ⟨T, g1, g2, g3⟩ := hsplit
        refine ⟨T, g1, g2, ?_⟩
        rcases g3 with g3 | g3
        · refine .inr fun a ha b hb hTa hTb => ?_
          apply Classical.byContradiction
          intro h
          exact g3 a ha b hb hTa hTb ⟨fun e => hTb (e ▸ hTa), h⟩
        · exact .inl fun a ha b hb hTa hTb => (g3 a ha b hb hTa hTb).2
      · intro a b c d ha hb hc hd hab hbc hcd hac had hbd
        have e1 : a ≠ c := by
          rintro rfl
          exact had hcd
        have e2 : a ≠ d := by
          rintro rfl
          exact hac ⟨hcd.1.symm, fun h => hcd.2 (sym _ _ h)⟩
        have e3 : b ≠ d := by
          rintro rfl
          exact had hab
        have f1 : E a c := by apply Classical.byContradiction; intro h; exact hac ⟨e1, h⟩
        have f2 : E a d := by apply Classical.byContradiction; intro h; exact had ⟨e2, h⟩
        have f3 : E b d := by apply Classical.byContradiction; intro h; exact hbd ⟨e3, h⟩
        exact no b d a c hb hd ha hc f3 (sym _ _ f2) f1 (fun h => hab.2 (sym _ _ h)) hbc.2 (fun h => hcd.2 (sym _ _ h))
      · intro a ha b hb hSa hSb h
        exact h.2 (h3 a ha b hb hSa hSb)

/-- Of a set that is not alike throughout, the first place where it differs from its beginning. -/
theorem first_change {S : Nat → Prop} {n : Nat} (h1 : ∃ x < n, S x) (h2 : ∃ x < n, ¬ S x) : ∃ a, 0 < a ∧ a < n ∧ (∀ i < a, (S i ↔ S 0)) ∧ ¬ (S a ↔ S 0) := by
  have hex : ∃ a, a < n ∧ ¬ (S a ↔ S 0) := by
    obtain ⟨x, hx, hS⟩ := h1
    obtain ⟨y, hy, hT⟩ := h2
    by_cases h0 : S 0
    · exact ⟨y, hy, fun h => hT (h.2 h0)⟩
    · exact ⟨x, hx, fun h => h0 (h.1 hS)⟩
  have key : ∀ m, (∃ a, a < m ∧ ¬ (S a ↔ S 0)) → ∃ a, a < m ∧ (∀ i < a, (S i ↔ S 0)) ∧ ¬ (S a ↔ S 0) := by
    intro m
    induction m with
    | zero => rintro ⟨a, h, _⟩; omega
    | succ m ih =>
      rintro ⟨a, ha, hS⟩
      by_cases h : ∃ a, a < m ∧ ¬ (S a ↔ S 0)
      · obtain ⟨b, hb, r⟩ := ih h
        exact ⟨b, by omega, r⟩
      · have : a = m := by
          apply Classical.byContradiction
          intro e; exact h ⟨a, by omega, hS⟩
        subst this
        exact ⟨a, by omega, fun i hi => Classical.byContradiction fun e => h ⟨i, hi, e⟩, hS⟩
  obtain ⟨a, ha, hb, hc⟩ := key n hex
  exact ⟨a, by rcases Nat.eq_zero_or_pos a with rfl | h; exact absurd Iff.rfl hc; exact h, ha, hb, hc⟩

/-- positions with one of the two patterns -/
def Has1302 (f : Nat → Int) (n : Nat) : Prop := ∃ i j k l, i < j ∧ j < k ∧ k < l ∧ l < n ∧ f k < f i ∧ f i < f l ∧ f l < f j
def Has2031 (f : Nat → Int) (n : Nat) : Prop := ∃ i j k l, i < j ∧ j < k ∧ k < l ∧ l < n ∧ f j < f l ∧ f l < f i ∧ f i < f k
def Has120 (f : Nat → Int) (n : Nat) : Prop := ∃ i j k, i < j ∧ j < k ∧ k < n ∧ f k < f i ∧ f i < f j
def Rises (f : Nat → Int) (n a : Nat) : Prop := ∀ i k, i < a → a ≤ k → k < n → f i < f k
def Drops (f : Nat → Int) (n a : Nat) : Prop := ∀ i k, i < a → a ≤ k → k < n → f k < f i

theorem ord2 {a c : Nat} {A C : Int} (h : ¬ ((a < c ∧ C < A) ∨ (c < a ∧ A < C))) (d : a ≠ c) (i : A ≠ C) : (a < c ∧ A < C) ∨ (c < a ∧ C < A) := by omega

theorem sep_cut {f : Nat → Int} {n : Nat} (hn : 2 ≤ n) (inj : ∀ i k, i < k → k < n → f i ≠ f k) (h1 : ¬ Has1302 f n) (h2 : ¬ Has2031 f n) :
    ∃ a, 0 < a ∧ a < n ∧ (Rises f n a ∨ Drops f n a) := by
  let E : Nat → Nat → Prop := fun x y => (x < y ∧ f y < f x) ∨ (y < x ∧ f x < f y)
  have sym : ∀ x y, E x y → E y x := fun x y h => h.elim (fun h => .inr h) (fun h => .inl h)
  have irr : ∀ x, ¬ E x x := fun x h => by rcases h with h | h <;> omega
  have no : ∀ a b c d, a ∈ List.range n → b ∈ List.range n → c ∈ List.range n → d ∈ List.range n → E a b → E b c → E c d → ¬ E a c → ¬ E a d → ¬ E b d → False := by
    intro a b c d ha hb hc hd hab hbc hcd hac had hbd
    rw [List.mem_range] at ha hb hc hd
    have n1 : ∀ i j k l, i < n → j < n → k < n → l < n → ¬ (i < j ∧ j < k ∧ k < l ∧ f k < f i ∧ f i < f l ∧ f l < f j) := fun i j k l _ _ _ hl h => h1 ⟨i, j, k, l, h.1, h.2.1, h.2.2.1, hl, h.2.2.2⟩
    have n2 : ∀ i j k l, i < n → j < n → k < n → l < n → ¬ (i < j ∧ j < k ∧ k < l ∧ f j < f l ∧ f l < f i ∧ f i < f k) := fun i j k l _ _ _ hl h => h2 ⟨i, j, k, l, h.1, h.2.1, h.2.2.1, hl, h.2.2.2⟩
    have dac : a ≠ c := by rintro rfl; exact had hcd
    have dad : a ≠ d := by rintro rfl; exact hac (sym _ _ hcd)
    have dbd : b ≠ d := by rintro rfl; exact had hab
    have iac : f a ≠ f c := by rcases Nat.lt_or_gt_of_ne dac with h | h; exact inj _ _ h hc; exact (inj _ _ h ha).symm
    have iad : f a ≠ f d := by rcases Nat.lt_or_gt_of_ne dad with h | h; exact inj _ _ h hd; exact (inj _ _ h ha).symm
    have ibd : f b ≠ f d := by rcases Nat.lt_or_gt_of_ne dbd with h | h; exact inj _ _ h hd; exact (inj _ _ h hb).symm
    have m1 := n1 a c b d ha hc hb hd
    have m2 := n1 d b c a hd hb hc ha
    have m3 := n2 b a d c hb ha hd hc
    have m4 := n2 c d a b hc hd ha hb
    clear h1 h2 n1 n2 inj
    simp only [E] at hab hbc hcd hac had hbd
    clear sym irr
    generalize f a = A at *
    generalize f b = B at *
    generalize f c = C at *
    generalize f d = D at *
    have hac2 := ord2 hac dac iac
    have had2 := ord2 had dad iad
    have hbd2 := ord2 hbd dbd ibd
    clear hac had hbd
    rcases hab with ⟨hab, hab'⟩ | ⟨hab, hab'⟩ <;> rcases hbc with ⟨hbc, hbc'⟩ | ⟨hbc, hbc'⟩ <;> rcases hcd with ⟨hcd, hcd'⟩ | ⟨hcd, hcd'⟩ <;>
      rcases hac2 with ⟨hac, hac'⟩ | ⟨hac, hac'⟩ <;> rcases had2 with ⟨had, had'⟩ | ⟨had, had'⟩ <;> rcases hbd2 with ⟨hbd, hbd'⟩ | ⟨hbd, hbd'⟩ <;>
      first
        | exact m1 ⟨by assumption, by assumption, by assumption, by assumption, by assumption, by assumption⟩
        | exact m2 ⟨by assumption, by assumption, by assumption, by assumption, by assumption, by assumption⟩
        | exact m3 ⟨by assumption, by assumption, by assumption, by assumption, by assumption, by assumption⟩
        | exact m4 ⟨by assumption, by assumption, by assumption, by assumption, by assumption, by assumption⟩
        | (clear m1 m2 m3 m4; omega)
  obtain ⟨S, g1, g2, g3⟩ := p4_split sym irr (List.range n) List.nodup_range (by simpa using hn) no
  simp only [List.mem_range] at g1 g2 g3
  obtain ⟨a, ha0, han, hb, hc⟩ := first_change g1 g2
  refine ⟨a, ha0, han, ?_⟩
  have key : ∀ (R : Nat → Nat → Prop), (∀ x y, R x y → R y x) → (∀ x < n, ∀ y < n, S x → ¬ S y → R x y) → ∀ x < n, ∀ y < n, ¬ (S x ↔ S y) → R x y := by
    intro R hR h x hx y hy hxy
    by_cases hS : S x
    · exact h x hx y hy hS (fun h => hxy ⟨fun _ => h, fun _ => hS⟩)
    · have : S y := Classical.byContradiction fun h => hxy ⟨fun h' => absurd h' hS, fun h' => absurd h' h⟩
      exact hR _ _ (h y hy x hx this hS)
  rcases g3 with g3 | g3
  · left
    have k1 := key (fun x y => ¬ E x y) (fun x y h e => h (sym _ _ e)) g3
    intro i k hi hak hk
    have hia : ¬ (S i ↔ S a) := fun h => hc (h.symm.trans (hb i hi))
    have r1 := k1 i (by omega) a han hia
    have r1' : f i < f a := by
      have := inj i a hi han
      have h : ¬ f a < f i := fun h => r1 (.inl ⟨hi, h⟩)
      omega
    by_cases hik : S i ↔ S k
    · have hak' : ¬ (S a ↔ S k) := fun h => hia (hik.trans h.symm)
      have hne : a ≠ k := by rintro rfl; exact hak' Iff.rfl
      have r2 := k1 a han k hk hak'
      have := inj a k (by omega) hk
      have h : ¬ f k < f a := fun h => r2 (.inl ⟨by omega, h⟩)
      omega
    · have r2 := k1 i (by omega) k hk hik
      have := inj i k (by omega) hk
      have h : ¬ f k < f i := fun h => r2 (.inl ⟨by omega, h⟩)
      omega
  · right
    have k1 := key E sym g3
    intro i k hi hak hk
    have hia : ¬ (S i ↔ S a) := fun h => hc (h.symm.trans (hb i hi))
    have r1 := k1 i (by omega) a han hia
    have r1' : f a < f i := by rcases r1 with ⟨_, h⟩ | ⟨h, _⟩; exact h; omega
    by_cases hik : S i ↔ S k
    · have hak' : ¬ (S a ↔ S k) := fun h => hia (hik.trans h.symm)
      have hne : a ≠ k := by rintro rfl; exact hak' Iff.rfl
      rcases k1 a han k hk hak' with ⟨_, h⟩ | ⟨h, _⟩ <;> omega
    · rcases k1 i (by omega) k hk hik with ⟨_, h⟩ | ⟨h, _⟩ <;> omega

theorem not_1302_cut {f : Nat → Int} {n a : Nat} (h : Rises f n a ∨ Drops f n a) {i j k l : Nat} (_hij : i < j) (hjk : j < k) (hkl : k < l) (hl : l < n) (h1 : f k < f i) (h2 : f i < f l) (h3 : f l < f j) : l < a ∨ a ≤ i := by
  apply Classical.byContradiction
  intro hn
  have ha : i < a ∧ a ≤ l := by omega
  rcases h with h | h
  · have a1 := h i j
    have a2 := h i k
    have a3 := h j l
    have a4 := h k l
    have a5 := h i l
    have a6 := h j k
    omega
  · have a1 := h i j
    have a2 := h i k
    have a3 := h j l
    have a4 := h k l
    have a5 := h i l
    have a6 := h j k
    omega
theorem not_2031_cut {f : Nat → Int} {n a : Nat} (h : Rises f n a ∨ Drops f n a) {i j k l : Nat} (_hij : i < j) (hjk : j < k) (hkl : k < l) (hl : l < n) (h1 : f j < f l) (h2 : f l < f i) (h3 : f i < f k) : l < a ∨ a ≤ i := by
  apply Classical.byContradiction
  intro hn
  have ha : i < a ∧ a ≤ l := by omega
  rcases h with h | h
  · have a1 := h i j
    have a2 := h i k
    have a3 := h j l
    have a4 := h k l
    have a5 := h i l
    have a6 := h j k
    omega
  · have a1 := h i j
    have a2 := h i k
    have a3 := h j l
    have a4 := h k l
    have a5 := h i l
    have a6 := h j k
    omega
end Go.Proofs.Ytgajaccnjjiiaaa
