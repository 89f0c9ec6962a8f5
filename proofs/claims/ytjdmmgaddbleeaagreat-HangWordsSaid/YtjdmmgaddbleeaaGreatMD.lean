/- Plain laws of sets of nails: their strings, their subsets, the least ones. -/
import Derived.Test.YtjdmmgaddbleeaaGreatMC
import Derived.Test.YtjdmmgaddbleeaaGreatMB
import Derived.Lib.Builder
import Derived.Sort.Grow
import Derived.Lib.UnsafeStr
import Derived.Laws.Externs
namespace Go.Proofs.YtjdmmgaddbleeaaGreat
open Go.RowKit

/-- two lists in strict order with the same members are one -/
theorem pw_ext {α : Type} {r : α → α → Prop} (irr : ∀ a, ¬ r a a) (tr : ∀ a b c, r a b → r b c → r a c) : ∀ (l m : List α), l.Pairwise r → m.Pairwise r → (∀ x, x ∈ l ↔ x ∈ m) → l = m
  | [], [], _, _, _ => rfl
  | [], b :: m, _, _, h => by have := (h b).2 (by simp); simp at this
  | a :: l, [], _, _, h => by have := (h a).1 (by simp); simp at this
  | a :: l, b :: m, hl, hm, h => by
    rw [List.pairwise_cons] at hl hm
    have hab : a = b := by
      rcases List.mem_cons.1 ((h a).1 (by simp)) with e | ha
      · exact e
      · rcases List.mem_cons.1 ((h b).2 (by simp)) with e | hb
        · exact e.symm
        · exact (irr a (tr _ _ _ (hl.1 b hb) (hm.1 a ha))).elim
    subst hab
    rw [pw_ext irr tr l m hl.2 hm.2]
    intro x
    constructor
    · intro hx
      rcases List.mem_cons.1 ((h x).1 (by simp [hx])) with e | hx2
      · subst e; exact (irr x (hl.1 x hx)).elim
      · exact hx2
    · intro hx
      rcases List.mem_cons.1 ((h x).2 (by simp [hx])) with e | hx2
      · subst e; exact (irr x (hm.1 x hx)).elim
      · exact hx2

/-- a set's letters, rising -/
abbrev Rise (l : List UInt8) : Prop := l.Pairwise (· < ·)
theorem u8_lt {a b : UInt8} : a < b ↔ a.toNat < b.toNat := Iff.rfl
theorem u8_irr (a : UInt8) : ¬ a < a := by rw [u8_lt]; omega
theorem u8_tr (a b c : UInt8) (h : a < b) (h2 : b < c) : a < c := by rw [u8_lt] at *; omega
theorem rise_ext {l m : List UInt8} (hl : Rise l) (hm : Rise m) (h : ∀ x, x ∈ l ↔ x ∈ m) : l = m := pw_ext u8_irr u8_tr l m hl hm h

def smallB (c : UInt8) : Prop := 97 ≤ c.toNat ∧ c.toNat ≤ 122
theorem isSet_iff : ∀ (l : List UInt8) (last : Int), isSet last l = true ↔ (∀ c ∈ l, smallB c ∧ last < c.toNat) ∧ Rise l
  | [], last => by simp [isSet]
  | c :: l, last => by
    rw [isSet, Bool.and_eq_true, Bool.and_eq_true, Bool.and_eq_true, isSet_iff l]
    simp only [decide_eq_true_eq, List.mem_cons, Rise, List.pairwise_cons]
    constructor
    · rintro ⟨⟨⟨h1, h2⟩, h3⟩, h4, h5⟩
      refine ⟨?_, fun b hb => by rw [u8_lt]; have := (h4 b hb).2; omega, h5⟩
      rintro x (rfl | hx)
      · exact ⟨⟨by omega, by omega⟩, h3⟩
      · exact ⟨(h4 x hx).1, by have := (h4 x hx).2; omega⟩
    · rintro ⟨h1, h2, h3⟩
      have hc := h1 c (.inl rfl)
      refine ⟨⟨⟨by have := hc.1.1; omega, by have := hc.1.2; omega⟩, hc.2⟩, fun x hx => ⟨(h1 x (.inr hx)).1, ?_⟩, h3⟩
      have := h2 x hx
      rw [u8_lt] at this
      omega
theorem isSet_zero {l : List UInt8} : isSet 0 l = true ↔ (∀ c ∈ l, smallB c) ∧ Rise l := by
  rw [isSet_iff]
  constructor
  · rintro ⟨h1, h2⟩; exact ⟨fun c hc => (h1 c hc).1, h2⟩
  · rintro ⟨h1, h2⟩; exact ⟨fun c hc => ⟨h1 c hc, by have := (h1 c hc).1; omega⟩, h2⟩

/-- the letter of nail i -/
def letB (i : Nat) : UInt8 := UInt8.ofNat (97 + i)
theorem letB_nat {i : Nat} (h : i < 26) : (letB i).toNat = 97 + i := by
  have : ∀ i, i < 26 → (letB i).toNat = 97 + i := by decide +kernel
  exact this i h
theorem nail_let : ∀ i, i < 26 → nailB (letB i) = i := by decide +kernel
theorem low_let : ∀ i, i < 26 → lowB (letB i) = letB i := by decide +kernel
theorem let_nail : ∀ c : UInt8, (97 ≤ c.toNat ∧ c.toNat ≤ 122) → letB (nailB c) = c ∧ nailB c = c.toNat - 97 := for_bytes (by decide +kernel)
/-- a set's string -/
def strN (f : Nat → Bool) : List UInt8 := ((List.range 26).filter f).map letB
def strTo (f : Nat → Bool) (k : Nat) : List UInt8 := ((List.range k).filter f).map letB
theorem strTo_succ (f : Nat → Bool) (k : Nat) : strTo f (k + 1) = strTo f k ++ if f k = true then [letB k] else [] := by
  unfold strTo
  rw [List.range_succ, List.filter_append, List.map_append]
  congr 1
  cases h : f k <;> simp [h]
theorem strTo_len (f : Nat → Bool) (k : Nat) : (strTo f k).length ≤ k := by
  unfold strTo
  rw [List.length_map]
  have := List.length_filter_le f (List.range k)
  simpa using this
theorem mem_strN {f : Nat → Bool} {c : UInt8} : c ∈ strN f ↔ smallB c ∧ f (c.toNat - 97) = true := by
  unfold strN
  simp only [List.mem_map, List.mem_filter, List.mem_range]
  constructor
  · rintro ⟨i, ⟨hi, hf⟩, rfl⟩
    have := letB_nat hi
    exact ⟨⟨by omega, by omega⟩, by rw [this]; simpa using hf⟩
  · rintro ⟨⟨h1, h2⟩, hf⟩
    obtain ⟨e1, e2⟩ := let_nail c ⟨h1, h2⟩
    exact ⟨c.toNat - 97, ⟨by omega, hf⟩, by rw [← e2]; exact e1⟩
theorem range_pw : ∀ n, (List.range n).Pairwise (· < ·)
  | 0 => by simp
  | n + 1 => by
    rw [List.range_succ, List.pairwise_append]
    exact ⟨range_pw n, by simp, fun a ha b hb => by simp at ha hb; omega⟩
theorem strN_rise (f : Nat → Bool) : Rise (strN f) := by
  unfold strN Rise
  rw [List.pairwise_map]
  refine List.Pairwise.imp_of_mem ?_ ((range_pw 26).filter f)
  intro a b ha hb h
  rw [List.mem_filter, List.mem_range] at ha hb
  rw [u8_lt, letB_nat ha.1, letB_nat hb.1]
  omega
theorem strN_set (f : Nat → Bool) : isSet 0 (strN f) = true := isSet_zero.2 ⟨fun _ hc => (mem_strN.1 hc).1, strN_rise f⟩
theorem strN_congr {f g : Nat → Bool} (h : ∀ i, i < 26 → f i = g i) : strN f = strN g := by
  unfold strN
  congr 1
  apply List.filter_congr
  intro i hi
  exact h i (by simpa using hi)
theorem mem_marks {l : List UInt8} {i : Nat} : marksOf l i = true ↔ ∃ c ∈ l, c.toNat = 97 + i := by
  unfold marksOf; simp
theorem strN_marks {l : List UInt8} (h : isSet 0 l = true) : strN (marksOf l) = l := by
  obtain ⟨h1, h2⟩ := isSet_zero.1 h
  refine rise_ext (strN_rise _) h2 fun x => ?_
  rw [mem_strN, mem_marks]
  constructor
  · rintro ⟨hs, c, hc, e⟩
    obtain rfl : c = x := UInt8.toNat_inj.1 (by have := hs.1; omega)
    exact hc
  · intro hx
    have := h1 x hx
    exact ⟨this, x, hx, by have := this.1; omega⟩
theorem marks_strN {f : Nat → Bool} {i : Nat} (hi : i < 26) : marksOf (strN f) i = f i := by
  rw [Bool.eq_iff_iff, mem_marks]
  constructor
  · rintro ⟨c, hc, e⟩
    have := (mem_strN.1 hc).2
    rwa [show c.toNat - 97 = i by omega] at this
  · intro h
    exact ⟨letB i, mem_strN.2 ⟨⟨by rw [letB_nat hi]; omega, by rw [letB_nat hi]; omega⟩, by rw [letB_nat hi]; simpa using h⟩, letB_nat hi⟩
theorem strN_inj {f g : Nat → Bool} (h : strN f = strN g) {i : Nat} (hi : i < 26) : f i = g i := by
  rw [← marks_strN (f := f) hi, h, marks_strN hi]
theorem strN_len (f : Nat → Bool) : (strN f).length ≤ 26 := by
  unfold strN
  rw [List.length_map]
  have := List.length_filter_le f (List.range 26)
  simpa using this

/-- all letters of s are among those of t -/
def subL (s t : List UInt8) : Bool := s.all fun c => t.contains c
theorem subL_iff {s t : List UInt8} : subL s t = true ↔ ∀ c ∈ s, c ∈ t := by simp [subL]
theorem inM_sub (f g : Nat → Bool) : inM f g = subL (strN f) (strN g) := by
  rw [Bool.eq_iff_iff, subL_iff]
  unfold inM
  simp only [List.all_eq_true, List.mem_range]
  constructor
  · intro h c hc
    rw [mem_strN] at *
    refine ⟨hc.1, ?_⟩
    have := h (c.toNat - 97) (by have := hc.1.2; omega)
    simpa [hc.2] using this
  · intro h i hi
    cases hf : f i
    · rfl
    · have h2 := h (letB i) (mem_strN.2 ⟨⟨by rw [letB_nat hi]; omega, by rw [letB_nat hi]; omega⟩, by rw [letB_nat hi]; simpa using hf⟩)
      have h3 := (mem_strN.1 h2).2
      rw [letB_nat hi] at h3
      simpa using h3

/-- the letters that bits name -/
def subS (A : List UInt8) (bits : Nat) : List UInt8 := ((List.range A.length).filter fun k => bits.testBit k).map fun k => A[k]?.getD 0
theorem mem_subS {A : List UInt8} {bits : Nat} {c : UInt8} : c ∈ subS A bits ↔ ∃ k, A[k]? = some c ∧ bits.testBit k = true := by
  unfold subS
  simp only [List.mem_map, List.mem_filter, List.mem_range]
  constructor
  · rintro ⟨k, ⟨hk, hb⟩, rfl⟩
    exact ⟨k, by rw [List.getElem?_eq_getElem hk]; rfl, hb⟩
  · rintro ⟨k, hk, hb⟩
    obtain ⟨h, _⟩ := List.getElem?_eq_some_iff.1 hk
    exact ⟨k, ⟨h, hb⟩, by rw [hk]; rfl⟩
theorem rise_at {A : List UInt8} (h : Rise A) {i j : Nat} {a b : UInt8} (hi : A[i]? = some a) (hj : A[j]? = some b) (hij : i < j) : a < b := by
  obtain ⟨h1, rfl⟩ := List.getElem?_eq_some_iff.1 hi
  obtain ⟨h2, rfl⟩ := List.getElem?_eq_some_iff.1 hj
  exact List.pairwise_iff_getElem.1 h i j h1 h2 hij
theorem rise_inj {A : List UInt8} (h : Rise A) {i j : Nat} {a : UInt8} (hi : A[i]? = some a) (hj : A[j]? = some a) : i = j := by
  rcases Nat.lt_trichotomy i j with h1 | h1 | h1
  · exact (u8_irr a (rise_at h hi hj h1)).elim
  · exact h1
  · exact (u8_irr a (rise_at h hj hi h1)).elim
theorem subS_rise {A : List UInt8} (h : Rise A) (bits : Nat) : Rise (subS A bits) := by
  unfold subS Rise
  rw [List.pairwise_map]
  refine List.Pairwise.imp_of_mem ?_ ((range_pw A.length).filter _)
  intro a b ha hb hlt
  rw [List.mem_filter, List.mem_range] at ha hb
  have h2 := rise_at h (List.getElem?_eq_getElem ha.1) (List.getElem?_eq_getElem hb.1) hlt
  rw [List.getElem?_eq_getElem ha.1, List.getElem?_eq_getElem hb.1]
  exact h2
theorem subS_mem {A : List UInt8} {bits : Nat} {c : UInt8} (h : c ∈ subS A bits) : c ∈ A := by
  obtain ⟨k, hk, _⟩ := mem_subS.1 h
  exact List.mem_of_getElem? hk
/-- bits within bits -/
def bitIn (c b : Nat) : Bool := c &&& b == c
theorem bitIn_iff {c b : Nat} : bitIn c b = true ↔ ∀ k, c.testBit k = true → b.testBit k = true := by
  unfold bitIn
  rw [beq_iff_eq]
  constructor
  · intro h k hk
    rw [← h, Nat.testBit_and, Bool.and_eq_true] at hk
    exact hk.2
  · intro h
    apply Nat.eq_of_testBit_eq
    intro k
    rw [Nat.testBit_and]
    cases hc : c.testBit k
    · rfl
    · rw [h k hc]; rfl
theorem bitIn_le {c b : Nat} (h : bitIn c b = true) : c ≤ b := by
  unfold bitIn at h
  rw [beq_iff_eq] at h
  rw [← h]
  exact Nat.and_le_right
theorem bitIn_refl (b : Nat) : bitIn b b = true := by rw [bitIn_iff]; exact fun _ h => h
theorem bitIn_trans {a b c : Nat} (h : bitIn a b = true) (h2 : bitIn b c = true) : bitIn a c = true := by
  rw [bitIn_iff] at *; exact fun k hk => h2 k (h k hk)
theorem bit_lt {A : List UInt8} {b k : Nat} (hb : b < 2 ^ A.length) (h : b.testBit k = true) : k < A.length := by
  rcases Nat.lt_or_ge k A.length with h1 | h1
  · exact h1
  · have : b < 2 ^ k := Nat.lt_of_lt_of_le hb (Nat.pow_le_pow_right (by omega) h1)
    rw [Nat.testBit_lt_two_pow this] at h
    cases h
theorem subS_sub {A : List UInt8} (hA : Rise A) {c b : Nat} (hc : c < 2 ^ A.length) : subL (subS A c) (subS A b) = bitIn c b := by
  rw [Bool.eq_iff_iff, subL_iff, bitIn_iff]
  constructor
  · intro h k hk
    have hkl := bit_lt hc hk
    obtain ⟨j, hj, hb⟩ := mem_subS.1 (h _ (mem_subS.2 ⟨k, List.getElem?_eq_getElem hkl, hk⟩))
    rwa [rise_inj hA hj (List.getElem?_eq_getElem hkl)] at hb
  · intro h x hx
    obtain ⟨k, hk, hb⟩ := mem_subS.1 hx
    exact mem_subS.2 ⟨k, hk, h k hb⟩
theorem subS_inj {A : List UInt8} (hA : Rise A) {c b : Nat} (hc : c < 2 ^ A.length) (hb : b < 2 ^ A.length) (h : subS A c = subS A b) : c = b := by
  have h1 := subS_sub hA (b := b) hc
  have h2 := subS_sub hA (b := c) hb
  rw [h] at h1
  rw [h] at h2
  have h3 : subL (subS A b) (subS A b) = true := subL_iff.2 fun _ h => h
  rw [h3] at h1 h2
  have := bitIn_le h1.symm
  have := bitIn_le h2.symm
  omega
/-- the number of some bits -/
def ofB : List Bool → Nat
  | [] => 0
  | b :: l => b.toNat + 2 * ofB l
theorem ofB_lt : ∀ (l : List Bool), ofB l < 2 ^ l.length
  | [] => by simp [ofB]
  | b :: l => by
    have := ofB_lt l
    have hb : b.toNat ≤ 1 := by cases b <;> simp
    rw [ofB, List.length_cons, Nat.pow_succ]
    omega
theorem ofB_bit : ∀ (l : List Bool) (k : Nat), (ofB l).testBit k = l[k]?.getD false
  | [], k => by simp [ofB]
  | b :: l, 0 => by
    rw [ofB, Nat.testBit_zero]
    cases b <;> simp <;> omega
  | b :: l, k + 1 => by
    have hb : b.toNat ≤ 1 := by cases b <;> simp
    rw [ofB, Nat.testBit_succ, show (b.toNat + 2 * ofB l) / 2 = ofB l by omega, ofB_bit l k]
    rfl
/-- every rising list of letters of A is named by bits -/
theorem subS_onto {A s : List UInt8} (hA : Rise A) (hs : Rise s) (h : ∀ c ∈ s, c ∈ A) : ∃ b, b < 2 ^ A.length ∧ subS A b = s := by
  refine ⟨ofB (A.map fun c => s.contains c), by have := ofB_lt (A.map fun c => s.contains c); rwa [List.length_map] at this, ?_⟩
  refine rise_ext (subS_rise hA _) hs fun x => ?_
  rw [mem_subS]
  constructor
  · rintro ⟨k, hk, hb⟩
    rw [ofB_bit, List.getElem?_map, hk] at hb
    simpa using hb
  · intro hx
    obtain ⟨k, hk⟩ := List.mem_iff_getElem?.1 (h x hx)
    exact ⟨k, hk, by rw [ofB_bit, List.getElem?_map, hk]; simpa using hx⟩

/-- bits that have a property, and none within them has -/
def minB (p : Nat → Bool) (b : Nat) : Bool := p b && (List.range b).all fun c => !(bitIn c b) || !(p c)
theorem minB_iff {p : Nat → Bool} {b : Nat} : minB p b = true ↔ p b = true ∧ ∀ c, bitIn c b = true → p c = true → c = b := by
  unfold minB
  rw [Bool.and_eq_true, List.all_eq_true]
  constructor
  · rintro ⟨h1, h2⟩
    refine ⟨h1, fun c hc hp => ?_⟩
    rcases Nat.lt_or_ge c b with h | h
    · have := h2 c (by simpa using h)
      simp [hc, hp] at this
    · have := bitIn_le hc; omega
  · rintro ⟨h1, h2⟩
    refine ⟨h1, fun c hc => ?_⟩
    cases h3 : bitIn c b
    · rfl
    · cases h4 : p c
      · rfl
      · have := h2 c h3 h4
        simp at hc; omega
/-- below whatever has the property lies a least one -/
theorem minB_below {p : Nat → Bool} : ∀ (b : Nat), p b = true → ∃ c, bitIn c b = true ∧ minB p c = true := by
  intro b
  induction b using Nat.strongRecOn with
  | ind b ih =>
    intro hp
    cases hm : minB p b
    · have h2 : ¬ (p b = true ∧ ∀ c, bitIn c b = true → p c = true → c = b) := by rw [← minB_iff, hm]; simp
      have h3 : ∃ c, bitIn c b = true ∧ p c = true ∧ c ≠ b := by
        apply Classical.byContradiction
        intro hn
        apply h2
        refine ⟨hp, fun c h4 h5 => ?_⟩
        apply Classical.byContradiction
        intro h6
        exact hn ⟨c, h4, h5, h6⟩
      obtain ⟨c, h4, h5, h6⟩ := h3
      have := bitIn_le h4
      obtain ⟨d, h7, h8⟩ := ih c (by omega) h5
      exact ⟨d, bitIn_trans h7 h4, h8⟩
    · exact ⟨b, bitIn_refl b, hm⟩
/-- what the program has found ahead of bits K -/
def minsTo (p : Nat → Bool) (K : Nat) : List Nat := (List.range K).filter (minB p)
theorem minsTo_succ (p : Nat → Bool) (K : Nat) : minsTo p (K + 1) = minsTo p K ++ if (!((minsTo p K).any fun x => bitIn x K) && p K) = true then [K] else [] := by
  unfold minsTo
  rw [List.range_succ, List.filter_append]
  congr 1
  rw [List.filter_cons, List.filter_nil]
  have e : minB p K = (!(((List.range K).filter (minB p)).any fun x => bitIn x K) && p K) := by
    rw [Bool.eq_iff_iff, Bool.and_eq_true, minB_iff]
    constructor
    · rintro ⟨h1, h2⟩
      refine ⟨?_, h1⟩
      rw [Bool.not_eq_true', Bool.eq_false_iff]
      intro h
      obtain ⟨x, hx, hxK⟩ := List.any_eq_true.1 h
      rw [List.mem_filter, List.mem_range] at hx
      have := h2 x hxK (minB_iff.1 hx.2).1
      omega
    · rintro ⟨h1, h2⟩
      refine ⟨h2, fun c hc hp => ?_⟩
      apply Classical.byContradiction
      intro hne
      have hle := bitIn_le hc
      obtain ⟨d, hd, hm⟩ := minB_below c hp
      have hdl := bitIn_le hd
      rw [Bool.not_eq_true', Bool.eq_false_iff] at h1
      exact h1 (List.any_eq_true.2 ⟨d, List.mem_filter.2 ⟨List.mem_range.2 (by omega), hm⟩, bitIn_trans hd hc⟩)
  rw [e]
end Go.Proofs.YtjdmmgaddbleeaaGreat

/- strings.Builder's WriteByte and String, at a builder of the call's own: the walks (after the shelf's own texts). -/
namespace Go.Proofs.YtjdmmgaddbleeaaGreat
open Go.RowKit

/-- nothing below B has turned, and no draw is taken back -/
structure Up (B : Nat) (w w' : World) : Prop where
  below : Below B w w'
  drawn : w.drawn ≤ w'.drawn
theorem Up.refl (B : Nat) (w : World) : Up B w w := ⟨Below.refl _ _, Nat.le_refl _⟩
theorem Up.trans {B : Nat} {a b c : World} (h : Up B a b) (k : Up B b c) : Up B a c := ⟨h.below.trans k.below, Nat.le_trans h.drawn k.drawn⟩
theorem Up.mono {B B' : Nat} {a b : World} (h : Up B a b) (hB : B' ≤ B) : Up B' a b := ⟨h.below.mono hB, h.drawn⟩
theorem Up.alloc {B : Nat} {a b : World} (h : Up B a b) (hB : B ≤ b.heap.size) (o : Obj) : Up B a (b.alloc o) := ⟨h.below.alloc hB o, h.drawn⟩
theorem Up.setCell {B : Nat} {a b : World} (h : Up B a b) {p : Addr} (hp : B ≤ p.block) (v : Value) : Up B a (b.setCell p v) := ⟨h.below.setCell hp v, by simpa using h.drawn⟩
theorem Up.drewN {B : Nat} {a b : World} (h : Up B a b) (n : Nat) : Up B a (b.drewN n) := ⟨h.below.drewN' n, Nat.le_trans h.drawn (Nat.le_add_right _ _)⟩
theorem Up.drew {B : Nat} {a b : World} (h : Up B a b) : Up B a b.drew := h.drewN 1
/-- what is up from its own end on is draws and new blocks -/
theorem Up.grow {w w' : World} (h : Up w.heap.size w w') : ∃ q os, w' = Go.Sort.grow (w.drewN q) os := by
  refine ⟨w'.drawn - w.drawn, w'.heap.extract w.heap.size w'.heap.size, ?_⟩
  have e1 : w'.heap = w.heap ++ w'.heap.extract w.heap.size w'.heap.size := by
    apply Array.ext_getElem?
    intro i
    rcases Nat.lt_or_ge i w.heap.size with hi | hi
    · rw [h.below.block i hi, Array.getElem?_append_left hi]
    · rw [Array.getElem?_append_right hi, Array.getElem?_extract]
      split
      · congr 1; omega
      · rw [Array.getElem?_eq_none (by omega)]
  have e2 := h.drawn
  have e3 := h.below.os
  have e4 := h.below.tape
  have e5 := h.below.output
  cases w with | mk h0 t0 d0 o0 u0 =>
  cases w' with | mk h1 t1 d1 o1 u1 =>
  simp only at e1 e2 e3 e4 e5
  subst e3 e4 e5
  simp only [Go.Sort.grow, World.drewN, World.mk.injEq, true_and, and_true]
  exact ⟨e1, by omega⟩

theorem Tryz.sizeB73 : (Tryz.prog.info? 73).map (·.size) = some 2 := by kernel_rfl
theorem Tryz.liesB73 : liesAt Tryz.prog Tryz.prog.depth 73 (2 / Tryz.prog.cellsOf 73) 0 73 1 = true := by kernel_rfl

set_option maxHeartbeats 1000000 in
set_option maxRecDepth 100000 in
theorem copyCheck_used (b : Nat) (w : World) (h0 : w.cell? ⟨b, 0, none⟩ = some (.pointer (some ⟨b, 0, none⟩))) :
    Calls Tryz.prog 61 #[.pointer (some ⟨b, 0, none⟩)] w fun e w' => e = .returned (.tuple #[]) ∧ w' = w := by
  obtain ⟨j, hj, _⟩ := Option.map_eq_some_iff.1 Tryz.sizeB73
  go_enter Tryz.func61, Tryz.ntmps61
  go_wp2
  rw [Lib.run_neq_ptr_same _ _ Tryz.underlying71 hj]
  go_wp2
  go_end0
  exact ⟨rfl, rfl⟩

set_option maxHeartbeats 1000000 in
set_option maxRecDepth 100000 in
theorem copyCheck_fresh (b : Nat) (w : World) (h0 : w.cell? ⟨b, 0, none⟩ = some (.pointer none)) (hsh : w.shape? b = some (73, 2)) (hfz : w.frozen? ⟨b, 0, none⟩ = false) :
    Calls Tryz.prog 61 #[.pointer (some ⟨b, 0, none⟩)] w fun e w' => e = .returned (.tuple #[]) ∧ w' = w.setCell ⟨b, 0, none⟩ (.pointer (some ⟨b, 0, none⟩)) := by
  obtain ⟨j, hj, hjs⟩ := Option.map_eq_some_iff.1 Tryz.sizeB73
  go_enter Tryz.func61, Tryz.ntmps61
  go_wp2
  rw [Lib.run_to_unsafe _ ⟨b, 0, none⟩ Tryz.underlying71 Tryz.underlying97 hj (by rw [hjs]; decide) hsh (Nat.zero_lt_succ 1)]
  simp only [Result.andThen]
  rw [Oper.upon_value]
  go_wp2
  rw [run_callFunc_extern Tryz.func74 (by kernel_rfl) (by kernel_rfl) (by kernel_rfl) (e := Extern.AbiNoEscape.same) (by kernel_rfl)]
  rw [Lib.run_noEscape]
  simp only [Result.andThen]
  rw [Oper.upon_value]
  go_wp2
  rw [Lib.run_from_unsafe _ ⟨b, 0, none⟩ Tryz.underlying97 Tryz.underlying71 hj hsh Tryz.liesB73]
  simp only [Result.andThen]
  rw [Oper.upon_value]
  go_wp2
  go_end0
  exact ⟨rfl, rfl⟩

/-- a builder at block b that holds the bytes bs, its buffer v -/
structure Bld (B : Nat) (w : World) (b : Nat) (p v : Value) (bs : List UInt8) : Prop where
  hB : B ≤ b
  blk : Blk w b 73 [p, v]
  own : OwnB w B v bs
  ne : v.ownBlock ≠ some b
  used : p = .pointer none ∨ p = .pointer (some ⟨b, 0, none⟩)
theorem Bld.lt {B : Nat} {w : World} {b : Nat} {p v : Value} {bs : List UInt8} (h : Bld B w b p v bs) : b < w.heap.size := h.blk.lt
theorem Bld.keep {B : Nat} {w w' : World} {b : Nat} {p v : Value} {bs : List UInt8} (h : Bld B w b p v bs) (hb : Below w.heap.size w w') : Bld B w' b p v bs :=
  ⟨h.hB, h.blk.keep hb, h.own.keep hb, h.ne, h.used⟩

theorem copyCheck_any (B b : Nat) (p v : Value) (bs : List UInt8) (w : World) (h : Bld B w b p v bs) :
    Calls Tryz.prog 61 #[.pointer (some ⟨b, 0, none⟩)] w fun e w' => e = .returned (.tuple #[]) ∧ Bld B w' b (.pointer (some ⟨b, 0, none⟩)) v bs ∧ w'.heap.size = w.heap.size ∧ Up B w w' := by
  have h0 : w.cell? ⟨b, 0, none⟩ = some p := h.blk.cell rfl
  rcases h.used with rfl | rfl
  · refine (copyCheck_fresh b w h0 ?_ (h.blk.free 0)).mono ?_
    · have := h.blk; unfold Blk at this; simp [World.shape?, this]
    · rintro e w' ⟨rfl, rfl⟩
      refine ⟨rfl, ⟨h.hB, h.blk.set 0 _, h.own.kept fun g hg => heap_setCell_other w ⟨b, 0, none⟩ g _ (fun e => h.ne (by rw [hg, e])), h.ne, .inr rfl⟩, by simp, (Up.refl B w).setCell (p := ⟨b, 0, none⟩) h.hB _⟩
  · refine (copyCheck_used b w h0).mono ?_
    rintro e w' ⟨rfl, rfl⟩
    exact ⟨rfl, h, rfl, Up.refl _ _⟩

set_option maxHeartbeats 2000000 in
set_option maxRecDepth 100000 in
theorem writeByte_any (B b : Nat) (p v : Value) (bs : List UInt8) (c : UInt8) (w : World) (h : Bld B w b p v bs) (hlen : bs.length < 100000000) (hBw : B ≤ w.heap.size) :
    Calls Tryz.prog 62 #[.pointer (some ⟨b, 0, none⟩), .int .u8 c.toNat] w fun e w' => e = .returned .nilIface ∧ (∃ v', Bld B w' b (.pointer (some ⟨b, 0, none⟩)) v' (bs ++ [c])) ∧ Up B w w' := by
  have HCC := Lib.hid (copyCheck_any B b p v bs w h)
  clear h
  go_enter Tryz.func62, Tryz.ntmps62
  go_wp2_with (go_at_call 61; refine HCC.out.mono ?_)
  rintro e w1 ⟨rfl, h1, hs0, hu1⟩
  have hs1 : w.heap.size ≤ w1.heap.size := by omega
  clear hs0
  have hbk := h1.blk
  have hown := h1.own
  have hne := h1.ne
  have c1 : w1.cell? ⟨b, 1, none⟩ = some v := hbk.cell rfl
  obtain ⟨a0, n0, rfl, hn1, hn2⟩ := hown.shape rfl
  have HOWN := Lib.hid hown
  have HU := Lib.hid hu1
  have HB1 := Lib.hid h1
  clear hown hu1 h1
  go_wp2_with (at_builtin; refine wpList_appU Tryz.info5 Tryz.underlying50 HOWN.out (by omega) (by omega) rfl _ _ rfl (c := c) rfl rfl ?_)
  intro v' w2 hown2 hgrow hb2 hd2
  have hblk2 : Blk w2 b 73 [.pointer (some ⟨b, 0, none⟩), .slice a0 bs.length n0] := hbk.grown hgrow (fun e => hne e.symm)
  have f1 : w2.frozen? ⟨b, 1, none⟩ = false := hblk2.free 1
  have d1 : w2.cell? ⟨b, 1, none⟩ = some (.slice a0 bs.length n0) := hblk2.cell rfl
  obtain ⟨a2, n2, rfl, _, _⟩ := hown2.shape rfl
  have HOWN2 := Lib.hid hown2
  have hset := hblk2.set 1 (.slice a2 (bs ++ [c]).length n2)
  have hne2 : (Value.slice a2 (bs ++ [c]).length n2).ownBlock ≠ some b := by
    intro e
    rcases hown2 with ⟨h0, _⟩ | ⟨g, cap, cur, hv, hb3, hg3, _⟩
    · simp at h0
    · rw [hv] at e
      simp [Value.ownBlock] at e
      subst e
      have := hblk2
      unfold Blk at this
      rw [this] at hg3
      simp at hg3
  have hfin : Bld B (w2.setCell ⟨b, 1, none⟩ (.slice a2 (bs ++ [c]).length n2)) b (.pointer (some ⟨b, 0, none⟩)) (.slice a2 (bs ++ [c]).length n2) (bs ++ [c]) :=
    ⟨HB1.out.hB, hset, HOWN2.out.kept fun g hg => heap_setCell_other w2 ⟨b, 1, none⟩ g _ (fun e => hne2 (by rw [hg, e])), hne2, .inr rfl⟩
  have hup : Up B w (w2.setCell ⟨b, 1, none⟩ (.slice a2 (bs ++ [c]).length n2)) := (HU.out.trans ⟨hb2, hd2⟩).setCell (p := ⟨b, 1, none⟩) HB1.out.hB _
  have HFIN := Lib.hid hfin
  have HUP := Lib.hid hup
  clear hfin hup hset hown2 hne2
  generalize (bs ++ [c]).length = m at *
  go_wp2
  go_ret
  exact ⟨rfl, ⟨_, HFIN.out⟩, HUP.out⟩
end Go.Proofs.YtjdmmgaddbleeaaGreat

/- strings.Builder's String: the walk. -/
namespace Go.Proofs.YtjdmmgaddbleeaaGreat
open Go.RowKit

theorem Tryz.cells5 : Tryz.prog.cellsOf 5 = 1 := by kernel_rfl
theorem drawn_freeze (w : World) (a : Addr) (n : Nat) : (w.freeze a n).drawn = w.drawn := by unfold World.freeze; split <;> rfl
set_option maxHeartbeats 2000000 in
set_option maxRecDepth 100000 in
theorem bString_some (B b : Nat) (p v : Value) (l : List UInt8) (w : World) (h : Bld B w b p v l) (h0 : l ≠ []) :
    Calls Tryz.prog 49 #[.pointer (some ⟨b, 0, none⟩)] w fun e w' => e = .returned (.string ⟨l.toArray⟩) ∧ Up B w w' := by
  have hown := h.own
  have hne := h.blk
  rcases hown with ⟨_, h1⟩ | ⟨g, cap, cur, rfl, hbg, hg, hnc, hcm, hcs, htake⟩
  · exact absurd h1 h0
  have hl0 : 0 < l.length := List.length_pos_iff.2 h0
  have c1 : w.drew.cell? ⟨b, 1, none⟩ = some (.slice (some ⟨g, 0, none⟩) l.length cap) := (hne.drewN 1).cell rfl
  have hSD : (Builtin.unsafeSliceData_ #[50] 88 #[.slice (some ⟨g, 0, none⟩) l.length cap]).run Tryz.prog w.drew = .ok (.pointer (some ⟨g, 0, none⟩)) w.drew :=
    Lib.run_unsafeSliceData_row _ _ _ _ _ _ (by omega)
  have hUS : (Builtin.unsafeString_ #[88, 3] 9 #[.pointer (some ⟨g, 0, none⟩), .int .i64 l.length]).run Tryz.prog w.drew = .ok (.string ⟨l.toArray⟩) (w.drew.freeze ⟨g, 0, none⟩ l.length) := by
    refine Lib.run_unsafeString_row w.drew 88 3 9 5 Tryz.underlying88 Tryz.cells5 g cur.size (by have hg' : w.drew.heap[g]? = some (.cells cur 5 (0, 0)) := hg; simp [World.shape?, hg']) l h0 (by omega) (by unfold maxLen at hcm; omega) ?_
    intro j x hx
    rw [show (⟨g, 0, none⟩ : Addr).add j = ⟨g, j, none⟩ by simp [Addr.add_lit], cell_of_row w.drew g j cur 5 (0, 0) hg]
    have h2 : (B8s l)[j]? = some (.int .u8 (x.toNat : Int)) := by simp [B8s, hx]
    rw [← htake, List.getElem?_take] at h2
    split at h2
    · simpa using h2
    · cases h2
  clear hne h htake hg
  have HU : Hid (Up B w (w.drew.freeze ⟨g, 0, none⟩ l.length)) := ⟨Lib.below_freeze (Below.drew (Below.refl B w)) (p := ⟨g, 0, none⟩) hbg _, by rw [drawn_freeze]; exact Nat.le_succ _⟩
  go_enter Tryz.func49, Tryz.ntmps49
  go_wp2
  go_region
  all_goals (go_wp2; go_ret; exact ⟨rfl, HU.out⟩)

set_option maxHeartbeats 2000000 in
set_option maxRecDepth 100000 in
theorem bString_none (B b : Nat) (p : Value) (w : World) (hbk : Blk w b 73 [p, .slice none 0 0]) :
    Calls Tryz.prog 49 #[.pointer (some ⟨b, 0, none⟩)] w fun e w' => e = .returned (.string ⟨#[]⟩) ∧ Up B w w' := by
  have hUS := fun W q => Lib.run_unsafeString_none W (P := Tryz.prog) 88 3 9 q
  have c1 : w.drew.cell? ⟨b, 1, none⟩ = some (.slice none 0 0) := (hbk.drewN 1).cell rfl
  have hSD : (Builtin.unsafeSliceData_ #[50] 88 #[.slice none 0 0]).run Tryz.prog w.drew = .ok (.pointer none) w.drew := rfl
  clear hbk
  have HU : Hid (Up B w w.drew) := (Up.refl B w).drew
  go_enter Tryz.func49, Tryz.ntmps49
  go_wp2
  go_region
  all_goals (go_wp2; go_ret; exact ⟨rfl, HU.out⟩)

theorem bString_any (B b : Nat) (p v : Value) (l : List UInt8) (w : World) (h : Bld B w b p v l) (hv : l = [] → v = .slice none 0 0) :
    Calls Tryz.prog 49 #[.pointer (some ⟨b, 0, none⟩)] w fun e w' => e = .returned (.string ⟨l.toArray⟩) ∧ Up B w w' := by
  by_cases h0 : l = []
  · subst h0
    have := hv rfl
    subst this
    exact bString_none B b p w h.blk
  · exact bString_some B b p v l w h h0
end Go.Proofs.YtjdmmgaddbleeaaGreat

/- A set of nails as a string: the walk. -/
namespace Go.Proofs.YtjdmmgaddbleeaaGreat
open Go.RowKit

set_option maxRecDepth 100000 in
set_option maxHeartbeats 1000000 in
theorem String_any (f : Nat → Bool) (w : World) : Calls Tryz.prog 48 #[nailsV f] w fun e w' => e = .returned (.string (strB (strN f))) ∧ Up w.heap.size w w' := by
  have hgf : ∀ k, k < 26 → (marksL f)[k]? = some (.bool (f k)) := fun k h => marks_get h
  have hlf := marks_len f
  have hS0 : strTo f 26 = strN f := rfl
  have hst := fun k => strTo_succ f k
  have hb1 := (Blk.new w 45 (marksL f)).alloc (.cells #[.pointer none, .slice none 0 0] 73)
  have hb2 := Blk.new (w.alloc (.cells (marksL f).toArray 45)) 73 [.pointer none, .slice none 0 0]
  rw [World.size_alloc] at hb2
  have hbld : Bld w.heap.size ((w.alloc (.cells (marksL f).toArray 45)).alloc (.cells #[.pointer none, .slice none 0 0] 73)) (w.heap.size + 1) (.pointer none) (.slice none 0 0) (strTo f 0) :=
    ⟨by omega, hb2, OwnB.nil _ _, by simp [Value.ownBlock], .inl rfl⟩
  have hup : Up w.heap.size w ((w.alloc (.cells (marksL f).toArray 45)).alloc (.cells #[.pointer none, .slice none 0 0] 73)) := ((Up.refl _ _).alloc (Nat.le_refl _) _).alloc (by simp) _
  unfold nailsV
  generalize marksL f = M at *
  have HGF := Lib.hid hgf
  have HM := Lib.hid hlf
  have HB1 := Lib.hid hb1
  have HS0 := Lib.hid hS0
  have HST := Lib.hid hst
  have HBLD := Lib.hid hbld
  have HUP := Lib.hid hup
  clear hgf hlf hb1 hb2 hS0 hst hbld hup
  go_enter Tryz.func48, Tryz.ntmps48
  go_wp2_with (with_reducible show wpList _ _ _ (Oper.mk _ (Op.load 45 _) _ _ _ _ :: _) _ _; (refine wpList_loadB HB1.out Tryz.size45 HM.out Tryz.underlying45 rfl rfl _ rfl rfl ?_))
  go_loopw [7] (fun iv wr => ∃ (k : Nat) (p v : Value), k ≤ 26 ∧ iv = .int .i64 k ∧ w.heap.size ≤ wr.heap.size ∧ Hid (Bld w.heap.size wr (w.heap.size + 1) p v (strTo f k)) ∧ Hid (strTo f k = [] → v = .slice none 0 0) ∧ Hid (Up w.heap.size w wr)) (fun iv _ => 26 - (intOf iv).toNat)
  case atStart => exact ⟨0, _, _, by omega, rfl, by simp; omega, HBLD, (show Hid (_ → _) from fun _ => rfl), HUP⟩
  case round =>
    clear HBLD HUP HB1
    obtain ⟨k, p, v, hk, rfl, hsz, HBLD, HV, HUP⟩ := hrel
    by_cases hlt : k < 26
    · have h1 := HGF.out k hlt
      have hix := idx67 hlt h1
      have hsk := HST.out k
      have hlen := strTo_len f k
      generalize f k = x at *
      have HSK := Lib.hid hsk
      clear hsk
      cases x
      · go_wp2_with fail
        go_roundw
        case rel => exact ⟨k + 1, p, v, by omega, by go_num, hsz, by have := HBLD.out; show Bld _ _ _ _ _ _; rw [HSK.out]; simpa using this, by show _ → _; rw [HSK.out]; simpa using HV.out, HUP⟩
        case measure => simp [intOf]; omega
      · have hwb := writeByte_any w.heap.size (w.heap.size + 1) p v (strTo f k) (letB k) wr HBLD.out (by omega) hsz
        rw [letB_nat hlt] at hwb
        have e97 : ((97 + k : Nat) : Int) = 97 + (k : Int) := by omega
        rw [e97] at hwb
        have HWB := Lib.hid hwb
        clear hwb e97 hlen
        go_wp2_with (go_at_call 62; refine HWB.out.mono ?_; rintro e w1 ⟨rfl, ⟨v1, h1⟩, hu1⟩)
        have hs1 := hu1.below.size
        go_roundw
        case rel => exact ⟨k + 1, _, v1, by omega, by go_num, by omega, by show Bld _ _ _ _ _ _; rw [HSK.out]; exact h1, by show _ → _; rw [HSK.out]; simp, HUP.out.trans hu1⟩
        case measure => simp [intOf]; omega
    · obtain rfl : k = 26 := by omega
      have hbs := bString_any w.heap.size (w.heap.size + 1) p v _ wr HBLD.out HV.out
      rw [HS0.out] at hbs
      have HBS := Lib.hid hbs
      clear hbs
      go_wp2_with (go_at_call 49; refine HBS.out.mono ?_; rintro e w1 ⟨rfl, hu1⟩)
      go_ret
      exact ⟨rfl, HUP.out.trans hu1⟩

set_option maxRecDepth 100000 in
theorem count_any (f : Nat → Bool) (w : World) : Calls Tryz.prog 38 #[nailsV f] w fun e w' => e = .returned (.int .i64 (strN f).length) ∧ Up w.heap.size w w' := by
  have hst := String_any f (w.alloc (.cells (marksL f).toArray 45))
  have hlf := marks_len f
  have hb1 := Blk.new w 45 (marksL f)
  have hup : Up w.heap.size w (w.alloc (.cells (marksL f).toArray 45)) := (Up.refl _ _).alloc (Nat.le_refl _) _
  unfold nailsV at *
  generalize marksL f = M at *
  generalize strN f = l at *
  have HM := Lib.hid hlf
  have HB1 := Lib.hid hb1
  have HUP := Lib.hid hup
  have HST := Lib.hid hst
  clear hlf hb1 hup hst
  go_enter Tryz.func38, Tryz.ntmps38
  go_wp2_with (first
    | (with_reducible show wpList _ _ _ (Oper.mk _ (Op.load 45 _) _ _ _ _ :: _) _ _; (refine wpList_loadB HB1.out Tryz.size45 HM.out Tryz.underlying45 rfl rfl _ rfl rfl ?_))
    | (go_at_call 48; refine HST.out.mono ?_; rintro e w1 ⟨rfl, hu1⟩))
  go_ret
  exact ⟨rfl, HUP.out.trans (hu1.mono (by simp))⟩
end Go.Proofs.YtjdmmgaddbleeaaGreat
