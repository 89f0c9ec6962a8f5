/- PermFinds and PermKnuth: plain laws: what the search finds, and what the stack sorts. -/
import Derived.Test.YtgajaccnjjiiaaaW49
import Derived.Test.YtgajaccnjjiiaaaL3
namespace Go.Proofs.Ytgajaccnjjiiaaa
open Go.RowKit

def vat (p : List Int) (i : Nat) : Int := p[i]?.getD 0
theorem vat_of {p : List Int} {i : Nat} {x : Int} (h : p[i]? = some x) : vat p i = x := by rw [vat, h]; rfl
theorem vat_get {p : List Int} {i : Nat} (h : i < p.length) : p[i]? = some (vat p i) := by
  rw [vat, List.getElem?_eq_getElem h]; rfl
theorem vat_mem {p : List Int} {i : Nat} (h : i < p.length) : vat p i ∈ p := List.mem_of_getElem? (vat_get h)
theorem mem_vat {p : List Int} {x : Int} (h : x ∈ p) : ∃ i, i < p.length ∧ vat p i = x := by
  obtain ⟨i, hi⟩ := List.mem_iff_getElem?.1 h
  exact ⟨i, (List.getElem?_eq_some_iff.1 hi).1, vat_of hi⟩
theorem vat_inj {p : List Int} (h : p.Nodup) {i k : Nat} (hik : i < k) (hk : k < p.length) : vat p i ≠ vat p k := by
  intro e
  have h1 := vat_get (p := p) (i := i) (by omega)
  have h2 := vat_get (p := p) (i := k) hk
  rw [e] at h1
  have := (List.getElem?_inj (by omega) h).1 (h1.trans h2.symm)
  omega

theorem srch_some {p q s : List Int} {d fr : Nat} : (srch p q (d + 1) s fr).isSome = true ↔ ∃ i, fr ≤ i ∧ i < p.length ∧ fitsTo p q s i s.length = true ∧ (srch p q d (s ++ [(i : Int)]) (i + 1)).isSome = true := by
  rw [srch, List.isSome_findSome?, List.any_eq_true]
  constructor
  · rintro ⟨i, hi, h⟩
    rw [List.mem_range'_1] at hi
    split at h
    · rename_i hf
      exact ⟨i, by omega, by omega, hf, h⟩
    · cases h
  · rintro ⟨i, h1, h2, h3, h4⟩
    exact ⟨i, by rw [List.mem_range'_1]; omega, by rw [if_pos h3]; exact h4⟩

theorem fits_succ {p q s : List Int} {i k : Nat} : fitsTo p q s i (k + 1) = true ↔ fitsTo p q s i k = true ∧ ((vat p (vat s k).toNat < vat p i) ↔ (vat q k < vat q s.length)) := by
  rw [fitsTo, Bool.and_eq_true, beq_iff_eq, decide_eq_decide]
  exact Iff.rfl
theorem fits_one (p q : List Int) (i j : Nat) : fitsTo p q [(i : Int)] j 1 = true ↔ ((vat p i < vat p j) ↔ (vat q 0 < vat q 1)) := by
  rw [fits_succ]
  constructor
  · exact fun h => h.2
  · exact fun h => ⟨rfl, h⟩
theorem fits_two (p q : List Int) (i j k : Nat) : fitsTo p q [(i : Int), (j : Int)] k 2 = true ↔ ((vat p i < vat p k) ↔ (vat q 0 < vat q 2)) ∧ ((vat p j < vat p k) ↔ (vat q 1 < vat q 2)) := by
  rw [fits_succ, fits_succ]
  constructor
  · exact fun h => ⟨h.1.2, h.2⟩
  · exact fun h => ⟨⟨rfl, h.1⟩, h.2⟩
theorem fits_three (p q : List Int) (i j k l : Nat) : fitsTo p q [(i : Int), (j : Int), (k : Int)] l 3 = true ↔
    ((vat p i < vat p l) ↔ (vat q 0 < vat q 3)) ∧ ((vat p j < vat p l) ↔ (vat q 1 < vat q 3)) ∧ ((vat p k < vat p l) ↔ (vat q 2 < vat q 3)) := by
  rw [fits_succ, fits_succ, fits_succ]
  constructor
  · exact fun h => ⟨h.1.1.2, h.1.2, h.2⟩
  · exact fun h => ⟨⟨⟨rfl, h.1⟩, h.2.1⟩, h.2.2⟩

theorem find_three {p q : List Int} (hf : fE p q = 0) (hq : q.length = 3) : (findM p q).isSome = true ↔ ∃ i j k, i < j ∧ j < k ∧ k < p.length ∧ fitsTo p q [(i : Int)] j 1 = true ∧ fitsTo p q [(i : Int), (j : Int)] k 2 = true := by
  rw [findM, if_pos hf, hq, srch_some]
  constructor
  · rintro ⟨i, _, h1, _, h⟩
    obtain ⟨j, hj, h2, h3, h⟩ := srch_some.1 h
    obtain ⟨k, hk, h4, h5, h⟩ := srch_some.1 h
    exact ⟨i, j, k, by omega, by omega, h4, by simpa using h3, by simpa using h5⟩
  · rintro ⟨i, j, k, h1, h2, h3, h4, h5⟩
    refine ⟨i, by omega, by omega, by simp [fitsTo], srch_some.2 ⟨j, by omega, by omega, by simpa using h4, srch_some.2 ⟨k, by omega, by omega, by simpa using h5, by simp [srch]⟩⟩⟩
theorem find_four {p q : List Int} (hf : fE p q = 0) (hq : q.length = 4) : (findM p q).isSome = true ↔ ∃ i j k l, i < j ∧ j < k ∧ k < l ∧ l < p.length ∧ fitsTo p q [(i : Int)] j 1 = true ∧ fitsTo p q [(i : Int), (j : Int)] k 2 = true ∧ fitsTo p q [(i : Int), (j : Int), (k : Int)] l 3 = true := by
  rw [findM, if_pos hf, hq, srch_some]
  constructor
  · rintro ⟨i, _, h1, _, h⟩
    obtain ⟨j, hj, h2, h3, h⟩ := srch_some.1 h
    obtain ⟨k, hk, h4, h5, h⟩ := srch_some.1 h
    obtain ⟨l, hl, h6, h7, h⟩ := srch_some.1 h
    exact ⟨i, j, k, l, by omega, by omega, by omega, h6, by simpa using h3, by simpa using h5, by simpa using h7⟩
  · rintro ⟨i, j, k, l, h1, h2, h3, h4, h5, h6, h7⟩
    refine ⟨i, by omega, by omega, by simp [fitsTo], srch_some.2 ⟨j, by omega, by omega, by simpa using h5, srch_some.2 ⟨k, by omega, by omega, by simpa using h6, srch_some.2 ⟨l, by omega, by omega, by simpa using h7, by simp [srch]⟩⟩⟩⟩

theorem check120 : checkM [1, 2, 0] = 0 := by decide +kernel
theorem check1302 : checkM [1, 3, 0, 2] = 0 := by decide +kernel
theorem check2031 : checkM [2, 0, 3, 1] = 0 := by decide +kernel
theorem fE_ok {p q : List Int} (h1 : checkM p = 0) (h2 : checkM q = 0) (h3 : q.length ≤ 6) : fE p q = 0 := by
  rw [fE, if_pos h1, if_pos h2, if_neg (by omega)]

theorem find120 {p : List Int} (h : checkM p = 0) : (findM p [1, 2, 0]).isSome = true ↔ Has120 (vat p) p.length := by
  have hn := ((checkM_iff p).1 h).2.2
  have q0 : vat [1, 2, 0] 0 = 1 := rfl
  have q1 : vat [1, 2, 0] 1 = 2 := rfl
  have q2 : vat [1, 2, 0] 2 = 0 := rfl
  rw [find_three (fE_ok h check120 (by simp)) rfl]
  constructor
  · rintro ⟨i, j, k, h1, h2, h3, h4, h5⟩
    rw [fits_one, q0, q1] at h4
    rw [fits_two, q0, q1, q2] at h5
    have i3 := vat_inj hn (Nat.lt_trans h1 h2) h3
    exact ⟨i, j, k, h1, h2, h3, by omega, by omega⟩
  · rintro ⟨i, j, k, h1, h2, h3, h4, h5⟩
    refine ⟨i, j, k, h1, h2, h3, ?_, ?_⟩
    · rw [fits_one, q0, q1]; omega
    · rw [fits_two, q0, q1, q2]; omega
theorem find1302 {p : List Int} (h : checkM p = 0) : (findM p [1, 3, 0, 2]).isSome = true ↔ Has1302 (vat p) p.length := by
  have hn := ((checkM_iff p).1 h).2.2
  have q0 : vat [1, 3, 0, 2] 0 = 1 := rfl
  have q1 : vat [1, 3, 0, 2] 1 = 3 := rfl
  have q2 : vat [1, 3, 0, 2] 2 = 0 := rfl
  have q3 : vat [1, 3, 0, 2] 3 = 2 := rfl
  rw [find_four (fE_ok h check1302 (by simp)) rfl]
  constructor
  · rintro ⟨i, j, k, l, h1, h2, h3, h4, h5, h6, h7⟩
    rw [fits_one, q0, q1] at h5
    rw [fits_two, q0, q1, q2] at h6
    rw [fits_three, q0, q1, q2, q3] at h7
    have i1 := vat_inj hn (i := i) (k := k) (by omega) (by omega)
    have i2 := vat_inj hn (i := j) (k := l) (by omega) (by omega)
    exact ⟨i, j, k, l, h1, h2, h3, h4, by omega, by omega, by omega⟩
  · rintro ⟨i, j, k, l, h1, h2, h3, h4, h5, h6, h7⟩
    refine ⟨i, j, k, l, h1, h2, h3, h4, ?_, ?_, ?_⟩
    · rw [fits_one, q0, q1]; omega
    · rw [fits_two, q0, q1, q2]; omega
    · rw [fits_three, q0, q1, q2, q3]; omega
theorem find2031 {p : List Int} (h : checkM p = 0) : (findM p [2, 0, 3, 1]).isSome = true ↔ Has2031 (vat p) p.length := by
  have hn := ((checkM_iff p).1 h).2.2
  have q0 : vat [2, 0, 3, 1] 0 = 2 := rfl
  have q1 : vat [2, 0, 3, 1] 1 = 0 := rfl
  have q2 : vat [2, 0, 3, 1] 2 = 3 := rfl
  have q3 : vat [2, 0, 3, 1] 3 = 1 := rfl
  rw [find_four (fE_ok h check2031 (by simp)) rfl]
  constructor
  · rintro ⟨i, j, k, l, h1, h2, h3, h4, h5, h6, h7⟩
    rw [fits_one, q0, q1] at h5
    rw [fits_two, q0, q1, q2] at h6
    rw [fits_three, q0, q1, q2, q3] at h7
    have i1 := vat_inj hn (i := i) (k := j) (by omega) (by omega)
    have i2 := vat_inj hn (i := i) (k := l) (by omega) (by omega)
    have i3 := vat_inj hn (i := k) (k := l) (by omega) (by omega)
    exact ⟨i, j, k, l, h1, h2, h3, h4, by omega, by omega, by omega⟩
  · rintro ⟨i, j, k, l, h1, h2, h3, h4, h5, h6, h7⟩
    refine ⟨i, j, k, l, h1, h2, h3, h4, ?_, ?_, ?_⟩
    · rw [fits_one, q0, q1]; omega
    · rw [fits_two, q0, q1, q2]; omega
    · rw [fits_three, q0, q1, q2, q3]; omega

/-! The stack. -/
theorem popM_inv : ∀ (s : List Int) (d : Int) (o : List UInt8), s.Pairwise (· < ·) → (∀ x ∈ s, d ≤ x) → ∀ s' d' o', popM s d o = (s', d', o') →
    s'.Pairwise (· < ·) ∧ (∀ x ∈ s', d' < x) ∧ d ≤ d' ∧ (∀ x ∈ s, x ∈ s' ∨ x < d') ∧ (∀ v, d ≤ v → v < d' → v ∈ s) ∧ (∀ x ∈ s', x ∈ s)
  | [], d, o, _, _, s', d', o', h => by
    simp only [popM, Prod.mk.injEq] at h
    obtain ⟨rfl, rfl, rfl⟩ := h
    exact ⟨by simp, by simp, by omega, by simp, fun v h1 h2 => by omega, by simp⟩
  | x :: s, d, o, hp, hd, s', d', o', h => by
    obtain ⟨hx, hp'⟩ := List.pairwise_cons.1 hp
    have hdx := hd x (by simp)
    rw [popM] at h
    split at h
    · rename_i e
      obtain ⟨r1, r2, r3, r4, r5, r6⟩ := popM_inv s (d + 1) _ hp' (fun y hy => by have := hx y hy; omega) s' d' o' h
      refine ⟨r1, r2, by omega, fun y hy => ?_, fun v h1 h2 => ?_, fun y hy => by simp [r6 y hy]⟩
      · rcases List.mem_cons.1 hy with rfl | hy
        · right; omega
        · exact r4 y hy
      · by_cases hv : v = d
        · simp [hv, e]
        · have := r5 v (by omega) h2
          simp [this]
    · rename_i e
      simp only [Prod.mk.injEq] at h
      obtain ⟨rfl, rfl, rfl⟩ := h
      refine ⟨hp, fun y hy => ?_, by omega, fun y hy => .inl hy, fun v h1 h2 => by omega, fun y hy => hy⟩
      rcases List.mem_cons.1 hy with rfl | hy
      · omega
      · have := hx y hy; omega

structure SortInv (p : List Int) (k : Nat) (st : List Int) (due : Int) : Prop where
  up : st.Pairwise (· < ·)
  big : ∀ x ∈ st, due < x
  nn : 0 ≤ due
  all : ∀ x ∈ p.take k, x ∈ st ∨ x < due
  out : ∀ v, 0 ≤ v → v < due → v ∈ p.take k
  sub : ∀ x ∈ st, x ∈ p.take k

theorem sort_fresh {p : List Int} (hp : p.Nodup) {k : Nat} {x : Int} (hx : p[k]? = some x) : x ∉ p.take k := by
  have h1 : (p.take (k + 1)).Nodup := hp.sublist (List.take_sublist _ _)
  rw [take_snoc' hx, List.nodup_append] at h1
  exact fun hm => h1.2.2 x hm x (by simp) rfl
theorem sortTo_inv {p : List Int} (hp : IsPerm p) : ∀ k, k ≤ p.length → ∀ st due o, sortTo p k = some (st, due, o) → SortInv p k st due
  | 0, _, st, due, o, h => by
    simp only [sortTo, Option.some.injEq, Prod.mk.injEq] at h
    obtain ⟨rfl, rfl, rfl⟩ := h
    exact ⟨by simp, by simp, by omega, by simp, fun v h1 h2 => by omega, by simp⟩
  | k + 1, hk, st, due, o, h => by
    rw [sortTo] at h
    rcases hr : sortTo p k with _ | ⟨st0, due0, o0⟩
    · rw [hr] at h; cases h
    · rw [hr] at h
      have I := sortTo_inv hp k (by omega) st0 due0 o0 hr
      obtain ⟨x, hx⟩ : ∃ x, p[k]? = some x := ⟨_, vat_get (by omega)⟩
      rw [hx] at h
      simp only [sortStep, Option.getD_some] at h
      split at h
      · cases h
      · rename_i htop
        have hxf := sort_fresh hp.2 hx
        have hx0 := hp.1 x (List.mem_of_getElem? hx)
        have hxd : due0 ≤ x := by
          apply Int.not_lt.1
          intro hlt
          exact hxf (I.out x hx0.1 hlt)
        have hup : (x :: st0).Pairwise (· < ·) := by
          refine List.pairwise_cons.2 ⟨fun y hy => ?_, I.up⟩
          cases st0 with
          | nil => simp at hy
          | cons t st1 =>
            simp only [topLess, decide_eq_true_eq] at htop
            have hne : x ≠ t := fun e => hxf (e ▸ I.sub t (by simp))
            rcases List.mem_cons.1 hy with rfl | hy
            · omega
            · have := (List.pairwise_cons.1 I.up).1 y hy; omega
        obtain ⟨r1, r2, r3, r4, r5, r6⟩ := popM_inv (x :: st0) due0 (o0 ++ [105]) hup (fun y hy => by
          rcases List.mem_cons.1 hy with rfl | hy
          · exact hxd
          · have := I.big y hy; omega) st due o (by simpa using h)
        have ht : p.take (k + 1) = p.take k ++ [x] := take_snoc' hx
        refine ⟨r1, r2, by have := I.nn; omega, fun y hy => ?_, fun v h0 h1 => ?_, fun y hy => ?_⟩
        · rw [ht, List.mem_append, List.mem_singleton] at hy
          rcases hy with hy | rfl
          · rcases I.all y hy with h' | h'
            · exact r4 y (by simp [h'])
            · right; omega
          · exact r4 y (by simp)
        · rw [ht, List.mem_append, List.mem_singleton]
          by_cases hv : v < due0
          · exact .inl (I.out v h0 hv)
          · rcases List.mem_cons.1 (r5 v (by omega) h1) with rfl | h'
            · exact .inr rfl
            · exact .inl (I.sub v h')
        · rw [ht, List.mem_append, List.mem_singleton]
          rcases List.mem_cons.1 (r6 y hy) with rfl | h'
          · exact .inr rfl
          · exact .inl (I.sub y h')

theorem mem_take_vat {p : List Int} {k : Nat} {x : Int} (h : x ∈ p.take k) : ∃ i, i < k ∧ i < p.length ∧ vat p i = x := by
  obtain ⟨i, hi⟩ := List.mem_iff_getElem?.1 h
  rw [List.getElem?_take] at hi
  split at hi
  · exact ⟨i, by assumption, (List.getElem?_eq_some_iff.1 hi).1, vat_of hi⟩
  · cases hi
theorem vat_mem_take {p : List Int} {i k : Nat} (hi : i < k) (hp : i < p.length) : vat p i ∈ p.take k := by
  refine List.mem_of_getElem? (i := i) ?_
  rw [List.getElem?_take, if_pos hi]; exact vat_get hp

theorem sort_fails {p : List Int} (hp : IsPerm p) : ∀ k, k ≤ p.length → sortTo p k = none → Has120 (vat p) p.length
  | 0, _, h => by simp [sortTo] at h
  | k + 1, hk, h => by
    rw [sortTo] at h
    rcases hr : sortTo p k with _ | ⟨st, due, o⟩
    · exact sort_fails hp k (by omega) hr
    · rw [hr] at h
      have I := sortTo_inv hp k (by omega) st due o hr
      have hx : p[k]? = some (vat p k) := vat_get (by omega)
      rw [hx] at h
      simp only [sortStep, Option.getD_some] at h
      split at h
      · rename_i htop
        cases st with
        | nil => simp [topLess] at htop
        | cons t st =>
          simp only [topLess, decide_eq_true_eq] at htop
          have hbt := I.big t (by simp)
          obtain ⟨i, hik, hil, hi⟩ := mem_take_vat (I.sub t (by simp))
          have hd0 := I.nn
          have htn := hp.1 t (hi ▸ vat_mem hil)
          obtain ⟨j, hjl, hj⟩ := mem_vat (hp.covers (x := due) hd0 (by omega))
          have hjk : k ≤ j := by
            apply Nat.le_of_not_lt
            intro hlt
            have := vat_mem_take (p := p) hlt hjl
            rw [hj] at this
            rcases I.all due this with h' | h'
            · have := I.big due h'; omega
            · omega
          have hne : j ≠ k := by rintro rfl; omega
          exact ⟨i, k, j, hik, by omega, hjl, by omega, by omega⟩
      · cases h
theorem sort_works {p : List Int} (hp : IsPerm p) (h : Has120 (vat p) p.length) : sortTo p p.length = none := by
  obtain ⟨i, k, j, hik, hkj, hj, h1, h2⟩ := h
  apply Classical.byContradiction
  intro hne
  have hs : ∀ m, m ≤ p.length → ∃ r, sortTo p m = some r := fun m hm => by
    rcases hr : sortTo p m with _ | r
    · exact absurd (sortTo_none hr hm) hne
    · exact ⟨r, rfl⟩
  obtain ⟨⟨st, due, o⟩, hk1⟩ := hs k (by omega)
  obtain ⟨r, hk2⟩ := hs (k + 1) (by omega)
  have I := sortTo_inv hp k (by omega) st due o hk1
  have hx : p[k]? = some (vat p k) := vat_get (by omega)
  rw [sortTo, hk1, hx] at hk2
  have hjn : vat p j ∉ p.take k := by
    intro hm
    obtain ⟨i', h3, h4, h5⟩ := mem_take_vat hm
    exact vat_inj hp.2 (show i' < j by omega) hj h5
  have hj0 := hp.1 _ (vat_mem hj)
  have hdj : due ≤ vat p j := by
    apply Int.not_lt.1
    intro hlt
    exact hjn (I.out _ hj0.1 hlt)
  have him : vat p i ∈ st := by
    rcases I.all _ (vat_mem_take hik (by omega)) with h' | h'
    · exact h'
    · omega
  simp only [sortStep, Option.getD_some] at hk2
  split at hk2
  · cases hk2
  · rename_i htop
    cases st with
    | nil => simp at him
    | cons t st =>
      simp only [topLess, decide_eq_true_eq] at htop
      rcases List.mem_cons.1 him with h' | h'
      · omega
      · have := (List.pairwise_cons.1 I.up).1 _ h'; omega
theorem sort_knuth {p : List Int} (h : checkM p = 0) : (sortOut (sortM p)).2 = !(findM p [1, 2, 0]).isSome := by
  have hp := ((checkM_iff p).1 h).2
  have e : (sortOut (sortM p)).2 = (sortTo p p.length).isSome := by
    unfold sortM
    cases sortTo p p.length <;> rfl
  rw [e, Bool.eq_iff_iff, Bool.not_eq_true', ← Bool.not_eq_true, find120 h]
  constructor
  · intro h1 h2
    rw [sort_works hp h2] at h1; cases h1
  · intro h1
    rcases hr : sortTo p p.length with _ | r
    · exact absurd (sort_fails hp _ (Nat.le_refl _) hr) h1
    · rfl

/-! Runs. -/
abbrev SS := List Int × Nat × Int
def sStep (p : List Int) (c : Nat) (r : SS) : Option SS :=
  if c = 105 then (if r.2.1 < p.length then some (vat p r.2.1 :: r.1, r.2.1 + 1, r.2.2) else none)
  else if c = 111 then (match r.1 with | [] => none | t :: s => if t = r.2.2 then some (s, r.2.1, r.2.2 + 1) else none)
  else none
def sRun (p : List Int) : List UInt8 → SS → Option SS
  | [], r => some r
  | c :: l, r => match sStep p c.toNat r with
    | none => none
    | some r => sRun p l r
def sEnd (p : List Int) : Option SS → Bool
  | none => false
  | some r => decide (r.2.2 = p.length)
def sortsM (p : List Int) (run : List UInt8) : Bool := decide (checkM p = 0) && decide (run.length = 2 * p.length) && sEnd p (sRun p run ([], 0, 0))
theorem sRun_append {p : List Int} : ∀ (l m : List UInt8) (r : SS), sRun p (l ++ m) r = (sRun p l r).bind (sRun p m)
  | [], m, r => rfl
  | c :: l, m, r => by
    rw [List.cons_append, sRun, sRun]
    cases sStep p c.toNat r with
    | none => rfl
    | some r => exact sRun_append l m r
theorem sRun_pop {p : List Int} : ∀ (s : List Int) (d : Int) (o : List UInt8) (k : Nat) (s' : List Int) (d' : Int) (o' : List UInt8), popM s d o = (s', d', o') →
    ∃ m : Nat, o' = o ++ List.replicate m 111 ∧ d' = d + m ∧ sRun p (List.replicate m 111) (s, k, d) = some (s', k, d')
  | [], d, o, k, s', d', o', h => by
    simp only [popM, Prod.mk.injEq] at h
    obtain ⟨rfl, rfl, rfl⟩ := h
    exact ⟨0, by simp, by simp, rfl⟩
  | x :: s, d, o, k, s', d', o', h => by
    rw [popM] at h
    split at h
    · rename_i e
      obtain ⟨m, rfl, rfl, hr⟩ := sRun_pop (p := p) s (d + 1) (o ++ [111]) k s' d' o' h
      refine ⟨m + 1, by simp [List.replicate_succ], by omega, ?_⟩
      rw [List.replicate_succ, sRun]
      have : sStep p (111 : UInt8).toNat (x :: s, k, d) = some (s, k, d + 1) := by simp [sStep, e]
      rw [this]
      exact hr
    · simp only [Prod.mk.injEq] at h
      obtain ⟨rfl, rfl, rfl⟩ := h
      exact ⟨0, by simp, by simp, rfl⟩
theorem sortTo_runs {p : List Int} : ∀ k, k ≤ p.length → ∀ st due o, sortTo p k = some (st, due, o) → sRun p o ([], 0, 0) = some (st, k, due) ∧ (o.length : Int) = k + due
  | 0, _, st, due, o, h => by
    simp only [sortTo, Option.some.injEq, Prod.mk.injEq] at h
    obtain ⟨rfl, rfl, rfl⟩ := h
    exact ⟨rfl, rfl⟩
  | k + 1, hk, st, due, o, h => by
    rw [sortTo] at h
    rcases hr : sortTo p k with _ | ⟨st0, due0, o0⟩
    · rw [hr] at h; cases h
    · rw [hr] at h
      obtain ⟨h1, h2⟩ := sortTo_runs k (by omega) st0 due0 o0 hr
      have hx : p[k]? = some (vat p k) := vat_get (by omega)
      rw [hx] at h
      simp only [sortStep, Option.getD_some] at h
      split at h
      · cases h
      · simp only [Option.some.injEq] at h
        obtain ⟨m, rfl, rfl, hm⟩ := sRun_pop (p := p) _ _ _ (k + 1) _ _ _ h
        refine ⟨?_, by simp; omega⟩
        rw [List.append_assoc, sRun_append, h1]
        show sRun p ([105] ++ List.replicate m 111) (st0, k, due0) = _
        rw [sRun_append]
        have : sRun p [105] (st0, k, due0) = some (vat p k :: st0, k + 1, due0) := by
          have e : sStep p (105 : UInt8).toNat (st0, k, due0) = some (vat p k :: st0, k + 1, due0) := by simp [sStep]; omega
          rw [sRun, e]; rfl
        rw [this]
        exact hm
theorem sort_sorts {p : List Int} (h : checkM p = 0) {o : List UInt8} (ho : sortM p = some o) : sortsM p o = true := by
  obtain ⟨⟨h0, _⟩, hp⟩ := (checkM_iff p).1 h
  unfold sortM at ho
  rcases hr : sortTo p p.length with _ | ⟨st, due, o1⟩
  · rw [hr] at ho; cases ho
  · rw [hr] at ho
    simp only [Option.map_some, Option.some.injEq] at ho
    subst ho
    have I := sortTo_inv hp _ (Nat.le_refl _) st due o1 hr
    obtain ⟨h1, h2⟩ := sortTo_runs _ (Nat.le_refl _) st due o1 hr
    have hst : ∀ x ∈ st, False := fun x hx => by
      have hb := I.big x hx
      have hx' : x ∈ p := by simpa using I.sub x hx
      have hxn := hp.1 x hx'
      have hd := hp.covers (x := due) I.nn (by omega)
      rcases I.all due (by simpa using hd) with h' | h'
      · have := I.big due h'; omega
      · omega
    have hd1 : (p.length : Int) ≤ due := by
      have hm := hp.covers (x := (p.length : Int) - 1) (by omega) (by omega)
      rcases I.all _ (by simpa using hm) with h' | h'
      · exact (hst _ h').elim
      · omega
    have hd2 : due ≤ p.length := by
      apply Int.not_lt.1
      intro hlt
      have := I.out p.length (by omega) hlt
      have := hp.1 (p.length : Int) (by simpa using this)
      omega
    have hd : due = p.length := by omega
    unfold sortsM
    rw [h1]
    simp [h, hd, sEnd]
    omega
end Go.Proofs.Ytgajaccnjjiiaaa
