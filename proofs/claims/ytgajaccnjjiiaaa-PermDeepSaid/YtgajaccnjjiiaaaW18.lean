/- Plain laws of permutations: what Check accepts; that tame makes one. -/
import Derived.Test.YtgajaccnjjiiaaaW17
namespace Go.Proofs.Ytgajaccnjjiiaaa
open Go.RowKit

/-- p is a permutation of 0, 1, .. -/
def IsPerm (p : List Int) : Prop := (∀ x ∈ p, 0 ≤ x ∧ x < p.length) ∧ p.Nodup

theorem nodup_cover {α : Type} [DecidableEq α] : ∀ {l m : List α}, l.Nodup → (∀ x ∈ l, x ∈ m) → l.length ≤ m.length ∧ (l.length = m.length → ∀ y ∈ m, y ∈ l) := by
  intro l
  induction l with
  | nil =>
    intro m _ _
    refine ⟨by simp, fun h y hy => ?_⟩
    have : m = [] := List.eq_nil_of_length_eq_zero h.symm
    subst this; exact hy
  | cons x l ih =>
    intro m hn hs
    obtain ⟨hx, hn⟩ := List.nodup_cons.1 hn
    have hxm := hs x (by simp)
    have hlen := List.length_erase_of_mem hxm
    have hpos : 0 < m.length := List.length_pos_of_mem hxm
    obtain ⟨h1, h2⟩ := ih (m := m.erase x) hn (fun y hy => (List.mem_erase_of_ne (by rintro rfl; exact hx hy)).2 (hs y (by simp [hy])))
    refine ⟨by simp; omega, fun h y hy => ?_⟩
    simp at h
    by_cases e : y = x
    · simp [e]
    · exact List.mem_cons_of_mem _ (h2 (by omega) y ((List.mem_erase_of_ne e).2 hy))

theorem iota_mem {n : Nat} {x : Int} : x ∈ iota n ↔ 0 ≤ x ∧ x < n := by
  simp only [iota, List.mem_map, List.mem_range]
  constructor
  · rintro ⟨k, hk, rfl⟩
    simp only [Int.ofNat_eq_natCast]; omega
  · rintro ⟨h1, h2⟩
    exact ⟨x.toNat, by omega, by simp only [Int.ofNat_eq_natCast]; omega⟩
theorem IsPerm.covers {p : List Int} (h : IsPerm p) {x : Int} (h0 : 0 ≤ x) (h1 : x < p.length) : x ∈ p := by
  refine (nodup_cover (m := iota p.length) h.2 (fun y hy => iota_mem.2 (h.1 y hy))).2 (by rw [iota_len]) x (iota_mem.2 ⟨h0, h1⟩)

theorem markAll_get : ∀ (p : List Int) (m : List Bool), (∀ x ∈ p, 0 ≤ x) → ∀ j : Nat, (markAll p m)[j]? = if j < m.length then some (decide ((j : Int) ∈ p) || m[j]?.getD false) else none := by
  intro p
  induction p with
  | nil =>
    intro m _ j
    simp only [markAll, List.foldl_nil]
    by_cases h : j < m.length
    · simp [h]
    · simp [h]
  | cons x p ih =>
    intro m hp j
    have hx := hp x (by simp)
    simp only [markAll, List.foldl_cons] at ih ⊢
    rw [ih (m.set x.toNat true) (fun y hy => hp y (by simp [hy])) j]
    simp only [List.length_set]
    by_cases h : j < m.length
    · simp only [h, if_true, List.mem_cons, List.getElem?_set]
      by_cases e : x.toNat = j
      · have : (j : Int) = x := by omega
        simp [e, this, h]
      · have : ¬ (j : Int) = x := by omega
        simp [e, this]
    · simp [h]

theorem fullL_get (n j : Nat) (_h : n ≤ 60) : (fullL n)[j]? = if j < 60 then some (decide (j < n)) else none := by
  by_cases hj : j < 60
  · simp [fullL, hj]
  · simp [fullL, hj]

theorem checkM_iff (p : List Int) : checkM p = 0 ↔ (0 < p.length ∧ p.length ≤ 60) ∧ IsPerm p := by
  constructor
  · intro h
    obtain ⟨h1, h2, h3, h4⟩ := check_zero h
    refine ⟨⟨h1, h2⟩, h3, ?_⟩
    have hcov : ∀ y ∈ iota p.length, y ∈ p := by
      intro y hy
      obtain ⟨hy0, hy1⟩ := iota_mem.1 hy
      have e := congrArg (·[y.toNat]?) h4
      simp only [markAll_get p zero60 (fun x hx => (h3 x hx).1), fullL_get _ _ h2] at e
      have hlt : y.toNat < 60 := by omega
      have hl : zero60.length = 60 := by simp [zero60]
      have hz : zero60[y.toNat]? = some false := by rw [zero60, List.getElem?_replicate, if_pos hlt]
      have hy2 : ((y.toNat : Nat) : Int) = y := by omega
      rw [hl, if_pos hlt, if_pos hlt, hz, hy2] at e
      have hd : y.toNat < p.length := by omega
      simpa [hd] using e
    rw [List.nodup_iff_count]
    intro a
    by_cases ha : a ∈ p
    · -- else the rest would cover a longer list
      refine Nat.le_of_not_lt fun hc => ?_
      have hlen : (p.erase a).length = p.length - 1 := List.length_erase_of_mem ha
      have hi : (iota p.length).Nodup := by
        unfold iota
        exact List.Pairwise.map _ (fun x y hxy h => hxy (Int.ofNat.inj h)) List.nodup_range
      have := (nodup_cover (l := iota p.length) (m := p.erase a) hi (fun y hy => by
        have hyp := hcov y hy
        by_cases e : y = a
        · subst e
          have : 0 < (p.erase y).count y := by rw [List.count_erase_self]; omega
          exact List.count_pos_iff.1 this
        · exact (List.mem_erase_of_ne e).2 hyp)).1
      rw [iota_len, hlen] at this
      omega
    · rw [List.count_eq_zero_of_not_mem ha]; omega
  · rintro ⟨⟨h1, h2⟩, hp⟩
    have hr : inRange p = true := by
      unfold inRange
      rw [List.all_eq_true]
      intro x hx
      have := hp.1 x hx
      simp; omega
    unfold checkM
    rw [if_neg (by omega), if_neg (by simp [hr]), if_pos]
    apply List.ext_getElem?
    intro j
    rw [markAll_get p zero60 (fun x hx => (hp.1 x hx).1), fullL_get _ _ h2]
    have hl : zero60.length = 60 := by simp [zero60]
    rw [hl]
    by_cases hj : j < 60
    · have hz : zero60[j]? = some false := by rw [zero60, List.getElem?_replicate, if_pos hj]
      rw [if_pos hj, if_pos hj, hz]
      congr 1
      by_cases hjn : j < p.length
      · have := hp.covers (x := j) (by omega) (by omega)
        simp [this, hjn]
      · have : ¬ (j : Int) ∈ p := fun h => by have := hp.1 _ h; omega
        simp [this, hjn]
    · rw [if_neg hj, if_neg hj]

/-! tame makes a permutation. -/
theorem nodup_of_inj {q : List Int} (h : ∀ (i j : Nat) (x : Int), q[i]? = some x → q[j]? = some x → i = j) : q.Nodup := by
  rw [List.Nodup, List.pairwise_iff_getElem]
  intro i j hi hj hij e
  have := h i j q[i] (List.getElem?_eq_getElem hi) (by rw [e]; exact List.getElem?_eq_getElem hj)
  omega
theorem inj_of_nodup {q : List Int} (h : q.Nodup) {i j : Nat} {x : Int} (hi : q[i]? = some x) (hj : q[j]? = some x) : i = j := by
  obtain ⟨h1, e1⟩ := List.getElem?_eq_some_iff.1 hi
  obtain ⟨h2, e2⟩ := List.getElem?_eq_some_iff.1 hj
  have hp := List.pairwise_iff_getElem.1 h
  rcases Nat.lt_trichotomy i j with h3 | h3 | h3
  · exact absurd (e1.trans e2.symm) (hp i j h1 h2 h3)
  · exact h3
  · exact absurd (e2.trans e1.symm) (hp j i h2 h1 h3)
theorem swap_perm {q : List Int} {i k : Nat} {a b : Int} (hq : IsPerm q) (hi : q[i]? = some a) (hk : q[k]? = some b) : IsPerm ((q.set i b).set k a) := by
  have hlen : ((q.set i b).set k a).length = q.length := by simp
  have h1 := (List.getElem?_eq_some_iff.1 hi).1
  have h2 := (List.getElem?_eq_some_iff.1 hk).1
  have key : ∀ j, ((q.set i b).set k a)[j]? = q[if j = k then i else if j = i then k else j]? := by
    intro j
    by_cases e1 : j = k
    · subst e1
      rw [List.getElem?_set_self (by simpa using h2), if_pos rfl, hi]
    · rw [List.getElem?_set_ne (by omega), if_neg e1]
      by_cases e2 : j = i
      · subst e2
        rw [List.getElem?_set_self h1, if_pos rfl, hk]
      · rw [List.getElem?_set_ne (by omega), if_neg e2]
  refine ⟨fun x hx => ?_, nodup_of_inj fun m n x hm hn => ?_⟩
  · obtain ⟨j, hj⟩ := List.mem_iff_getElem?.1 hx
    rw [key] at hj
    rw [hlen]
    exact hq.1 x (List.mem_of_getElem? hj)
  · rw [key] at hm hn
    have := inj_of_nodup hq.2 hm hn
    split at this <;> split at this <;> (try split at this) <;> (try split at this) <;> omega
theorem iota_perm (n : Nat) : IsPerm (iota n) := by
  refine ⟨fun x hx => by rw [iota_len]; exact iota_mem.1 hx, ?_⟩
  exact List.Pairwise.map _ (fun x y hxy h => hxy (Int.ofNat.inj h)) List.nodup_range
theorem tameTo_perm {n : Nat} (l : List Int) (h0 : 0 < n) : ∀ i, i ≤ n → IsPerm (tameTo n l i)
  | 0, _ => iota_perm n
  | i + 1, hi => by
    have ih := tameTo_perm l h0 i (by omega)
    have hl := tameTo_len n l i
    have hk := kidx_lt (l[i]?.getD 0) h0
    rw [tameTo, tameStep]
    obtain ⟨a, ha⟩ := get_of_lt (zs := tameTo n l i) (k := i) (by omega)
    obtain ⟨b, hb⟩ := get_of_lt (zs := tameTo n l i) (k := kidx (l[i]?.getD 0) n) (by omega)
    have := swap_perm ih ha hb
    rw [ha, hb]
    exact this
theorem tameM_len (l : List Int) (most : Nat) : (tameM l most).length = tameN l most := tameTo_len _ _ _
theorem tameM_perm (l : List Int) (most : Nat) : IsPerm (tameM l most) := tameTo_perm l (by unfold tameN; omega) _ (by omega)
theorem tameM_check (l : List Int) (most : Nat) (h0 : 0 < most) (h : most ≤ 60) : checkM (tameM l most) = 0 :=
  (checkM_iff _).2 ⟨by rw [tameM_len]; unfold tameN; omega, tameM_perm l most⟩
end Go.Proofs.Ytgajaccnjjiiaaa
