/- Plain laws: turns of a word, and its least period. -/
import Derived.Test.YtjdmmgaddbleeaaMK
import Derived.Test.YtjdmmgaddbleeaaMH
namespace Go.Proofs.Ytjdmmgaddbleeaa
open Go.RowKit

/-- turned by r, the word stays as it is -/
def perI (c : List UInt8) (r : Nat) : Prop := ∀ i, c[i % c.length]? = c[(i + r) % c.length]?
theorem perI_zero (c : List UInt8) : perI c 0 := fun _ => rfl
theorem perI_add {c : List UInt8} {r s : Nat} (h1 : perI c r) (h2 : perI c s) : perI c (r + s) := by
  intro i
  rw [h1 i, h2 (i + r), Nat.add_assoc]
theorem perI_mul {c : List UInt8} {r : Nat} (h : perI c r) : ∀ k, perI c (k * r)
  | 0 => by rw [Nat.zero_mul]; exact perI_zero c
  | k + 1 => by rw [Nat.succ_mul]; exact perI_add (perI_mul h k) h
theorem perI_sub {c : List UInt8} {r s : Nat} (h1 : perI c (r + s)) (h2 : perI c s) : perI c r := by
  intro i
  rw [h1 i, h2 (i + r), Nat.add_assoc]
theorem perI_len (c : List UInt8) : perI c c.length := by
  intro i
  rw [Nat.add_mod_right]
theorem perI_mod {c : List UInt8} {r d : Nat} (h1 : perI c r) (h2 : perI c d) : perI c (r % d) := by
  refine perI_sub (s := (r / d) * d) ?_ (perI_mul h2 _)
  rw [Nat.mul_comm, Nat.mod_add_div]
  exact h1
theorem repeatL_get (l : List UInt8) : ∀ n i, i < n * l.length → (Lib.repeatL l n)[i]? = l[i % l.length]?
  | 0, i, h => by omega
  | n + 1, i, h => by
    rw [show Lib.repeatL l (n + 1) = l ++ Lib.repeatL l n from rfl]
    by_cases hi : i < l.length
    · rw [List.getElem?_append_left hi, Nat.mod_eq_of_lt hi]
    · rw [List.getElem?_append_right (by omega), repeatL_get l n _ (by rw [Nat.succ_mul] at h; omega)]
      congr 1
      rw [← Nat.mod_eq_sub_mod (by omega)]
theorem isPer_iff {c : List UInt8} {d : Nat} (hd : 0 < d) (hdc : d ≤ c.length) : isPer c d = true ↔ c.length % d = 0 ∧ perI c d := by
  have htl : (c.take d).length = d := by rw [List.length_take]; omega
  unfold isPer
  rw [Bool.and_eq_true, decide_eq_true_iff, decide_eq_true_iff]
  constructor
  · rintro ⟨h1, h2⟩
    refine ⟨h1, ?_⟩
    have hdv : d ∣ c.length := Nat.dvd_of_mod_eq_zero h1
    have key : ∀ j, c[j % c.length]? = c[j % d]? := by
      intro j
      have hj : j % c.length < c.length := Nat.mod_lt _ (by omega)
      have h3 := repeatL_get (c.take d) (c.length / d) (j % c.length) (by rw [htl, Nat.div_mul_cancel hdv]; exact hj)
      rw [h2, htl, List.getElem?_take_of_lt (Nat.mod_lt _ hd), Nat.mod_mod_of_dvd _ hdv] at h3
      exact h3
    intro i
    rw [key i, key (i + d), Nat.add_mod_right]
  · rintro ⟨h1, h2⟩
    refine ⟨h1, ?_⟩
    have hdv : d ∣ c.length := Nat.dvd_of_mod_eq_zero h1
    have hl : (Lib.repeatL (c.take d) (c.length / d)).length = c.length := by rw [repeatL_len, htl, Nat.div_mul_cancel hdv]
    apply List.ext_getElem?
    intro i
    by_cases hi : i < c.length
    · rw [repeatL_get _ _ _ (by rw [htl, Nat.div_mul_cancel hdv]; exact hi), htl, List.getElem?_take_of_lt (Nat.mod_lt _ hd)]
      have h3 := perI_mul h2 (i / d) (i % d)
      have h4 : i % d < c.length := by have := Nat.mod_lt i hd; omega
      rw [Nat.mod_eq_of_lt h4, Nat.mul_comm, Nat.mod_add_div, Nat.mod_eq_of_lt hi] at h3
      exact h3
    · rw [List.getElem?_eq_none (by omega), List.getElem?_eq_none (by omega)]
/-- the least period divides every turn that changes nothing -/
theorem perD_dvd {c : List UInt8} (h0 : 0 < c.length) {r : Nat} (hr : perI c r) : perD c (c.length - 1) 1 ∣ r := by
  obtain ⟨h1, h2, h3, h4⟩ := perD_le (m := c) (c.length - 1) 1 (by omega) (by omega)
  generalize perD c (c.length - 1) 1 = d at *
  have hd := (isPer_iff (by omega) h2).1 h3
  have hmin : ∀ g, 0 < g → perI c g → d ≤ g := by
    intro g
    induction g using Nat.strongRecOn with
    | ind g ih =>
      intro hg hp
      apply Classical.byContradiction
      intro hlt
      have h5 : perI c (c.length % g) := perI_mod (perI_len c) hp
      by_cases hz : c.length % g = 0
      · have := h4 g (by omega) (by omega)
        rw [(isPer_iff hg (by omega)).2 ⟨hz, hp⟩] at this
        cases this
      · have h6 := Nat.mod_lt c.length hg
        have := ih (c.length % g) h6 (by omega) h5
        omega
  apply Nat.dvd_of_mod_eq_zero
  apply Classical.byContradiction
  intro hz
  have h7 := Nat.mod_lt r (show 0 < d by omega)
  have := hmin (r % d) (by omega) (perI_mod hr hd.2)
  omega
end Go.Proofs.Ytjdmmgaddbleeaa

/- Plain laws: what leaves a cyclically reduced word as short as it is runs along its powers. -/
namespace Go.Proofs.Ytjdmmgaddbleeaa
open Go.RowKit

def rot1 : List UInt8 → List UInt8
  | [] => []
  | a :: l => l ++ [a]
def rotN (c : List UInt8) : Nat → List UInt8
  | 0 => c
  | k + 1 => rotN (rot1 c) k
theorem rot1_len (c : List UInt8) : (rot1 c).length = c.length := by cases c <;> simp [rot1]
theorem rot1_get (c : List UInt8) (i : Nat) : (rot1 c)[i % c.length]? = c[(i + 1) % c.length]? := by
  cases c with
  | nil => simp [rot1]
  | cons a l =>
    have h := Nat.mod_lt i (show 0 < (a :: l).length by simp)
    rw [Nat.add_mod]
    generalize hj : i % (a :: l).length = j at *
    rw [rot1]
    by_cases hl : l = []
    · subst hl
      simp at h
      subst h
      simp
    · have hl1 : 0 < l.length := List.length_pos_iff.2 hl
      have e1 : 1 % (a :: l).length = 1 := Nat.mod_eq_of_lt (by simp; exact hl1)
      rw [e1]
      by_cases hj2 : j < l.length
      · rw [List.getElem?_append_left hj2, Nat.mod_eq_of_lt (by simp; omega), List.getElem?_cons_succ]
      · have e2 : j = l.length := by simp at h; omega
        subst e2
        rw [List.getElem?_append_right (Nat.le_refl _)]
        simp
theorem rotN_len : ∀ (k : Nat) (c : List UInt8), (rotN c k).length = c.length
  | 0, _ => rfl
  | k + 1, c => by rw [rotN, rotN_len k, rot1_len]
theorem rotN_get : ∀ (k : Nat) (c : List UInt8) (i : Nat), (rotN c k)[i % c.length]? = c[(i + k) % c.length]?
  | 0, _, _ => rfl
  | k + 1, c, i => by
    have h := rotN_get k (rot1 c) i
    rw [rot1_len] at h
    rw [rotN, h, rot1_get c (i + k), Nat.add_assoc]
theorem rotN_per {c : List UInt8} {k : Nat} (h : rotN c k = c) : perI c k := by
  intro i
  have := rotN_get k c i
  rwa [h] at this
/-- the letters of a run along a word's powers -/
def runs (z c : List UInt8) : Prop := ∀ i, i < z.length → z[i]? = c[i % c.length]?
theorem runs_cons {a : UInt8} {l z : List UInt8} (h : runs z (rot1 (a :: l))) : runs (a :: z) (a :: l) := by
  intro i hi
  cases i with
  | zero => simp
  | succ i =>
    rw [List.getElem?_cons_succ, h i (by simpa using hi), rot1_len, rot1_get]
theorem Eqv.step (a : UInt8) (l z : List UInt8) : Eqv (invL (a :: z) ++ (a :: l) ++ (a :: z)) (invL z ++ rot1 (a :: l) ++ z) := by
  rw [invL_cons, rot1]
  have h1 : Eqv ([invB a] ++ [a]) [] := by
    have := redW_pair (invB a)
    rw [inv_inv] at this
    exact this
  have h2 : Eqv (invL z ++ ([invB a] ++ [a]) ++ (l ++ a :: z)) (invL z ++ [] ++ (l ++ a :: z)) := Eqv.right _ (Eqv.left _ h1)
  have e1 : invL z ++ [invB a] ++ (a :: l) ++ (a :: z) = invL z ++ ([invB a] ++ [a]) ++ (l ++ a :: z) := by simp
  have e2 : invL z ++ (l ++ [a]) ++ z = invL z ++ [] ++ (l ++ a :: z) := by simp
  rw [e1, e2]
  exact h2
theorem rot1_rd {a : UInt8} {l : List UInt8} (h : Rd ((a :: l) ++ (a :: l))) : Rd (rot1 (a :: l) ++ rot1 (a :: l)) := by
  have h3 : Rd ((a :: l) ++ (a :: l) ++ (a :: l)) := Rd.app_mid (by simp) h h
  have e : (a :: l) ++ (a :: l) ++ (a :: l) = [a] ++ ((rot1 (a :: l) ++ rot1 (a :: l)) ++ l) := by simp [rot1]
  rw [e] at h3
  exact h3.app_right.app_left
/-- a run begins with the word's head -/
theorem runs_head {b : UInt8} {z c : List UInt8} (h : runs (b :: z) c) : c.head? = some b := by
  have := h 0 (by simp)
  simp at this
  rw [List.head?_eq_getElem?]
  exact this.symm
theorem inv_conj (z c : List UInt8) : redW (invL z ++ invL c ++ z) = invL (redW (invL z ++ c ++ z)) := by
  rw [← redW_inv]
  congr 1
  rw [invL_app, invL_app, invL_inv, List.append_assoc]

def conjP (z c : List UInt8) : Prop := Rd (c ++ c) → c ≠ [] → Rd z → (redW (invL z ++ c ++ z)).length = c.length →
    (runs z c ∧ redW (invL z ++ c ++ z) = rotN c z.length) ∨ (runs z (invL c) ∧ redW (invL z ++ c ++ z) = invL (rotN (invL c) z.length))
theorem conj_half {a : UInt8} {l z : List UInt8} (ih : conjP z (rot1 (a :: l))) (hc : Rd ((a :: l) ++ (a :: l))) (hz : Rd (a :: z)) (hl : (redW (invL (a :: z) ++ (a :: l) ++ (a :: z))).length = (a :: l).length) :
    runs (a :: z) (a :: l) ∧ redW (invL (a :: z) ++ (a :: l) ++ (a :: z)) = rotN (a :: l) (a :: z).length := by
  have hst : redW (invL (a :: z) ++ (a :: l) ++ (a :: z)) = redW (invL z ++ rot1 (a :: l) ++ z) := Eqv.step a l z
  rw [hst] at hl ⊢
  rcases ih (rot1_rd hc) (by simp [rot1]) hz.tail (by rw [hl, rot1_len]) with ⟨h1, h2⟩ | ⟨h1, h2⟩
  · exact ⟨runs_cons h1, h2⟩
  · cases z with
    | nil =>
      refine ⟨runs_cons (fun i hi => by simp at hi), ?_⟩
      rw [h2]
      exact invL_inv _
    | cons b z =>
      exfalso
      have h3 := runs_head h1
      rw [rot1, invL_app, show invL [a] = [invB a] from rfl] at h3
      simp at h3
      have h4 := Rd.ne hz
      rw [← h3, inv_inv] at h4
      exact h4 rfl
theorem conj_all : ∀ (n : Nat) (z c : List UInt8), z.length = n → conjP z c
  | 0, z, c, hn => by
    obtain rfl := List.eq_nil_of_length_eq_zero hn
    intro hc _ _ _
    refine .inl ⟨fun i hi => by simp at hi, ?_⟩
    have e : invL [] ++ c ++ [] = c := by simp [invL]
    rw [e, redW_self hc.app_left]
    rfl
  | n + 1, z, c, hn => by
    intro hc h0 hz hl
    cases z with
    | nil => simp at hn
    | cons a z =>
      have hzn : z.length = n := by simpa using hn
      cases c with
      | nil => exact absurd rfl h0
      | cons b l =>
        by_cases hab : a = b
        · subst hab
          exact .inl (conj_half (conj_all n z _ hzn) hc hz hl)
        · have hkk : Rd (invL (b :: l) ++ invL (b :: l)) := by rw [← invL_app]; exact hc.rev
          have hkl : (redW (invL (a :: z) ++ invL (b :: l) ++ (a :: z))).length = (invL (b :: l)).length := by rw [inv_conj, invL_len, invL_len, hl]
          have hback : redW (invL (a :: z) ++ (b :: l) ++ (a :: z)) = invL (redW (invL (a :: z) ++ invL (b :: l) ++ (a :: z))) := by rw [inv_conj, invL_inv]
          obtain ⟨e, k, hk⟩ : ∃ e k, invL (b :: l) = e :: k := by
            cases h : invL (b :: l) with
            | nil => have := congrArg List.length h; rw [invL_len] at this; simp at this
            | cons e k => exact ⟨e, k, rfl⟩
          by_cases hae : a = e
          · subst hae
            rw [hk] at hkk hkl
            have h5 := conj_half (conj_all n z _ hzn) hkk hz hkl
            right
            rw [hback, hk]
            exact ⟨h5.1, by rw [h5.2]⟩
          · exfalso
            have hzr := hz.rev
            rw [invL_cons] at hzr
            have h6 : Rd (invL (a :: z) ++ (b :: l)) := by
              rw [invL_cons, List.append_assoc]
              refine Rd.join hzr hc.app_left ?_
              intro h
              exact hab (inv_inj h)
            have hcl : b :: l = invL k ++ [invB e] := by
              have := congrArg invL hk
              rw [invL_inv, invL_cons] at this
              exact this
            have h7 : Rd ((b :: l) ++ (a :: z)) := by
              have h8 := hc.app_left
              rw [hcl] at h8 ⊢
              rw [List.append_assoc]
              refine Rd.join h8 hz ?_
              intro h
              exact hae (inv_inj h).symm
            have h9 := Rd.app_mid (by simp) h7 h6
            rw [redW_self h9] at hl
            simp [invL_len] at hl
            omega
/-- what turns a cyclically reduced word into itself -/
theorem conj_self {z c : List UInt8} (hc : Rd (c ++ c)) (h0 : c ≠ []) (hz : Rd z) (h : Eqv (invL z ++ c ++ z) c) :
    (runs z c ∧ perI c z.length) ∨ (runs z (invL c) ∧ perI (invL c) z.length) := by
  have e : redW (invL z ++ c ++ z) = c := by rw [show redW (invL z ++ c ++ z) = redW c from h, redW_self hc.app_left]
  rcases conj_all _ z c rfl hc h0 hz (by rw [e]) with ⟨h1, h2⟩ | ⟨h1, h2⟩
  · exact .inl ⟨h1, rotN_per (by rw [← h2, e])⟩
  · refine .inr ⟨h1, rotN_per ?_⟩
    rw [e] at h2
    have := congrArg invL h2
    rw [invL_inv] at this
    exact this.symm
end Go.Proofs.Ytjdmmgaddbleeaa

/- Plain laws: commuting words are powers of one root. -/
namespace Go.Proofs.Ytjdmmgaddbleeaa
open Go.RowKit

theorem cyc_of {c : List UInt8} (h : Rd c) {x y : UInt8} (hx : c.getLast? = some x) (hy : c.head? = some y) (hxy : x ≠ invB y) : Rd (c ++ c) := by
  rcases List.eq_nil_or_concat c with rfl | ⟨k, z, hk⟩
  · simp at hx
  rw [List.concat_eq_append] at hk
  cases c with
  | nil => simp at hx
  | cons w m =>
    simp at hy
    subst hy
    have hz : z = x := by rw [hk] at hx; simpa using hx
    subst hz
    have h2 := h
    rw [hk] at h2
    have h3 := Rd.join h2 h hxy
    rw [show (w :: m) ++ (w :: m) = k ++ [z] ++ (w :: m) by rw [← hk]]
    simpa using h3
theorem mid_get (l : List UInt8) {i : Nat} (h : i < (midL l).length) : (midL l)[i]? = l[coreN l + i]? := by
  rw [mid_len] at h
  unfold midL
  rw [List.getElem?_take_of_lt h, List.getElem?_drop]
theorem mid_rd {l : List UInt8} (h : Rd l) : Rd (midL l) := by
  have := h
  rw [split_core l, List.append_assoc] at this
  exact this.app_right.app_left
theorem mid_cyc {l : List UInt8} (h : Rd l) (h0 : l ≠ []) : Rd (midL l ++ midL l) := by
  obtain ⟨h1, h2, h3⟩ := coreN_ok l
  have hlt := coreN_lt h h0
  have hm := mid_len l
  have hp : 0 < (midL l).length := by omega
  have e0 := mid_get l (i := 0) hp
  have e1 := mid_get l (i := (midL l).length - 1) (by omega)
  have hr := mid_rd h
  rw [show coreN l + ((midL l).length - 1) = l.length - 1 - coreN l by omega] at e1
  rw [Nat.add_zero] at e0
  obtain ⟨y, hy⟩ : ∃ y, l[coreN l]? = some y := ⟨_, List.getElem?_eq_getElem (by omega)⟩
  obtain ⟨x, hx⟩ : ∃ x, l[l.length - 1 - coreN l]? = some x := ⟨_, List.getElem?_eq_getElem (by omega)⟩
  refine cyc_of hr (x := x) (y := y) (by rw [List.getLast?_eq_getElem?, e1, hx]) (by rw [List.head?_eq_getElem?, e0, hy]) ?_
  intro e
  by_cases hone : 2 * coreN l + 1 < l.length
  · apply h3
    refine ⟨hone, ?_⟩
    rw [hy, hx, e]
    simp [inv_inv]
  · have : l.length - 1 - coreN l = coreN l := by omega
    rw [this, hy] at hx
    cases hx
    exact inv_ne y e.symm
theorem repeatL_inv (P : List UInt8) : ∀ k, invL (Lib.repeatL P k) = Lib.repeatL (invL P) k
  | 0 => rfl
  | k + 1 => by
    rw [show Lib.repeatL P (k + 1) = P ++ Lib.repeatL P k from rfl, invL_app, repeatL_inv P k, repeatL_succ']
theorem repeatL_take_one {P : List UInt8} {n : Nat} (hn : 0 < n) : (Lib.repeatL P n).take P.length = P := by
  obtain ⟨m, rfl⟩ : ∃ m, n = m + 1 := ⟨n - 1, by omega⟩
  rw [show Lib.repeatL P (m + 1) = P ++ Lib.repeatL P m from rfl]
  simp
/-- the three marks of the core -/
theorem core_uniq {l : List UInt8} {b : Nat} (h2 : ∀ i, i < b → l[i]? = (l[l.length - 1 - i]?).map invB) (h3 : ¬ (2 * b + 1 < l.length ∧ l[b]? = (l[l.length - 1 - b]?).map invB)) (hlt : 2 * b < l.length) : coreN l = b := by
  obtain ⟨g1, g2, g3⟩ := coreN_ok l
  rcases Nat.lt_trichotomy (coreN l) b with h | h | h
  · exfalso
    exact g3 ⟨by omega, h2 _ h⟩
  · exact h
  · exfalso
    exact h3 ⟨by omega, g2 _ h⟩
/-- a word of the form B C B^-1, C cyclically reduced, has these parts -/
theorem parts_of {B C : List UInt8} (h0 : C ≠ []) (hc : Rd (C ++ C)) : byL (B ++ C ++ invL B) = B ∧ midL (B ++ C ++ invL B) = C := by
  have hl : (B ++ C ++ invL B).length = 2 * B.length + C.length := by simp [invL_len]; omega
  have hp : 0 < C.length := List.length_pos_iff.2 h0
  have hcore : coreN (B ++ C ++ invL B) = B.length := by
    refine core_uniq ?_ ?_ (by omega)
    · intro i hi
      rw [hl, List.append_assoc, List.getElem?_append_left hi, ← List.append_assoc, List.getElem?_append_right (by simp; omega)]
      have e1 : 2 * B.length + C.length - 1 - i - (B ++ C).length = B.length - 1 - i := by simp; omega
      rw [e1]
      unfold invL
      rw [List.getElem?_reverse (by simp; omega), List.length_map, show B.length - 1 - (B.length - 1 - i) = i by omega, List.getElem?_map, List.getElem?_eq_getElem hi]
      simp [inv_inv]
    · rintro ⟨h5, h6⟩
      rw [hl, List.append_assoc, List.getElem?_append_right (Nat.le_refl _), Nat.sub_self, List.getElem?_append_left hp, List.getElem?_append_right (by omega), List.getElem?_append_left (by omega)] at h6
      rw [show 2 * B.length + C.length - 1 - B.length - B.length = C.length - 1 by omega] at h6
      have h7 := hc.at_ (k := C.length - 1) (a := C[C.length - 1]'(by omega)) (b := C[0]'hp) (by rw [List.getElem?_append_left (by omega)]; exact List.getElem?_eq_getElem _) (by rw [show C.length - 1 + 1 = C.length by omega, List.getElem?_append_right (Nat.le_refl _), Nat.sub_self]; exact List.getElem?_eq_getElem _)
      rw [List.getElem?_eq_getElem hp, List.getElem?_eq_getElem (show C.length - 1 < C.length by omega)] at h6
      simp at h6
      rw [h6, inv_inv] at h7
      exact h7 rfl
  unfold byL midL
  rw [hcore, hl]
  constructor
  · rw [List.append_assoc]; simp
  · rw [List.append_assoc, List.drop_left, show 2 * B.length + C.length - 2 * B.length = C.length by omega, List.take_left]
theorem per_inv_to {c : List UInt8} {d : Nat} (hd : 0 < d) (hdc : d ≤ c.length) (h : isPer c d = true) : isPer (invL c) d = true := by
  unfold isPer at *
  rw [Bool.and_eq_true, decide_eq_true_iff, decide_eq_true_iff] at *
  obtain ⟨h1, h2⟩ := h
  rw [invL_len]
  refine ⟨h1, ?_⟩
  have hq : (c.take d).length = d := by rw [List.length_take]; omega
  have e : invL c = Lib.repeatL (invL (c.take d)) (c.length / d) := by rw [← repeatL_inv, h2]
  have e2 : (invL c).take d = invL (c.take d) := by
    rw [e]
    have := repeatL_take_one (P := invL (c.take d)) (n := c.length / d) (Nat.div_pos hdc hd)
    rwa [invL_len, hq] at this
  rw [e2, ← e]
theorem per_inv {c : List UInt8} {d : Nat} (hd : 0 < d) (hdc : d ≤ c.length) : isPer (invL c) d = isPer c d := by
  rw [Bool.eq_iff_iff]
  constructor
  · intro h
    have := per_inv_to (c := invL c) hd (by rw [invL_len]; exact hdc) h
    rwa [invL_inv] at this
  · exact per_inv_to hd hdc
theorem perD_inv {c : List UInt8} (h0 : 0 < c.length) : perD (invL c) (c.length - 1) 1 = perD c (c.length - 1) 1 := by
  obtain ⟨a1, a2, a3, a4⟩ := perD_le (m := c) (c.length - 1) 1 (by omega) (by omega)
  obtain ⟨b1, b2, b3, b4⟩ := perD_le (m := invL c) (c.length - 1) 1 (by rw [invL_len]; omega) (by omega)
  rw [invL_len] at b2
  generalize perD c (c.length - 1) 1 = p at *
  generalize perD (invL c) (c.length - 1) 1 = q at *
  rcases Nat.lt_trichotomy q p with h | h | h
  · have := a4 q b1 h
    rw [per_inv (by omega) b2, this] at b3
    cases b3
  · exact h
  · have := b4 p a1 h
    rw [per_inv (by omega) a2, a3] at this
    cases this
theorem runs_rep {z c : List UInt8} {d : Nat} (hd : 0 < d) (hdc : d ≤ c.length) (hp : isPer c d = true) (hr : runs z c) (hk : d ∣ z.length) : z = Lib.repeatL (c.take d) (z.length / d) := by
  have hq : (c.take d).length = d := by rw [List.length_take]; omega
  unfold isPer at hp
  rw [Bool.and_eq_true, decide_eq_true_iff, decide_eq_true_iff] at hp
  have hdv : d ∣ c.length := Nat.dvd_of_mod_eq_zero hp.1
  apply List.ext_getElem?
  intro i
  by_cases hi : i < z.length
  · rw [hr i hi, repeatL_get _ _ _ (by rw [hq, Nat.div_mul_cancel hk]; exact hi), hq]
    have h3 := repeatL_get (c.take d) (c.length / d) (i % c.length) (by rw [hq, Nat.div_mul_cancel hdv]; exact Nat.mod_lt _ (by omega))
    rw [hp.2, hq, Nat.mod_mod_of_dvd _ hdv] at h3
    exact h3
  · rw [List.getElem?_eq_none (by omega), List.getElem?_eq_none (by rw [repeatL_len, hq, Nat.div_mul_cancel hk]; omega)]
end Go.Proofs.Ytjdmmgaddbleeaa

/- Plain laws: commuting words are powers of one root: the end. -/
namespace Go.Proofs.Ytjdmmgaddbleeaa
open Go.RowKit

theorem Eqv.drop_mid {m : List UInt8} (h : Eqv m []) (x y : List UInt8) : Eqv (x ++ m ++ y) (x ++ y) := by
  have := Eqv.right y (Eqv.left x h)
  simpa using this
/-- what a commuting word is, turned back -/
theorem comm_conj {B c v : List UInt8} (h : Eqv (B ++ c ++ invL B ++ v) (v ++ (B ++ c ++ invL B))) : Eqv (invL (redW (invL B ++ v ++ B)) ++ c ++ redW (invL B ++ v ++ B)) c := by
  have hz : Eqv (redW (invL B ++ v ++ B)) (invL B ++ v ++ B) := Eqv.red _
  have h1 : Eqv (invL (redW (invL B ++ v ++ B)) ++ c ++ redW (invL B ++ v ++ B)) (invL (invL B ++ v ++ B) ++ c ++ (invL B ++ v ++ B)) := (Eqv.right c hz.inv).app hz
  refine h1.trans ?_
  have e1 : invL (invL B ++ v ++ B) ++ c ++ (invL B ++ v ++ B) = (invL B ++ invL v) ++ (B ++ c ++ invL B ++ v) ++ B := by
    rw [invL_app, invL_app, invL_inv]; simp
  rw [e1]
  have h2 : Eqv ((invL B ++ invL v) ++ (B ++ c ++ invL B ++ v) ++ B) ((invL B ++ invL v) ++ (v ++ (B ++ c ++ invL B)) ++ B) := Eqv.right B (Eqv.left _ h)
  refine h2.trans ?_
  have e2 : (invL B ++ invL v) ++ (v ++ (B ++ c ++ invL B)) ++ B = invL B ++ (invL v ++ v) ++ (B ++ c ++ invL B ++ B) := by simp
  rw [e2]
  refine (Eqv.drop_mid (Eqv.inv_left v) _ _).trans ?_
  have e3 : invL B ++ (B ++ c ++ invL B ++ B) = [] ++ (invL B ++ B) ++ (c ++ (invL B ++ B)) := by simp
  rw [e3]
  refine (Eqv.drop_mid (Eqv.inv_left B) _ _).trans ?_
  have := Eqv.left c (Eqv.inv_left B)
  simpa using this
theorem root_pow_rd {B P : List UInt8} {n k : Nat} (hP : P ≠ []) (h : Rd (B ++ Lib.repeatL P (n + 1) ++ invL B)) (hk : 0 < k) (hr : Rd (Lib.repeatL P k)) : Rd (B ++ Lib.repeatL P k ++ invL B) := by
  obtain ⟨m, rfl⟩ : ∃ m, k = m + 1 := ⟨k - 1, by omega⟩
  have e1 : Rd (B ++ P) := by
    have hl := h
    rw [show Lib.repeatL P (n + 1) = P ++ Lib.repeatL P n from rfl, show B ++ (P ++ Lib.repeatL P n) ++ invL B = (B ++ P) ++ (Lib.repeatL P n ++ invL B) by simp] at hl
    exact hl.app_left
  have e2 : Rd (P ++ invL B) := by
    have hl := h
    rw [repeatL_succ', show B ++ (Lib.repeatL P n ++ P) ++ invL B = (B ++ Lib.repeatL P n) ++ (P ++ invL B) by simp] at hl
    exact hl.app_right
  have e3 : Rd (B ++ Lib.repeatL P (m + 1)) := by
    have := Rd.app_mid (a := B) (b := P) (c := Lib.repeatL P m) hP hr e1
    rw [show Lib.repeatL P (m + 1) = P ++ Lib.repeatL P m from rfl, ← List.append_assoc]
    exact this
  have e4 := Rd.app_mid (a := B ++ Lib.repeatL P m) (b := P) (c := invL B) hP e2 (by rw [List.append_assoc, ← repeatL_succ']; exact e3)
  rw [repeatL_succ', ← List.append_assoc B]
  exact e4
/-- the root's middle -/
def rootP (l : List UInt8) : List UInt8 := (midL l).take (perL l)
theorem rootP_len {l : List UInt8} (h : Rd l) (h0 : l ≠ []) : (rootP l).length = perL l := by
  have := mid_per h h0
  unfold rootP
  rw [List.length_take]
  omega
theorem commute_root {u v : List UInt8} (hu : Rd u) (hv : Rd v) (hu0 : u ≠ []) (hv0 : v ≠ []) (h : redW (u ++ v) = redW (v ++ u)) :
    ∃ k, 0 < k ∧ (v = byL u ++ Lib.repeatL (rootP u) k ++ invL (byL u) ∨ invL v = byL u ++ Lib.repeatL (rootP u) k ++ invL (byL u)) := by
  obtain ⟨p1, p2, p3, p4, p5⟩ := mid_per hu hu0
  have hcyc := mid_cyc hu hu0
  have hsp := split_core u
  have hPl := rootP_len hu hu0
  have hmp : 0 < (midL u).length := by omega
  have hc0 : midL u ≠ [] := List.length_pos_iff.1 hmp
  have hper := (perD_le (m := midL u) ((midL u).length - 1) 1 (by omega) (by omega)).2.2.1
  have hpd : perD (midL u) ((midL u).length - 1) 1 = perL u := rfl
  rw [hpd] at hper
  have hP0 : rootP u ≠ [] := by rw [← List.length_pos_iff]; omega
  have hPdef : (midL u).take (perL u) = rootP u := rfl
  rw [hPdef] at p4
  obtain ⟨n, hn⟩ : ∃ n, rootN u = n + 1 := ⟨rootN u - 1, by omega⟩
  rw [hn] at p4
  have hurd : Rd (byL u ++ Lib.repeatL (rootP u) (n + 1) ++ invL (byL u)) := by rw [p4, ← hsp]; exact hu
  have h1 : Eqv (byL u ++ midL u ++ invL (byL u) ++ v) (v ++ (byL u ++ midL u ++ invL (byL u))) := by rw [← hsp]; exact h
  have hconj := comm_conj h1
  obtain ⟨z, hz⟩ : ∃ z, redW (invL (byL u) ++ v ++ byL u) = z := ⟨_, rfl⟩
  have hzr : Rd z := by rw [← hz]; exact redW_rd _
  rw [hz] at hconj
  have hvz : Eqv (byL u ++ z ++ invL (byL u)) v := by
    have h2 : Eqv (byL u ++ z ++ invL (byL u)) (byL u ++ (invL (byL u) ++ v ++ byL u) ++ invL (byL u)) := by
      rw [← hz]
      exact Eqv.right _ (Eqv.left _ (Eqv.red _))
    refine h2.trans ?_
    have e1 : byL u ++ (invL (byL u) ++ v ++ byL u) ++ invL (byL u) = [] ++ (byL u ++ invL (byL u)) ++ (v ++ (byL u ++ invL (byL u))) := by simp
    rw [e1]
    refine (Eqv.drop_mid (Eqv.inv_right _) _ _).trans ?_
    have := Eqv.left v (Eqv.inv_right (byL u))
    simpa using this
  have hz0 : z ≠ [] := by
    intro e
    rw [e] at hvz
    have h3 : Eqv (byL u ++ [] ++ invL (byL u)) [] := by simpa using Eqv.inv_right (byL u)
    exact hv0 ((hvz.symm.trans h3).of_rd hv .nil)
  have hzl : 0 < z.length := List.length_pos_iff.2 hz0
  rcases conj_self hcyc hc0 hzr hconj with ⟨hr, hp⟩ | ⟨hr, hp⟩
  · have hdv := perD_dvd hmp hp
    rw [hpd] at hdv
    have hrep := runs_rep p1 p2 hper hr hdv
    rw [hPdef] at hrep
    have hk : 0 < z.length / perL u := Nat.div_pos (Nat.le_of_dvd hzl hdv) p1
    refine ⟨_, hk, .inl ?_⟩
    have h4 : Rd (byL u ++ Lib.repeatL (rootP u) (z.length / perL u) ++ invL (byL u)) := root_pow_rd hP0 hurd hk (by rw [← hrep]; exact hzr)
    rw [← hrep] at h4 ⊢
    exact hvz.symm.of_rd hv h4
  · have hlen : (invL (midL u)).length = (midL u).length := invL_len _
    have hdv := perD_dvd (by rw [hlen]; exact hmp) hp
    rw [hlen, perD_inv hmp, hpd] at hdv
    have hrep := runs_rep p1 (by rw [hlen]; exact p2) (by rw [per_inv p1 p2]; exact hper) hr hdv
    have htk : (invL (midL u)).take (perL u) = invL (rootP u) := by
      rw [← p4, repeatL_inv]
      have := repeatL_take_one (P := invL (rootP u)) (n := n + 1) (by omega)
      rwa [invL_len, hPl] at this
    rw [htk] at hrep
    have hk : 0 < z.length / perL u := Nat.div_pos (Nat.le_of_dvd hzl hdv) p1
    refine ⟨_, hk, .inr ?_⟩
    have hzi : invL z = Lib.repeatL (rootP u) (z.length / perL u) := by
      have := congrArg invL hrep
      rw [repeatL_inv, invL_inv] at this
      exact this
    have h4 : Rd (byL u ++ Lib.repeatL (rootP u) (z.length / perL u) ++ invL (byL u)) := root_pow_rd hP0 hurd hk (by rw [← hzi]; exact hzr.rev)
    rw [← hzi] at h4 ⊢
    have h5 : Eqv (invL v) (byL u ++ invL z ++ invL (byL u)) := by
      have := hvz.inv
      rw [invL_app, invL_app, invL_inv, ← List.append_assoc] at this
      exact this.symm
    exact h5.of_rd hv.rev h4
end Go.Proofs.Ytjdmmgaddbleeaa

/- Plain laws: the root of a power; what Commute answers is right. -/
namespace Go.Proofs.Ytjdmmgaddbleeaa
open Go.RowKit

theorem rd_pow {P : List UInt8} (hP : P ≠ []) (h : Rd (P ++ P)) : ∀ k, Rd (Lib.repeatL P k)
  | 0 => .nil
  | 1 => by rw [Lib.repeatL_one]; exact h.app_left
  | k + 2 => by
    have ih := rd_pow hP h (k + 1)
    rw [show Lib.repeatL P (k + 2) = P ++ (P ++ Lib.repeatL P k) from rfl, ← List.append_assoc]
    exact Rd.app_mid hP ih h
theorem rep_mod {P : List UInt8} (hP : P ≠ []) {k : Nat} (hk : 0 < k) (i : Nat) : (Lib.repeatL P k)[i % (Lib.repeatL P k).length]? = P[i % P.length]? := by
  have hp : 0 < P.length := List.length_pos_iff.2 hP
  have hl : (Lib.repeatL P k).length = k * P.length := repeatL_len P k
  rw [hl, repeatL_get _ _ _ (Nat.mod_lt _ (Nat.mul_pos hk hp)), Nat.mod_mod_of_dvd _ (Nat.dvd_mul_left _ _)]
theorem perI_rep {P : List UInt8} (hP : P ≠ []) {k : Nat} (hk : 0 < k) {d : Nat} : perI (Lib.repeatL P k) d ↔ perI P d := by
  unfold perI
  simp only [rep_mod hP hk]
/-- the root of a power of a root -/
theorem root_of_pow {u : List UInt8} (hu : Rd u) (hu0 : u ≠ []) {k : Nat} (hk : 0 < k) :
    rootW (byL u ++ Lib.repeatL (rootP u) k ++ invL (byL u)) = rootW u ∧ rootN (byL u ++ Lib.repeatL (rootP u) k ++ invL (byL u)) = k := by
  obtain ⟨p1, p2, p3, p4, p5⟩ := mid_per hu hu0
  have hPl := rootP_len hu hu0
  have hP0 : rootP u ≠ [] := by rw [← List.length_pos_iff]; omega
  have hPdef : (midL u).take (perL u) = rootP u := rfl
  rw [hPdef] at p4
  have hcyc := mid_cyc hu hu0
  have hPP : Rd (rootP u ++ rootP u) := by
    obtain ⟨n, hn⟩ : ∃ n, rootN u = n + 1 := ⟨rootN u - 1, by omega⟩
    rw [← p4, hn] at hcyc
    have e : Lib.repeatL (rootP u) (n + 1) ++ Lib.repeatL (rootP u) (n + 1) = Lib.repeatL (rootP u) n ++ ((rootP u ++ rootP u) ++ Lib.repeatL (rootP u) n) := by
      conv => lhs; lhs; rw [repeatL_succ']
      rw [show Lib.repeatL (rootP u) (n + 1) = rootP u ++ Lib.repeatL (rootP u) n from rfl]
      simp
    rw [e] at hcyc
    exact hcyc.app_right.app_left
  have hCl : (Lib.repeatL (rootP u) k).length = k * perL u := by rw [repeatL_len, hPl]
  have hCp : 0 < (Lib.repeatL (rootP u) k).length := by rw [hCl]; exact Nat.mul_pos hk p1
  have hC0 : Lib.repeatL (rootP u) k ≠ [] := List.length_pos_iff.1 hCp
  have hCC : Rd (Lib.repeatL (rootP u) k ++ Lib.repeatL (rootP u) k) := by rw [← Lib.repeatL_add]; exact rd_pow hP0 hPP _
  obtain ⟨hb, hm⟩ := parts_of (B := byL u) hC0 hCC
  generalize hv : byL u ++ Lib.repeatL (rootP u) k ++ invL (byL u) = v at *
  -- the least period
  have hd1 : perD (Lib.repeatL (rootP u) k) ((Lib.repeatL (rootP u) k).length - 1) 1 = perL v := by unfold perL; rw [hm]
  obtain ⟨q1, q2, q3, _⟩ := perD_le (m := Lib.repeatL (rootP u) k) ((Lib.repeatL (rootP u) k).length - 1) 1 (by omega) (by omega)
  rw [hd1] at q1 q2 q3
  have hdP : perL v ∣ perL u := by
    rw [← hd1]
    refine perD_dvd hCp ?_
    rw [perI_rep hP0 hk, ← hPl]
    exact perI_len _
  have hPd : perL u ∣ perL v := by
    have h1 : perI (Lib.repeatL (rootP u) k) (perL v) := ((isPer_iff (by omega) q2).1 q3).2
    rw [perI_rep hP0 hk] at h1
    have h2 : perI (midL u) (perL v) := by rw [← p4, perI_rep hP0 p5]; exact h1
    exact perD_dvd (c := midL u) (by omega) h2
  have hpe : perL v = perL u := Nat.dvd_antisymm hdP hPd
  constructor
  · unfold rootW
    rw [hb, hm, hpe]
    have := repeatL_take_one (P := rootP u) (n := k) hk
    rw [hPl] at this
    rw [this]
    rfl
  · unfold rootN
    rw [hm, hpe, hCl]
    exact Nat.mul_div_cancel _ p1
/-- a reduced word is the power of its root -/
theorem pow_root {v : List UInt8} (h : Rd v) (h0 : v ≠ []) : redW (Lib.repeatL (rootW v) (rootN v)) = v := by
  obtain ⟨p1, p2, p3, p4, p5⟩ := mid_per h h0
  have hPdef : (midL v).take (perL v) = rootP v := rfl
  rw [hPdef] at p4
  have hsp := split_core v
  rw [rootW_eq h h0, hPdef]
  have key : ∀ k, Eqv (Lib.repeatL (byL v ++ rootP v ++ invL (byL v)) k) (byL v ++ Lib.repeatL (rootP v) k ++ invL (byL v)) := by
    intro k
    induction k with
    | zero =>
      have := Eqv.inv_right (byL v)
      simpa [Lib.repeatL] using this.symm
    | succ k ih =>
      rw [show Lib.repeatL (byL v ++ rootP v ++ invL (byL v)) (k + 1) = (byL v ++ rootP v ++ invL (byL v)) ++ Lib.repeatL (byL v ++ rootP v ++ invL (byL v)) k from rfl]
      refine (Eqv.left _ ih).trans ?_
      have e : (byL v ++ rootP v ++ invL (byL v)) ++ (byL v ++ Lib.repeatL (rootP v) k ++ invL (byL v)) = (byL v ++ rootP v) ++ (invL (byL v) ++ byL v) ++ (Lib.repeatL (rootP v) k ++ invL (byL v)) := by simp
      rw [e]
      refine (Eqv.drop_mid (Eqv.inv_left _) _ _).trans ?_
      rw [show Lib.repeatL (rootP v) (k + 1) = rootP v ++ Lib.repeatL (rootP v) k from rfl]
      have e2 : byL v ++ rootP v ++ (Lib.repeatL (rootP v) k ++ invL (byL v)) = byL v ++ (rootP v ++ Lib.repeatL (rootP v) k) ++ invL (byL v) := by simp
      rw [e2]
      exact Eqv.refl _
  have h1 := key (rootN v)
  rw [p4, ← hsp] at h1
  rw [show redW (Lib.repeatL (byL v ++ rootP v ++ invL (byL v)) (rootN v)) = redW v from h1, redW_self h]
/-- a root is its own root -/
theorem root_root {v : List UInt8} (h : Rd v) (h0 : v ≠ []) : rootW (rootW v) = rootW v ∧ rootN (rootW v) = 1 ∧ rootW v ≠ [] ∧ Rd (rootW v) := by
  have hr := root_rd h h0
  have he := rootW_eq h h0
  have hk := root_of_pow h h0 (k := 1) (by omega)
  rw [Lib.repeatL_one] at hk
  have hPdef : (midL v).take (perL v) = rootP v := rfl
  rw [hPdef] at hr he
  have hP0 : rootP v ≠ [] := by rw [← List.length_pos_iff, rootP_len h h0]; exact (mid_per h h0).1
  rw [he]
  refine ⟨by rw [hk.1, he], hk.2, ?_, hr⟩
  intro e
  have := congrArg List.length e
  simp at this
  exact hP0 this.2.1
end Go.Proofs.Ytjdmmgaddbleeaa

/- Plain laws: what Commute answers is right; a commutator falls. -/
namespace Go.Proofs.Ytjdmmgaddbleeaa
open Go.RowKit

theorem falls_comm {a b t : List UInt8} (h : fallsP a t = true ∨ fallsP b t = true) : fallsP (a ++ b ++ invL a ++ invL b) t = true := by
  unfold fallsP at *
  rw [redL_keep, eqv_empty] at *
  rw [redL_keep, eqv_empty] at h
  rw [keep_app, keep_app, keep_app, keep_inv, keep_inv]
  generalize keep (marksOf t) a = A at *
  generalize keep (marksOf t) b = B at *
  rcases h with h | h
  · have h1 : Eqv (A ++ B ++ invL A ++ invL B) ([] ++ B ++ invL [] ++ invL B) := ((Eqv.right B h).app h.inv).right _
    refine h1.trans ?_
    have := Eqv.inv_right B
    simpa [invL] using this
  · have h1 : Eqv (A ++ B ++ invL A ++ invL B) (A ++ [] ++ invL A ++ invL []) := (((Eqv.left A h).right (invL A))).app h.inv
    refine h1.trans ?_
    have := Eqv.inv_right A
    simpa [invL] using this
theorem root_inv_word {v : List UInt8} (h : Rd v) (h0 : v ≠ []) : rootW (invL v) = invL (rootW v) ∧ rootN (invL v) = rootN v := by
  obtain ⟨p1, p2, p3, p4, p5⟩ := mid_per h h0
  have hPdef : (midL v).take (perL v) = rootP v := rfl
  rw [hPdef] at p4
  have hPl := rootP_len h h0
  have hsp := split_core v
  have hcyc := mid_cyc h h0
  have hmp : 0 < (midL v).length := by omega
  have hiv : invL v = byL v ++ invL (midL v) ++ invL (byL v) := by
    conv => lhs; rw [hsp]
    rw [invL_app, invL_app, invL_inv, List.append_assoc]
  have hC0 : invL (midL v) ≠ [] := by rw [← List.length_pos_iff, invL_len]; exact hmp
  have hCC : Rd (invL (midL v) ++ invL (midL v)) := by rw [← invL_app]; exact hcyc.rev
  obtain ⟨hb, hm⟩ := parts_of (B := byL v) hC0 hCC
  rw [← hiv] at hb hm
  have hpe : perL (invL v) = perL v := by
    unfold perL
    rw [hm, invL_len]
    exact perD_inv hmp
  have htk : (invL (midL v)).take (perL v) = invL (rootP v) := by
    obtain ⟨n, hn⟩ : ∃ n, rootN v = n + 1 := ⟨rootN v - 1, by omega⟩
    rw [← p4, repeatL_inv]
    have := repeatL_take_one (P := invL (rootP v)) (n := rootN v) p5
    rwa [invL_len, hPl] at this
  constructor
  · have e : rootW (invL v) = redW (byL v ++ invL (rootP v) ++ invL (byL v)) := by
      unfold rootW
      rw [hb, hm, hpe, htk]
    rw [e]
    have e2 : byL v ++ invL (rootP v) ++ invL (byL v) = invL (byL v ++ rootP v ++ invL (byL v)) := by
      rw [invL_app, invL_app, invL_inv, List.append_assoc]
    rw [e2, redW_inv]
    rfl
  · unfold rootN
    rw [hm, hpe, invL_len]
/-- commuting words have one root, or its inverse -/
theorem commute_roots {u v : List UInt8} (hu : Rd u) (hv : Rd v) (hu0 : u ≠ []) (hv0 : v ≠ []) (h : redW (u ++ v) = redW (v ++ u)) : rootW v = rootW u ∨ rootW v = invL (rootW u) := by
  obtain ⟨k, hk, h1 | h1⟩ := commute_root hu hv hu0 hv0 h
  · left
    have := (root_of_pow hu hu0 hk).1
    rwa [← h1] at this
  · right
    have h2 := (root_of_pow hu hu0 hk).1
    rw [← h1, (root_inv_word hv hv0).1] at h2
    have := congrArg invL h2
    rwa [invL_inv] at this
end Go.Proofs.Ytjdmmgaddbleeaa

/- Plain law: what Commute answers is right. -/
namespace Go.Proofs.Ytjdmmgaddbleeaa
open Go.RowKit

theorem powZ_zero (l : List UInt8) : powZ l 0 = [] := rfl
theorem powZ_nat (l : List UInt8) (n : Nat) : powZ l (n : Int) = Lib.repeatL l n := by
  unfold powZ
  rw [if_neg (by omega)]
  rfl
theorem powZ_neg (l : List UInt8) {n : Nat} (h : 0 < n) : powZ l (-(n : Int)) = Lib.repeatL (invL l) n := by
  unfold powZ
  rw [if_pos (by omega)]
  simp
theorem commR_ok {u v : List UInt8} (hu : Rd u) (hv : Rd v) : (commR u v).2.2.2 = decide (redW (u ++ v) = redW (v ++ u)) ∧
    ((commR u v).2.2.2 = true → redW (powZ (commR u v).1 (commR u v).2.1) = u ∧ redW (powZ (commR u v).1 (commR u v).2.2.1) = v ∧ ((commR u v).1 ≠ [] → rootW (commR u v).1 = (commR u v).1 ∧ rootN (commR u v).1 = 1 ∧ Rd (commR u v).1)) := by
  unfold commR
  by_cases h1 : u = [] ∧ v = []
  · rw [if_pos h1]
    obtain ⟨rfl, rfl⟩ := h1
    exact ⟨by simp, fun _ => ⟨rfl, rfl, fun h => absurd rfl h⟩⟩
  rw [if_neg h1]
  by_cases h2 : redW (u ++ v) = redW (v ++ u)
  · rw [if_neg (fun h => h h2), decide_eq_true h2]
    by_cases h3 : u = []
    · rw [if_pos h3]
      have h4 : v ≠ [] := fun e => h1 ⟨h3, e⟩
      have hr := root_root hv h4
      refine ⟨rfl, fun _ => ⟨?_, ?_, fun _ => ⟨hr.1, hr.2.1, hr.2.2.2⟩⟩⟩
      · show redW (powZ (rootW v) 0) = u
        rw [powZ_zero, h3]; rfl
      · show redW (powZ (rootW v) (rootN v : Int)) = v
        rw [powZ_nat, pow_root hv h4]
    · rw [if_neg h3]
      have hru := root_root hu h3
      by_cases h4 : v = []
      · rw [if_pos h4]
        refine ⟨rfl, fun _ => ⟨?_, ?_, fun _ => ⟨hru.1, hru.2.1, hru.2.2.2⟩⟩⟩
        · show redW (powZ (rootW u) (rootN u : Int)) = u
          rw [powZ_nat, pow_root hu h3]
        · show redW (powZ (rootW u) 0) = v
          rw [powZ_zero, h4]; rfl
      · rw [if_neg h4]
        refine ⟨rfl, fun _ => ⟨?_, ?_, fun _ => ⟨hru.1, hru.2.1, hru.2.2.2⟩⟩⟩
        · show redW (powZ (rootW u) (rootN u : Int)) = u
          rw [powZ_nat, pow_root hu h3]
        · show redW (powZ (rootW u) (if rootW v = rootW u then (rootN v : Int) else -(rootN v : Int))) = v
          by_cases h5 : rootW v = rootW u
          · rw [if_pos h5, powZ_nat, ← h5, pow_root hv h4]
          · rw [if_neg h5, powZ_neg _ (mid_per hv h4).2.2.2.2]
            have h6 : rootW v = invL (rootW u) := by
              rcases commute_roots hu hv h3 h4 h2 with h | h
              · exact absurd h h5
              · exact h
            rw [← h6, pow_root hv h4]
  · rw [if_pos h2, decide_eq_false h2]
    exact ⟨rfl, fun h => by cases h⟩
end Go.Proofs.Ytjdmmgaddbleeaa
