/- PermFinds: that both searches answer alike. -/
import Derived.Test.YtgajaccnjjiiaaaW54
import Derived.Test.YtgajaccnjjiiaaaW56
namespace Go.Proofs.Ytgajaccnjjiiaaa
open Go.RowKit

def Rising (s : List Int) : Prop := ∀ i j, i < j → j < s.length → (vat s i).toNat < (vat s j).toNat
theorem vat_snoc_last (s : List Int) (x : Int) : vat (s ++ [x]) s.length = x := by simp [vat]
theorem vat_snoc {s : List Int} (x : Int) {i : Nat} (h : i < s.length) : vat (s ++ [x]) i = vat s i := by simp [vat, List.getElem?_append_left h]
theorem rfrom_snoc (s : List Int) (i : Nat) : rfrom (s ++ [(i : Int)]) = i + 1 := by
  rw [rfrom, if_neg (by simp)]
  simp only [List.length_append, List.length_cons, List.length_nil, Nat.zero_add, Nat.add_sub_cancel]
  rw [vat_snoc_last]; simp
theorem rfrom_gt {s : List Int} (h : Rising s) {k i : Nat} (hk : k < s.length) (hi : rfrom s ≤ i) : (vat s k).toNat < i := by
  rw [rfrom, if_neg (by omega)] at hi
  by_cases e : k = s.length - 1
  · subst e; omega
  · have := h k (s.length - 1) (by omega) (by omega)
    omega
theorem rali_snoc {p q s : List Int} (hp : p.Nodup) (hq : q.Nodup) (hr : Rising s) {i : Nat} (hi : rfrom s ≤ i) (hip : i < p.length) (hL : s.length < q.length) :
    rali p q (s ++ [(i : Int)]) (s.length + 1) = (rali p q s s.length && fitsTo p q s i s.length) := by
  have h1 : ∀ a k, a < s.length → k ≤ a → rfit p q (s ++ [(i : Int)]) a k = rfit p q s a k := by
    intro a k ha
    induction k with
    | zero => intro _; rfl
    | succ k ih => intro hk; rw [rfit, rfit, ih (by omega), vat_snoc _ ha, vat_snoc _ (by omega)]
  have h2 : ∀ a, a ≤ s.length → rali p q (s ++ [(i : Int)]) a = rali p q s a := by
    intro a
    induction a with
    | zero => intro _; rfl
    | succ a ih => intro ha; rw [rali, rali, ih (by omega), h1 a a (by omega) (Nat.le_refl _)]
  have h3 : ∀ k, k ≤ s.length → rfit p q (s ++ [(i : Int)]) s.length k = fitsTo p q s i k := by
    intro k
    induction k with
    | zero => intro _; rfl
    | succ k ih =>
      intro hk
      rw [rfit, fitsTo, ih (by omega), vat_snoc_last, vat_snoc _ (by omega)]
      congr 1
      have e1 := vat_inj hp (i := (vat s k).toNat) (k := i) (rfrom_gt hr (by omega) hi) hip
      have e2 := vat_inj hq (i := k) (k := s.length) (by omega) hL
      change (decide (vat p (i : Int).toNat < vat p (vat s k).toNat) == decide (vat q s.length < vat q k)) = (decide (vat p (vat s k).toNat < vat p i) == decide (vat q k < vat q s.length))
      rw [Int.toNat_natCast]
      generalize vat p i = a at *
      generalize vat p (vat s k).toNat = b at *
      generalize vat q s.length = c at *
      generalize vat q k = d at *
      rw [show decide (b < a) = !decide (a < b) by rw [Bool.eq_iff_iff]; simp; omega, show decide (d < c) = !decide (c < d) by rw [Bool.eq_iff_iff]; simp; omega]
      cases decide (a < b) <;> cases decide (c < d) <;> rfl
  rw [rali, h2 _ (Nat.le_refl _), h3 _ (Nat.le_refl _)]
theorem rising_snoc {s : List Int} (hr : Rising s) {i : Nat} (hi : rfrom s ≤ i) : Rising (s ++ [(i : Int)]) := by
  intro a b hab hb
  simp only [List.length_append, List.length_cons, List.length_nil, Nat.zero_add] at hb
  by_cases e : b = s.length
  · subst e
    rw [vat_snoc_last, vat_snoc _ hab]
    simpa using rfrom_gt hr hab hi
  · rw [vat_snoc _ (by omega), vat_snoc _ (by omega)]
    exact hr a b hab (by omega)
theorem findSome_congr {α β : Type} {f g : α → Option β} : ∀ {l : List α}, (∀ x ∈ l, f x = g x) → l.findSome? f = l.findSome? g
  | [], _ => rfl
  | x :: l, h => by
    rw [List.findSome?_cons, List.findSome?_cons, h x (by simp), findSome_congr (l := l) (fun y hy => h y (by simp [hy]))]
theorem rsr_eq {p q : List Int} (hp : p.Nodup) (hq : q.Nodup) : ∀ (d : Nat) (s : List Int), s.length + d = q.length → Rising s →
    rsr p q d s = if rali p q s s.length then srch p q d s (rfrom s) else none := by
  intro d
  induction d with
  | zero => intro s _ _; rw [rsr, srch]
  | succ d ih =>
    intro s hd hr
    rw [rsr]
    cases ha : rali p q s s.length
    · rfl
    · simp only [if_true]
      rw [srch]
      refine findSome_congr fun i hi => ?_
      rw [List.mem_range'_1] at hi
      rw [ih (s ++ [(i : Int)]) (by simp; omega) (rising_snoc hr hi.1), rfrom_snoc]
      simp only [List.length_append, List.length_cons, List.length_nil, Nat.zero_add]
      rw [rali_snoc hp hq hr hi.1 (by omega) (by omega), ha, Bool.true_and]
theorem rsr_find {p q : List Int} (h1 : checkM p = 0) (h2 : checkM q = 0) (h3 : q.length ≤ 6) : rsr p q q.length [] = findM p q := by
  have hp := ((checkM_iff p).1 h1).2.2
  have hq := ((checkM_iff q).1 h2).2.2
  rw [rsr_eq hp hq q.length [] (by simp) (fun i j _ h => by simp at h), findM, if_pos (fE_ok h1 h2 h3)]
  rfl
theorem rFind_any (v u : Value) (p q : List Int) (w : World) (h1 : checkM p = 0) (h2 : checkM q = 0) (h3 : q.length ≤ 6) (hv : Ints w v p) (hu : Ints w u q) :
    Calls Try.prog 27 #[v, u] w fun e w' => ∃ a n c, e = .returned (.tuple #[.slice a n c, .bool (findM p q).isSome]) ∧ Ints w' (.slice a n c) ((findM p q).getD []) ∧ Below w.heap.size w w' := by
  have hp := (checkM_iff p).1 h1
  have hq := (checkM_iff q).1 h2
  have hc := fun W (h : Ints W v p) (k : Ints W u q) => rfind_any v u p q hp.1.2 hq.1.2 hq.1.1 q.length [] (.slice none 0 0) W (by simp) (by simp) h k (Ints.nil W) (by simp)
  rw [rsr_find h1 h2 h3] at hc
  have HC := Lib.hid hc
  have HV := Lib.hid hv
  have HU := Lib.hid hu
  generalize findM p q = r at *
  clear hc hv hu hp hq h1 h2 h3
  go_enter Try.func27, Try.ntmps27
  go_wp2_with (go_at_call 71; refine (HC.out _ HV.out HU.out).mono ?_; rintro e w' ⟨a, n, c, rfl, hi, hb⟩)
  go_ret2
  exact ⟨_, _, _, rfl, hi, hb⟩

theorem sort_out {p : List Int} (h : checkM p = 0) : ((sortOut (sortM p)).2 = true → sortsM p (sortOut (sortM p)).1 = true) ∧ ((sortOut (sortM p)).2 = false → (sortOut (sortM p)).1 = []) ∧ (sortOut (sortM p)).1.length ≤ 2 * p.length := by
  rcases hs : sortM p with _ | o
  · exact ⟨fun h => by simp [sortOut] at h, fun _ => rfl, by simp [sortOut]⟩
  · have := sort_sorts h hs
    refine ⟨fun _ => this, fun h => by simp [sortOut] at h, ?_⟩
    unfold sortsM at this
    simp only [Bool.and_eq_true, decide_eq_true_eq] at this
    simp [sortOut, this.1.2]
end Go.Proofs.Ytgajaccnjjiiaaa
