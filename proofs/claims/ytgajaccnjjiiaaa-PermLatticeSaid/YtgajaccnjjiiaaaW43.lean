/- The reference's Weak, Strong, turned: the walks. -/
import Derived.Test.YtgajaccnjjiiaaaW42
import Derived.Test.YtgajaccnjjiiaaaW37
namespace Go.Proofs.Ytgajaccnjjiiaaa
open Go.RowKit

def rweakM (p q : List Int) (n : Nat) : Bool := (List.range n).all fun i => (List.range n).all fun k => !(invT p i k) || invT q i k
theorem rweakM_true {p q : List Int} {n : Nat} (h : ∀ i k, i < n → k < n → (!(invT p i k) || invT q i k) = true) : rweakM p q n = true := by
  unfold rweakM
  rw [List.all_eq_true]
  intro i hi
  rw [List.all_eq_true]
  intro k hk
  exact h i k (List.mem_range.1 hi) (List.mem_range.1 hk)
theorem rweakM_false {p q : List Int} {n i k : Nat} (hi : i < n) (hk : k < n) (h : (!(invT p i k) || invT q i k) = false) : rweakM p q n = false := by
  unfold rweakM
  rw [List.all_eq_false]
  refine ⟨i, List.mem_range.2 hi, ?_⟩
  have : ((List.range n).all fun k => !(invT p i k) || invT q i k) = false := by
    rw [List.all_eq_false]
    exact ⟨k, List.mem_range.2 hk, by rw [h]; decide⟩
  rw [this]; decide

set_option maxRecDepth 100000 in
set_option maxHeartbeats 4000000 in
theorem rWeak_any (v u : Value) (p q : List Int) (w : World) (hv : Ints w v p) (hu : Ints w u q) (hc : ck2 p q = 0) :
    Calls Try.prog 57 #[v, u] w fun e w' => e = .returned (.bool (rweakM p q p.length)) ∧ Below w.heap.size w w' := by
  obtain ⟨hcp, hcq, hlen⟩ := ck2_zero hc
  obtain ⟨h1, h2, hrp, _⟩ := check_zero hcp
  have hrq := perm_range hcq
  have hlq : q.length ≤ 60 := by omega
  obtain ⟨av, n, cv, rfl, HN, hn'⟩ := hv.open
  obtain ⟨au, n2, cu, rfl, HN2, hn2'⟩ := hu.open
  rw [HN.out] at h1 h2
  obtain rfl : n2 = n := by rw [← HN.out, ← HN2.out, hlen]
  have HRP := Lib.hid hrp
  have HRQ := Lib.hid hrq
  have HLQ := Lib.hid hlq
  clear hcp hcq hlen hrp hrq hc hlq
  rw [HN.out]
  go_enter Try.func57, Try.ntmps57
  go_wp2_with (first
    | (go_at_call_of 94 (Value.slice av n2 cv); refine (table_any _ p _ hv HRP.out (by rw [HN.out]; exact h2)).mono ?_; rw [HN.out]; rintro e w1 ⟨rfl, ht1, hs1, hb1⟩; have hu1 := hu.below hb1 (Nat.le_refl _))
    | (go_at_call_of 94 (Value.slice au n2 cu); refine (table_any _ q _ hu1 HRQ.out HLQ.out).mono ?_; rw [HN2.out]; rintro e w2 ⟨rfl, ht2, hs2, hb2⟩))
  have hB := hb1.trans (hb2.mono hb1.size)
  have ht12 := ht1.keep hb2
  have ht2' : Tab w2 (w.heap.size + 1 + n2) n2 (invT q) := by rw [← hs1]; exact ht2
  have HT1 := Lib.hid ht12
  have HT2 := Lib.hid ht2'
  clear ht1 ht12 ht2 ht2' hb1 hb2 hs1 hs2 hu1 hv hu
  go_loop [7] (fun i => ∃ a : Nat, a ≤ n2 ∧ i = .int .i64 a ∧ Hid (∀ i k : Nat, i < a → k < n2 → (!(invT p i k) || invT q i k) = true)) (fun i => n2 - (intOf i).toNat)
  case atStart => exact ⟨0, by omega, rfl, (show Hid (∀ i k : Nat, i < 0 → k < n2 → (!(invT p i k) || invT q i k) = true) from fun i k h => by omega)⟩
  case round =>
    obtain ⟨a, ha, rfl, HA⟩ := hrel
    by_cases hlt : a < n2
    · have r1 := HT1.out.row hlt
      have r2 := HT2.out.row hlt
      go_wp2_with fail
      go_loop [8] (fun j => ∃ b : Nat, b ≤ n2 ∧ j = .int .i64 b ∧ Hid (∀ k : Nat, k < b → (!(invT p a k) || invT q a k) = true)) (fun j => n2 - (intOf j).toNat)
      case atStart => exact ⟨0, by omega, rfl, (show Hid (∀ k : Nat, k < 0 → (!(invT p a k) || invT q a k) = true) from fun k h => by omega)⟩
      case round =>
        obtain ⟨b, hb, rfl, HBk⟩ := hrel
        by_cases hlb : b < n2
        · have c1 := HT1.out.cell hlt hlb
          have c2 := HT2.out.cell hlt hlb
          have HNX := Lib.hid (fun (h : (!(invT p a b) || invT q a b) = true) => (fun k hk => by
            by_cases e : k = b
            · subst e; exact h
            · exact HBk.out k (by omega) : ∀ k : Nat, k < b + 1 → (!(invT p a k) || invT q a k) = true))
          have HFL := Lib.hid (fun (h : (!(invT p a b) || invT q a b) = false) => rweakM_false hlt hlb h)
          generalize invT p a b = b1 at *
          generalize invT q a b = b2 at *
          cases b1
          · go_wp2_with fail
            go_round
            case rel => exact ⟨b + 1, by omega, by go_num, HNX.out rfl⟩
            case measure => simp [intOf]; omega
          · cases b2
            · go_wp2_with fail
              go_ret
              exact ⟨by rw [HFL.out rfl]; rfl, hB⟩
            · go_wp2_with fail
              go_round
              case rel => exact ⟨b + 1, by omega, by go_num, HNX.out rfl⟩
              case measure => simp [intOf]; omega
        · obtain rfl : b = n2 := by omega
          go_wp2_with fail
          go_round
          case rel =>
            refine ⟨a + 1, by omega, by go_num, ?_⟩
            show Hid _
            intro i k hi hk
            by_cases e : i = a
            · subst e; exact HBk.out k hk
            · exact HA.out i k (by omega) hk
          case measure => simp [intOf]; omega
    · obtain rfl : a = n2 := by omega
      have hfin := rweakM_true HA.out
      have HF := Lib.hid hfin
      clear hfin
      go_wp2_with fail
      go_ret
      exact ⟨by rw [HF.out]; rfl, hB⟩

def rstrongM (p q : List Int) (n : Nat) : Bool := (List.range (n + 1)).all fun i => (List.range (n + 1)).all fun j => decide (gcnt p i j ≤ gcnt q i j)
theorem rstrongM_true {p q : List Int} {n : Nat} (h : ∀ i j, i < n + 1 → j < n + 1 → gcnt p i j ≤ gcnt q i j) : rstrongM p q n = true := by
  unfold rstrongM
  rw [List.all_eq_true]
  intro i hi
  rw [List.all_eq_true]
  intro k hk
  exact decide_eq_true (h i k (List.mem_range.1 hi) (List.mem_range.1 hk))
theorem rstrongM_false {p q : List Int} {n i j : Nat} (hi : i < n + 1) (hj : j < n + 1) (h : ¬ gcnt p i j ≤ gcnt q i j) : rstrongM p q n = false := by
  unfold rstrongM
  rw [List.all_eq_false]
  refine ⟨i, List.mem_range.2 hi, ?_⟩
  have : ((List.range (n + 1)).all fun j => decide (gcnt p i j ≤ gcnt q i j)) = false := by
    rw [List.all_eq_false]
    exact ⟨j, List.mem_range.2 hj, by rw [decide_eq_true_eq]; exact h⟩
  rw [this]; decide

set_option maxRecDepth 100000 in
set_option maxHeartbeats 4000000 in
theorem rStrong_any (v u : Value) (p q : List Int) (w : World) (hv : Ints w v p) (hu : Ints w u q) (hc : ck2 p q = 0) :
    Calls Try.prog 58 #[v, u] w fun e w' => e = .returned (.bool (rstrongM p q p.length)) ∧ Below w.heap.size w w' := by
  obtain ⟨hcp, hcq, hlen⟩ := ck2_zero hc
  obtain ⟨h1, h2, _, _⟩ := check_zero hcp
  obtain ⟨av, n, cv, rfl, HN, hn'⟩ := hv.open
  obtain ⟨au, n2, cu, rfl, HN2, hn2'⟩ := hu.open
  rw [HN.out] at h1 h2
  obtain rfl : n2 = n := by rw [← HN.out, ← HN2.out, hlen]
  clear hcp hcq hlen hc
  rw [HN.out]
  go_enter Try.func58, Try.ntmps58
  go_wp2_with fail
  go_loop [5] (fun i => ∃ a : Nat, a ≤ n2 + 1 ∧ i = .int .i64 a ∧ Hid (∀ i j : Nat, i < a → j < n2 + 1 → gcnt p i j ≤ gcnt q i j)) (fun i => n2 + 1 - (intOf i).toNat)
  case atStart => exact ⟨0, by omega, rfl, (show Hid (∀ i j : Nat, i < 0 → j < n2 + 1 → gcnt p i j ≤ gcnt q i j) from fun i k h => by omega)⟩
  case round =>
    obtain ⟨a, ha, rfl, HA⟩ := hrel
    by_cases hlt : a ≤ n2
    · go_wp2_with fail
      go_loop [6] (fun j => ∃ b : Nat, b ≤ n2 + 1 ∧ j = .int .i64 b ∧ Hid (∀ j : Nat, j < b → gcnt p a j ≤ gcnt q a j)) (fun j => n2 + 1 - (intOf j).toNat)
      case atStart => exact ⟨0, by omega, rfl, (show Hid (∀ j : Nat, j < 0 → gcnt p a j ≤ gcnt q a j) from fun k h => by omega)⟩
      case round =>
        obtain ⟨b, hb, rfl, HBk⟩ := hrel
        by_cases hlb : b ≤ n2
        · go_wp2_with fail
          go_loop [7, 8, 9] (fun s t k => ∃ c : Nat, c ≤ a ∧ k = .int .i64 c ∧ s = .int .i64 ((gcnt p c b : Nat) : Int) ∧ t = .int .i64 ((gcnt q c b : Nat) : Int)) (fun _ _ k => a - (intOf k).toNat)
          case atStart => exact ⟨0, by omega, rfl, rfl, rfl⟩
          case round =>
            obtain ⟨c, hcc, rfl, rfl, rfl⟩ := hrel
            by_cases hlc : c < a
            · obtain ⟨b1, o1, x, rfl, hx, hcx⟩ := hv.at_ (k := c) (by omega)
              obtain ⟨b2, o2, y, rfl, hy, hcy⟩ := hu.at_ (k := c) (by omega)
              have hcl : (c : Int) < n2 := by omega
              have e1 := gcnt_succ hx.out b
              have e2 := gcnt_succ hy.out b
              have l1 := gcnt_le p c b
              have l2 := gcnt_le q c b
              generalize gcnt p c b = s at *
              generalize gcnt q c b = t at *
              have E1 := Lib.hid e1
              have E2 := Lib.hid e2
              clear e1 e2 hx hy
              by_cases hp : (b : Int) ≤ x
              all_goals by_cases hq : (b : Int) ≤ y
              all_goals go_wp2_with fail
              all_goals
                refine ⟨⟨c + 1, by omega, by go_num, ?_, ?_⟩, by simp [intOf]; omega⟩
                · first
                  | (rw [E1.out, if_pos (by omega)]; go_num)
                  | (rw [E1.out, if_neg (by omega)]; go_num)
                · first
                  | (rw [E2.out, if_pos (by omega)]; go_num)
                  | (rw [E2.out, if_neg (by omega)]; go_num)
            · obtain rfl : c = a := by omega
              have HNX := Lib.hid (fun (h : gcnt p c b ≤ gcnt q c b) => (fun k hk => by
                by_cases e : k = b
                · subst e; exact h
                · exact HBk.out k (by omega) : ∀ k : Nat, k < b + 1 → gcnt p c k ≤ gcnt q c k))
              have HFL := Lib.hid (fun (h : ¬ gcnt p c b ≤ gcnt q c b) => rstrongM_false (n := n2) (by omega) (by omega) h)
              generalize gcnt p c b = s at *
              generalize gcnt q c b = t at *
              by_cases hst : s ≤ t
              · have hd : decide ((t : Int) < (s : Int)) = false := by simp; omega
                go_wp2_with fail
                go_round
                case rel => exact ⟨b + 1, by omega, by go_num, HNX.out hst⟩
                case measure => simp [intOf]; omega
              · have hd : decide ((t : Int) < (s : Int)) = true := by simp; omega
                go_wp2_with fail
                go_ret
                exact ⟨by rw [HFL.out (by omega)]; rfl, Below.refl _ _⟩
        · obtain rfl : b = n2 + 1 := by omega
          go_wp2_with fail
          go_round
          case rel =>
            refine ⟨a + 1, by omega, by go_num, ?_⟩
            show Hid _
            intro i k hi hk
            by_cases e : i = a
            · subst e; exact HBk.out k hk
            · exact HA.out i k (by omega) hk
          case measure => simp [intOf]; omega
    · obtain rfl : a = n2 + 1 := by omega
      have hfin := rstrongM_true HA.out
      have HF := Lib.hid hfin
      clear hfin
      go_wp2_with fail
      go_ret
      exact ⟨by rw [HF.out]; rfl, Below.refl _ _⟩

theorem rev_take {p : List Int} {j : Nat} {x : Int} (h : p[p.length - 1 - j]? = some x) (hj : j < p.length) : p.reverse.take (j + 1) = p.reverse.take j ++ [x] := by
  apply take_snoc'
  rw [List.getElem?_reverse hj]
  exact h

set_option maxHeartbeats 2000000 in
theorem rturned_any (v : Value) (p : List Int) (w : World) (hv : Ints w v p) (hl : p.length ≤ 1000) :
    Calls Try.prog 97 #[v] w fun e w' => ∃ u, e = .returned u ∧ Own w' w.heap.size 3 u p.reverse ∧ Below w.heap.size w w' := by
  obtain ⟨ad, n, cap, rfl, HN, hn'⟩ := hv.open
  have hl' : n ≤ 1000 := by have := HN.out; omega
  clear hl
  go_enter Try.func97, Try.ntmps97
  go_wp2_with fail
  go_loopw [3, 4] (fun r i wr => ∃ j a : Nat, a + j = n ∧ i = .int .i64 ((a : Int) - 1) ∧ Own wr w.heap.size 3 r (p.reverse.take j) ∧ Below w.heap.size w wr) (fun _ i _ => (intOf i + 1).toNat)
  case atStart => exact ⟨0, n, by omega, by go_num, by simpa using Own.nil _ _ _, Below.refl _ _⟩
  case round =>
    obtain ⟨j, a, hja, rfl, hown, hB⟩ := hrel
    have hsz := hB.size
    by_cases h0 : a = 0
    · subst h0
      have hall : p.reverse.take j = p.reverse := List.take_of_length_le (by rw [List.length_reverse, HN.out]; omega)
      rw [hall] at hown
      go_wp2_with fail
      go_ret
      exact ⟨_, rfl, hown, hB⟩
    · obtain ⟨i, rfl⟩ : ∃ i, a = i + 1 := ⟨a - 1, by omega⟩
      have e1 : (((i + 1 : Nat) : Int) - 1) = i := by omega
      obtain ⟨b, o, x, rfl, hx, hc⟩ := (hv.below hB (Nat.le_refl _)).at_ (k := i) (by omega)
      have htk := rev_take (p := p) (j := j) (x := x) (by rw [HN.out, show n - 1 - j = i by omega]; exact hx.out) (by rw [HN.out]; omega)
      have hlen : (p.reverse.take j).length < 1000000000000 := by rw [List.length_take, List.length_reverse, HN.out]; omega
      have HTK := Lib.hid htk
      have HLEN := Lib.hid hlen
      clear htk hlen hx
      have hil : (i : Int) < n := by omega
      rw [e1]
      go_wp2_with (at_builtin; refine wpList_app1 Try.info3 Try.underlying22 hown hsz HLEN.out rfl _ _ rfl rfl rfl ?_; intro v3 w3 hown3 hgrow3 hb3 hsh3)
      go_roundw
      case rel => exact ⟨j + 1, i, by omega, rfl, by rw [HTK.out]; exact hown3, hB.trans hb3⟩
      case measure => simp [intOf]
end Go.Proofs.Ytgajaccnjjiiaaa
