/- ordered: the permutation with given inversions: the walk. -/
import Derived.Test.YtgajaccnjjiiaaaW35
namespace Go.Proofs.Ytgajaccnjjiiaaa
open Go.RowKit

theorem findIdx_is {α : Type} {p : α → Bool} : ∀ {l : List α} {m : Nat}, m ≤ l.length → (∀ (j : Nat) (x : α), j < m → l[j]? = some x → p x = false) → (∀ x, l[m]? = some x → p x = true) → l.findIdx p = m := by
  intro l
  induction l with
  | nil => intro m h _ _; simp at h; subst h; rfl
  | cons y l ih =>
    intro m h h1 h2
    cases m with
    | zero => rw [List.findIdx_cons, h2 y rfl]; rfl
    | succ m =>
      rw [List.findIdx_cons, h1 0 y (by omega) rfl, ih (by simpa using h) (fun j x hj hx => h1 (j + 1) x (by omega) (by simpa using hx)) (fun x hx => h2 x (by simpa using hx))]
      rfl

/-- the values up to a number, each laid behind all lesser ones that do not stand behind it -/
def ordTo (T : Nat → Nat → Bool) : Nat → List Int
  | 0 => []
  | v + 1 => insM (ordTo T v) ((ordTo T v).findIdx (fun u => T v u.toNat)) (v : Int)
theorem ordTo_len (T : Nat → Nat → Bool) (v : Nat) : (ordTo T v).length = v := by
  induction v with
  | zero => rfl
  | succ v ih => rw [ordTo, insM_len _ _ _ List.findIdx_le_length, ih]
theorem ordTo_mem (T : Nat → Nat → Bool) (v : Nat) : ∀ x ∈ ordTo T v, 0 ≤ x ∧ x < v := by
  induction v with
  | zero => intro x h; simp [ordTo] at h
  | succ v ih =>
    intro x h
    rw [ordTo, insM, List.mem_append, List.mem_cons] at h
    rcases h with h | rfl | h
    · have := ih x (List.mem_of_mem_take h); omega
    · omega
    · have := ih x (List.mem_of_mem_drop h); omega

set_option maxRecDepth 100000 in
set_option maxHeartbeats 4000000 in
theorem ordered_any (g : Nat) (T : Nat → Nat → Bool) (n : Nat) (w : World) (hm : Mat w g T) (hn : n ≤ 60) :
    Calls Try.prog 90 #[.pointer (some ⟨g, 0, none⟩), .int .i64 n] w fun e w' => ∃ u, e = .returned u ∧ Own w' w.heap.size 3 u (ordTo T n) ∧ Below w.heap.size w w' := by
  have hg := hm.lt
  go_enter Try.func90, Try.ntmps90
  go_wp2_with fail
  go_loopw [5, 9] (fun u i wr => ∃ k : Nat, k ≤ n ∧ i = .int .i64 k ∧ Own wr w.heap.size 3 u (ordTo T k) ∧ Below w.heap.size w wr) (fun _ i _ => n - (intOf i).toNat)
  case atStart => exact ⟨0, by omega, rfl, Own.nil _ _ _, Below.refl _ _⟩
  case round =>
    obtain ⟨k, hk, rfl, hown, hB⟩ := hrel
    have hsz := hB.size
    obtain ⟨a5, n5, c5, rfl, HN5, hn5⟩ := hown.ints.open
    obtain rfl : n5 = k := by rw [← HN5.out, ordTo_len]
    have hmr := hm.below hB hg
    by_cases hlt : n5 < n
    · have hk60 : (n5 : Int) < 60 := by omega
      go_wp2_with fail
      go_loopw [7] (fun t wx => ∃ m : Nat, m ≤ n5 ∧ t = .int .i64 m ∧ Hid (∀ (j : Nat) (x : Int), j < m → (ordTo T n5)[j]? = some x → T n5 x.toNat = false) ∧ ∃ q, wx = wr.drewN q) (fun t _ => n5 - (intOf t).toNat)
      case atStart => exact ⟨0, by omega, rfl, (show Hid (∀ (j : Nat) (x : Int), j < 0 → (ordTo T n5)[j]? = some x → T n5 x.toNat = false) from fun j x h => by omega), 0, rfl⟩
      case round =>
        obtain ⟨m, hm1, rfl, HJ, q, rfl⟩ := hrel
        have hins : ∀ h2 : (∀ x, (ordTo T n5)[m]? = some x → T n5 x.toNat = true), insM (ordTo T n5) m (n5 : Int) = ordTo T (n5 + 1) := by
          intro h2
          rw [ordTo, findIdx_is (by rw [ordTo_len]; exact hm1) HJ.out h2]
        have HINS := Lib.hid hins
        clear hins
        have hio := fun q' => insert_own (wr.drewN q') w.heap.size (.slice a5 n5 c5) (ordTo T n5) (n5 : Int) m (by exact hown) (by exact hsz) (by rw [ordTo_len]; exact hm1) (by rw [ordTo_len]; omega)
        have HIO := Lib.hid hio
        clear hio
        by_cases hlm : m < n5
        · have hd : decide ((m : Int) < (n5 : Int)) = true := by simp; exact hlm
          obtain ⟨b, o, x, rfl, hx, hcx⟩ := hown.ints.at_ hlm
          obtain ⟨x0, x1⟩ := ordTo_mem T n5 x (List.mem_of_getElem? hx.out)
          obtain ⟨y, rfl⟩ := Int.eq_ofNat_of_zero_le x0
          have hy60 : (y : Int) < 60 := by omega
          have hcell := hmr.cell (a := n5) (b := y) (by omega) (by omega)
          generalize hbb : T n5 y = bb at *
          have HBB := Lib.hid hbb
          clear hbb
          cases bb
          · go_wp2_with fail
            go_quiet (fail)
            go_wp2_with fail
            go_roundw
            case rel =>
              refine ⟨m + 1, by omega, by go_num, ?_, _, rfl⟩
              show Hid _
              intro j z hj hz
              by_cases e : j = m
              · subst e
                rw [hx.out] at hz
                cases hz
                exact HBB.out
              · exact HJ.out j z (by omega) hz
            case measure => simp [intOf]; omega
          · go_wp2_with fail
            go_quiet (fail)
            have h2 := HINS.out (fun z hz => by rw [hx.out] at hz; cases hz; exact HBB.out)
            have H2 := Lib.hid h2
            clear h2
            go_wp2_with (go_at_call 110; refine (HIO.out _).mono ?_; rintro e w3 ⟨v3, rfl, hown3, hb3⟩)
            go_roundw
            case rel => exact ⟨n5 + 1, by omega, by go_num, by rw [← H2.out]; exact hown3, (hB.drewN' _).trans hb3⟩
            case measure => simp [intOf]; omega
        · obtain rfl : m = n5 := by omega
          have hd : decide ((m : Int) < (m : Int)) = false := by simp
          go_wp2_with fail
          go_quiet (fail)
          have h2 := HINS.out (fun z hz => by rw [List.getElem?_eq_none (by rw [ordTo_len]; exact Nat.le_refl _)] at hz; cases hz)
          have H2 := Lib.hid h2
          clear h2
          go_wp2_with (go_at_call 110; refine (HIO.out _).mono ?_; rintro e w3 ⟨v3, rfl, hown3, hb3⟩)
          go_roundw
          case rel => exact ⟨m + 1, by omega, by go_num, by rw [← H2.out]; exact hown3, (hB.drewN' _).trans hb3⟩
          case measure => simp [intOf]; omega
    · obtain rfl : n5 = n := by omega
      go_wp2_with fail
      go_ret
      exact ⟨_, rfl, hown, hB⟩
end Go.Proofs.Ytgajaccnjjiiaaa
