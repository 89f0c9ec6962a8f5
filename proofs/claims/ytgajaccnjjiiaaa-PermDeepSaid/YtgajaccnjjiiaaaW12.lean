/- flat: the values in the order of their size. -/
import Derived.Test.YtgajaccnjjiiaaaW11
import Derived.Sort.OwnSortedInts
import Derived.Lib.OwnBridge
namespace Go.Proofs.Ytgajaccnjjiiaaa
open Go.RowKit

theorem getD_of {zs : List Int} {j : Nat} (h : j < zs.length) : zs[j]? = some (zs.getD j 0) := by
  simp [List.getD, h]

theorem clone_any (v : Value) (p : List Int) (w : World) (hv : Ints w v p) (h0 : 0 < p.length) (hl : p.length ≤ 1000000) :
    Calls Try.prog 92 #[v] w fun e w' => ∃ v', e = .returned v' ∧ Own w' w.heap.size 3 v' p ∧ Below w.heap.size w w' := by
  obtain ⟨a, cap, rfl, _, h⟩ := hv
  obtain ⟨b, o, rfl, hlt, hc⟩ := h h0
  refine (Try.slices_Clone_int b o p.length cap p w (Nat.le_refl _) (by omega) (fun j hj => hc j _ (getD_of hj))).mono ?_
  rintro e w' ⟨v', rfl, h1, _, h2⟩
  rw [List.take_length] at h1
  exact ⟨v', rfl, h1, h2⟩

def sorted (p : List Int) : List Int := p.mergeSort fun x y => decide (x ≤ y)
theorem sorted_perm (p : List Int) : (sorted p).Perm p := List.mergeSort_perm _ _
theorem sorted_pairwise (p : List Int) : (sorted p).Pairwise (· ≤ ·) := by
  have := List.pairwise_mergeSort (le := fun x y : Int => decide (x ≤ y)) (by intro a b c h1 h2; simp at *; omega) (by intro a b; simp; omega) p
  refine this.imp ?_
  intro a b h; simpa using h

theorem sort_own (w : World) (base g n cap : Nat) (zs : List Int) (h : Own w base 3 (.slice (some ⟨g, 0, none⟩) n cap) zs) (hn : zs.length = n) (hl : n ≤ 1000000) (hb : base ≤ w.heap.size) :
    Calls Try.prog 113 #[.slice (some ⟨g, 0, none⟩) n cap] w fun e w' => e = .returned (.tuple #[]) ∧ Own w' base 3 (.slice (some ⟨g, 0, none⟩) n cap) (sorted zs) ∧ Below base w w' := by
  subst hn
  obtain ⟨g', cap', hv, h1, h2, h3, h4, h5, h6⟩ := Lib.holds_of_ownsRow (enc := Value.int .i64) h (by simp)
  obtain ⟨rfl, rfl⟩ : g = g' ∧ cap = cap' := by simpa using hv
  rcases h.2 with ⟨h', _⟩ | ⟨g'', cap', cur, hv', hbase, hg, hn, hm, hs, ht⟩
  · simp at h'
  obtain ⟨rfl, rfl⟩ : g = g'' ∧ cap = cap' := by simpa using hv'
  refine (Try.slices_Sort_int g 0 cap zs w h6 h2 (by omega)).mono ?_
  rintro e w' ⟨rfl, q, os, rfl⟩
  refine ⟨rfl, ?_, ?_⟩
  · have := ownsRow_sortedI (n := q) (os := os) (ss := zs) (ts := sorted zs) (by rw [(sorted_perm zs).length_eq]) hbase hg hn hm hs
    have e : (sorted zs).length = zs.length := (sorted_perm zs).length_eq
    unfold Own
    rw [e]
    exact this
  · exact (Below.refl base w).grown (grownBy_sortedI _) hb (fun k hk => by cases hk; exact hbase)

/-- the values in the order of their size -/
def flatM (p : List Int) : List Int := p.map (fun x => ((p.countP (· < x) : Nat) : Int))
theorem flatM_len (p : List Int) : (flatM p).length = p.length := by simp [flatM]
theorem flatM_take {p : List Int} {k : Nat} {x : Int} (h : p[k]? = some x) : (flatM p).take (k + 1) = (flatM p).take k ++ [((p.countP (· < x) : Nat) : Int)] := by
  apply take_snoc'
  simp [flatM, h]

set_option maxRecDepth 100000 in
set_option maxHeartbeats 2000000 in
theorem flat_any (v : Value) (p : List Int) (w : World) (hv : Ints w v p) (h0 : 0 < p.length) (hl : p.length ≤ 1000) :
    Calls Try.prog 102 #[v] w fun e w' => ∃ u, e = .returned u ∧ Own w' w.heap.size 3 u (flatM p) ∧ Below w.heap.size w w' := by
  obtain ⟨ad, n, cap, rfl, HN, hn'⟩ := hv.open
  have hl' : n ≤ 1000 := by have := HN.out; omega
  have h0' : 0 < n := by have := HN.out; omega
  clear h0 hl
  go_enter Try.func102, Try.ntmps102
  go_wp2_with (go_at_call 92; refine (clone_any _ p _ hv (by rw [HN.out]; exact h0') (by rw [HN.out]; omega)).mono ?_; rintro e w1 ⟨v1, rfl, hown1, hb1⟩; obtain ⟨g, c1, rfl, hg1, hg2, hfz, hcs⟩ := Own.open hown1 HN.out h0'; clear hfz hcs)
  have hz1 := hb1.size
  go_wp2_with (go_at_call 113; refine (sort_own _ _ _ _ _ _ hown1 HN.out (by omega) hz1).mono ?_; rintro e w2 ⟨rfl, hown2, hb2⟩)
  have hB2 := hb1.trans hb2
  have hz2 := hB2.size
  have hsl : (sorted p).length = n := by rw [(sorted_perm p).length_eq]; exact HN.out
  obtain ⟨g', c1', hv', hq1, hq2, hfz, hcs⟩ := Own.open hown2 hsl h0'
  obtain ⟨rfl, rfl⟩ : g = g' ∧ c1 = c1' := by simpa using hv'
  have HCS := Lib.hid hcs
  have HSL := Lib.hid hsl
  clear hcs hfz hv' hown1 hown2 hb1 hb2 hsl
  go_loopw [4, 15] (fun u i wr => ∃ k : Nat, k ≤ n ∧ i = .int .i64 k ∧ Own wr w2.heap.size 3 u ((flatM p).take k) ∧ Below w2.heap.size w2 wr) (fun _ i _ => n - (intOf i).toNat)
  case atStart => exact ⟨0, by omega, rfl, by simpa using Own.nil _ _ _, Below.refl _ _⟩
  case round =>
    obtain ⟨k, hk, rfl, hown, hB⟩ := hrel
    have hsz := hB.size
    by_cases hlt : k < n
    · obtain ⟨b, o, x, rfl, hx, cx⟩ := (hv.below (hB2.trans (hB.mono hz2)) (Nat.le_refl _)).at_ hlt
      have hbs := Try.slices_BinarySearch_int g 0 n c1 (sorted p) x wr (by rw [HSL.out]; exact Nat.le_refl _) (by omega)
        (fun j hj => by rw [Nat.zero_add]; exact (hB.cell (p := ⟨g, j, none⟩) hq2).trans (HCS.out j _ (getD_of hj)))
        (by rw [List.take_of_length_le (by rw [HSL.out]; exact Nat.le_refl _)]; exact sorted_pairwise p)
      rw [List.take_of_length_le (by rw [HSL.out]; exact Nat.le_refl _), (sorted_perm p).countP_eq] at hbs
      have hft := flatM_take hx.out
      have hlen : ((flatM p).take k).length < 1000000000000 := by simp; omega
      have HLEN := Lib.hid hlen
      generalize p.countP (fun y => decide (y < x)) = c at hbs hft
      have HFT := Lib.hid hft
      clear hft hlen
      go_wp2_with (first | (go_at_call 114; refine hbs.mono ?_; rintro e w' ⟨rfl, q, rfl⟩) | (at_builtin; refine wpList_app1 Try.info3 Try.underlying22 (World.ownsRow.keep hown ((Below.refl _ _).drewN' _)) hsz HLEN.out rfl _ _ rfl rfl rfl ?_; intro v' w3 hown3 hgrow3 hb3 hsh))
      go_roundw
      case rel => exact ⟨k + 1, by omega, by go_num, by rw [HFT.out]; exact hown3, (hB.drewN' _).trans hb3⟩
      case measure => simp [intOf]; omega
    · obtain rfl : k = n := by omega
      go_wp2_with fail
      go_ret
      refine ⟨_, rfl, ?_, hB2.trans (hB.mono hz2)⟩
      rw [List.take_of_length_le (by rw [flatM_len, HN.out]; exact Nat.le_refl _)] at hown
      exact ⟨hown.1, by
        rcases hown.2 with h | ⟨g, cap, cur, h1, h2, h3⟩
        · exact .inl h
        · exact .inr ⟨g, cap, cur, h1, by omega, h3⟩⟩
end Go.Proofs.Ytgajaccnjjiiaaa
