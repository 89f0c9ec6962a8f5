/- Meet: the walk. -/
import Derived.Test.YtgajaccnjjiiaaaW40
import Derived.Test.YtgajaccnjjiiaaaW12
namespace Go.Proofs.Ytgajaccnjjiiaaa
open Go.RowKit

theorem reverse_own (w : World) (base g n cap : Nat) (zs : List Int) (h : Own w base 3 (.slice (some ⟨g, 0, none⟩) n cap) zs) (hn : zs.length = n) (_hb : base ≤ w.heap.size) :
    Calls Try.prog 93 #[.slice (some ⟨g, 0, none⟩) n cap] w fun e w' => e = .returned (.tuple #[]) ∧ Own w' base 3 (.slice (some ⟨g, 0, none⟩) n cap) zs.reverse ∧ Below base w w' := by
  subst hn
  obtain ⟨g', cap', hv, h1, h2, h3, h4, h5, h6⟩ := Lib.holds_of_ownsRow (enc := Value.int .i64) h (by simp)
  obtain ⟨rfl, rfl⟩ : g = g' ∧ cap = cap' := by simpa using hv
  have hcap : zs.length ≤ cap ∧ cap ≤ 9223372036854775807 := by
    obtain ⟨hc1, hc2⟩ := (Own.ints h).cap_
    exact ⟨hc1, hc2⟩
  have hgb : base ≤ g := (World.ownsRow.lt h g rfl).1
  refine (Try.slices_Reverse_int g 0 cap zs w h6 (by omega)).mono ?_
  rintro e w' ⟨rfl, q, rfl⟩
  refine ⟨rfl, ?_, Lib.below_putRow (Below.refl _ _) hgb⟩
  have := Lib.ownsRow_putRow (q := q) (k := zs.length) h (List.length_reverse) (Nat.le_refl _)
  rw [List.take_of_length_le (by rw [List.length_reverse]; exact Nat.le_refl _)] at this
  unfold Own
  rw [List.length_reverse]
  exact this

theorem turned_any (v : Value) (p : List Int) (w : World) (hv : Ints w v p) (h0 : 0 < p.length) (hl : p.length ≤ 1000) :
    Calls Try.prog 91 #[v] w fun e w' => ∃ u, e = .returned u ∧ Own w' w.heap.size 3 u p.reverse ∧ Below w.heap.size w w' := by
  obtain ⟨ad, n, cap, rfl, HN, hn'⟩ := hv.open
  go_enter Try.func91, Try.ntmps91
  go_wp2_with (go_at_call 92; refine (clone_any _ p _ hv h0 (by omega)).mono ?_; rintro e w1 ⟨v1, rfl, hown1, hb1⟩; obtain ⟨g, c1, rfl, hg1, hg2, hfz, hcs⟩ := Own.open hown1 rfl h0; clear hfz hcs)
  have hz1 := hb1.size
  go_wp2_with (go_at_call 93; refine (reverse_own _ w.heap.size _ _ _ _ hown1 rfl hz1).mono ?_; rintro e w2 ⟨rfl, hown2, hb2⟩)
  go_ret
  exact ⟨_, rfl, hown2, hb1.trans hb2⟩

theorem isPerm_reverse {p : List Int} (h : IsPerm p) : IsPerm p.reverse := by
  refine ⟨fun x hx => ?_, ?_⟩
  · rw [List.length_reverse]
    exact h.1 x (List.mem_reverse.1 hx)
  · exact List.pairwise_reverse.2 (h.2.imp (fun hne e => hne e.symm))
theorem checkM_reverse {p : List Int} (h : checkM p = 0) : checkM p.reverse = 0 := by
  obtain ⟨h1, h2⟩ := (checkM_iff p).1 h
  exact (checkM_iff _).2 ⟨by rw [List.length_reverse]; exact h1, isPerm_reverse h2⟩
theorem ck2_reverse {p q : List Int} (h : ck2 p q = 0) : ck2 p.reverse q.reverse = 0 := by
  obtain ⟨h1, h2, h3⟩ := ck2_zero h
  exact ck2_ok (checkM_reverse h1) (checkM_reverse h2) (by rw [List.length_reverse, List.length_reverse, h3])

def meetM (p q : List Int) : List Int := (joinM p.reverse q.reverse).reverse
theorem joinM_len (p q : List Int) : (joinM p q).length = p.length := ordTo_len _ _

set_option maxHeartbeats 1000000 in
theorem Meet_bad (v u : Value) (p q : List Int) (w : World) (hv : Ints w v p) (hu : Ints w u q) (hc : ck2 p q ≠ 0) :
    Calls Try.prog 55 #[v, u] w fun e w' => e = .returned (.tuple #[.slice none 0 0, .int .i64 (ck2 p q)]) ∧ Below w.heap.size w w' := by
  have hb1 : (ck2 p q != 0) = true := by simpa using hc
  go_enter Try.func55, Try.ntmps55
  go_wp2_with (go_at_call 88; refine (checkTwo_any _ _ p q _ hv hu).mono ?_; rintro e w1 ⟨rfl, hb⟩)
  go_ret2
  exact ⟨rfl, hb⟩

set_option maxRecDepth 100000 in
set_option maxHeartbeats 4000000 in
theorem Meet_any (v u : Value) (p q : List Int) (w : World) (hv : Ints w v p) (hu : Ints w u q) (hc : ck2 p q = 0) :
    Calls Try.prog 55 #[v, u] w fun e w' => ∃ r, e = .returned (.tuple #[r, .int .i64 0]) ∧ Own w' w.heap.size 3 r (meetM p q) ∧ Below w.heap.size w w' := by
  obtain ⟨hcp, hcq, hlen⟩ := ck2_zero hc
  obtain ⟨h1, h2, _, _⟩ := check_zero hcp
  have hq1 : 0 < q.length := by omega
  have hq2 : q.length ≤ 1000 := by omega
  have hp2 : p.length ≤ 1000 := by omega
  have hj0 : 0 < (joinM p.reverse q.reverse).length := by rw [joinM_len, List.length_reverse]; exact h1
  have hj1 : (joinM p.reverse q.reverse).length ≤ 1000 := by rw [joinM_len, List.length_reverse]; exact hp2
  have HC := Lib.hid hc
  have HR := Lib.hid (ck2_reverse hc)
  have HH := Lib.hid (And.intro h1 (And.intro hp2 (And.intro hq1 (And.intro hq2 (And.intro hj0 hj1)))))
  clear hcp hcq hlen hc h1 h2 hq1 hq2 hp2 hj0 hj1
  obtain ⟨au, nu, cu, rfl, HNU, _⟩ := hu.open
  obtain ⟨av, nv, cv, rfl, HNV, _⟩ := hv.open
  go_enter Try.func55, Try.ntmps55
  go_upto_region 5 with (go_at_call 88; refine (checkTwo_any _ _ p q _ hv hu).mono ?_; rw [HC.out]; rintro e w1 ⟨rfl, hb1⟩; have hv1 := hv.below hb1 (Nat.le_refl _); have hu1 := hu.below hb1 (Nat.le_refl _); have hz1 := hb1.size)
  clear hv hu
  go_upto_region 6 with (first
    | (go_at_call_of 91 (Value.slice av nv cv); refine (turned_any _ p _ hv1 HH.out.1 HH.out.2.1).mono ?_; rintro e w2 ⟨u2, rfl, hown2, hb2⟩; have hu2 := hu1.below hb2 (Nat.le_refl _); have hB2 := hb1.trans (hb2.mono hz1))
    | (go_at_call_of 91 (Value.slice au nu cu); refine (turned_any _ q _ hu2 HH.out.2.2.1 HH.out.2.2.2.1).mono ?_; rintro e w3 ⟨u3, rfl, hown3, hb3⟩; have hi2 := (Own.ints hown2).below hb3 (Nat.le_refl _); have hi3 := Own.ints hown3; have hB3 := hB2.trans (hb3.mono hB2.size))
    | (go_at_call 54; refine (Join_any _ _ _ _ _ hi2 hi3 HR.out).mono ?_; rintro e w4 ⟨u4, rfl, hown4, hb4⟩; have hB4 := hB3.trans (hb4.mono hB3.size); have hi4 := Own.ints hown4))
  go_wp2_with (go_at_call 91; refine (turned_any _ _ _ hi4 HH.out.2.2.2.2.1 HH.out.2.2.2.2.2).mono ?_; rintro e w5 ⟨u5, rfl, hown5, hb5⟩)
  go_ret2
  exact ⟨_, rfl, Own.mono hown5 hB4.size, hB4.trans (hb5.mono hB4.size)⟩
end Go.Proofs.Ytgajaccnjjiiaaa
