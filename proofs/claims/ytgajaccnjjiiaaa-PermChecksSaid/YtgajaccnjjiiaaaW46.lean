/- PermOrders: the walk. -/
import Derived.Test.YtgajaccnjjiiaaaW45
import Derived.Test.YtgajaccnjjiiaaaW17
import Derived.Test.YtgajaccnjjiiaaaW18
import Derived.Test.YtgajaccnjjiiaaaW2
namespace Go.Proofs.Ytgajaccnjjiiaaa
open Go.RowKit

/-- rows that still stand, at a world that wrote nothing old -/
def St (w : World) (ps : List (Value × List Int)) (W : World) : Prop := Below w.heap.size w W ∧ ∀ x ∈ ps, Ints W x.1 x.2
theorem St.step {w W W' : World} {ps : List (Value × List Int)} (h : St w ps W) (hb : Below W.heap.size W W') : St w ps W' :=
  ⟨h.1.trans (hb.mono h.1.size), fun x hx => (h.2 x hx).below hb (Nat.le_refl _)⟩
theorem St.drewN {w W : World} {ps : List (Value × List Int)} (h : St w ps W) (n : Nat) : St w ps (W.drewN n) := h.step ((Below.refl _ _).drewN' n)
theorem St.add {w W W' : World} {ps : List (Value × List Int)} (h : St w ps W) (hb : Below W.heap.size W W') {v : Value} {xs : List Int} (hv : Ints W' v xs) : St w ((v, xs) :: ps) W' := by
  refine ⟨(h.step hb).1, fun x hx => ?_⟩
  rcases List.mem_cons.1 hx with rfl | hx
  · exact hv
  · exact (h.step hb).2 x hx
theorem St.one {w : World} {v : Value} {xs : List Int} (h : Ints w v xs) : St w [(v, xs)] w := ⟨Below.refl _ _, fun x hx => by obtain rfl := List.mem_singleton.1 hx; exact h⟩
theorem St.get {w W : World} {ps : List (Value × List Int)} (h : St w ps W) (i : Nat) {x : Value × List Int} (hx : ps[i]? = some x) : Ints W x.1 x.2 := h.2 x (List.mem_of_getElem? hx)
theorem same_self (v u : Value) (xs : List Int) (w : World) (hv : Ints w v xs) (hu : Ints w u xs) :
    Calls Try.prog 17 #[v, u] w fun e w' => e = .returned (.bool true) ∧ Below w.heap.size w w' := by
  refine (same_any v u xs xs w hv hu).mono ?_
  rintro e w' ⟨rfl, n, rfl⟩
  exact ⟨by simp, (Below.refl _ _).drewN' n⟩

set_option maxRecDepth 100000 in
set_option maxHeartbeats 8000000 in
theorem PermOrders_any (v u : Value) (l m : List Int) (w : World) (hv : Ints w v l) (hu : Ints w u m) (hnil : ∀ n c, u = .slice none n c → c = 0) :
    Calls Try.prog 11 #[v, u] w fun e w' => e = .returned (.bool true) ∧ Below w.heap.size w w' := by
  have hcp := tameM_check l 12 (by omega) (by omega)
  have hlp : 1 ≤ (tameM l 12).length ∧ (tameM l 12).length ≤ 12 := by rw [tameM_len]; unfold tameN; omega
  have htm : Calls Try.prog 14 #[v, .int .i64 12] w fun e w' => ∃ u, e = .returned u ∧ Own w' w.heap.size 3 u (tameM l 12) ∧ Below w.heap.size w w' := tame_any v l 12 w hv (by omega)
  generalize tameM l 12 = p at *
  obtain ⟨n, hn⟩ : ∃ n, n = p.length := ⟨_, rfl⟩
  have hcq : checkM (likeM m n) = 0 := tameM_check _ n (by omega) (by omega)
  have hlq := likeM_len m n (by omega)
  have hlk := fun W (h : Ints W u m) => like_any u m n W h hnil (by omega) (by omega)
  generalize likeM m n = q at *
  have hc := ck2_ok hcp hcq (by omega)
  have hwk := weak_same (p := p) (q := q) (perm_range hcp)
  have hst := strong_same (p := p) (q := q) (perm_range hcp)
  have hA := fun v u W (h : Ints W v p) (k : Ints W u q) => After_any v u p q W h k hc
  have hA2 := fun v u W (h : Ints W v p) (k : Ints W u q) => rAfter_any v u p q W h k hc
  have hW := fun v u W (h : Ints W v p) (k : Ints W u q) => Weak_any v u p q W h k hc
  have hW2 := fun v u W (h : Ints W v p) (k : Ints W u q) => rWeak_any v u p q W h k hc
  have hS := fun v u W (h : Ints W v p) (k : Ints W u q) => Strong_any v u p q W h k hc
  have hS2 := fun v u W (h : Ints W v p) (k : Ints W u q) => rStrong_any v u p q W h k hc
  have hJ := fun v u W (h : Ints W v p) (k : Ints W u q) => Join_any v u p q W h k hc
  have hJ2 := fun v u W (h : Ints W v p) (k : Ints W u q) => rJoin_any v u p q W h k hc
  have hM := fun v u W (h : Ints W v p) (k : Ints W u q) => Meet_any v u p q W h k hc
  have hM2 := fun v u W (h : Ints W v p) (k : Ints W u q) => rMeet_any v u p q W h k hc
  rw [hwk] at hW2
  rw [hst] at hS2
  generalize afterM p q = A at *
  generalize weakM p q = B1 at *
  generalize strongM p q p.length = B2 at *
  generalize joinM p q = J at *
  generalize meetM p q = M at *
  clear hwk hst hc hcp hcq
  have HTM := Lib.hid htm
  have HLK := Lib.hid hlk
  have HA := Lib.hid hA
  have HA2 := Lib.hid hA2
  have HW := Lib.hid hW
  have HW2 := Lib.hid hW2
  have HS := Lib.hid hS
  have HS2 := Lib.hid hS2
  have HJ := Lib.hid hJ
  have HJ2 := Lib.hid hJ2
  have HM := Lib.hid hM
  have HM2 := Lib.hid hM2
  have HU := Lib.hid hu
  clear htm hlk hA hA2 hW hW2 hS hS2 hJ hJ2 hM hM2
  obtain ⟨au, nu, cu, rfl, HNU, hnu⟩ := hu.open
  clear hnil hv hu
  have HNP := Lib.hid hn
  have HLQ := Lib.hid hlq
  clear hn hlq hlp
  go_enter Try.func11, Try.ntmps11
  go_wp2_with (first
    | (go_at_call 14; refine HTM.out.mono ?_; rintro e w1 ⟨u1, rfl, ho1, hb1⟩; have hi1 := ho1.ints; obtain ⟨a1, n1, c1, rfl, HN1, hn1⟩ := hi1.open; obtain rfl : n1 = n := HN1.out.symm.trans HNP.out.symm; have s1 := (St.one HU.out).add hb1 hi1)
    | (go_at_call 50; refine (HLK.out _ (s1.get 1 rfl)).mono ?_; rintro e w2 ⟨u2, rfl, ho2, hb2⟩; have s2 := s1.add hb2 ho2.ints; have hi2 := ho2.ints; obtain ⟨a2, n2, c2, rfl, HN2, hn2⟩ := hi2.open)
    | (go_at_call 51; refine (HA.out _ _ _ (s2.get 1 rfl) (s2.get 0 rfl)).mono ?_; rintro e w3 ⟨u3, rfl, ho3, hb3⟩; have s3 := s2.add hb3 ho3.ints; have hi3 := ho3.ints; obtain ⟨a3, n3, c3, rfl, HN3, hn3⟩ := hi3.open)
    | (go_at_call 52; refine (HW.out _ _ _ (s3.get 2 rfl) (s3.get 1 rfl)).mono ?_; rintro e w4 ⟨rfl, hb4⟩; have s4 := s3.step hb4)
    | (go_at_call 53; refine (HS.out _ _ _ (s4.get 2 rfl) (s4.get 1 rfl)).mono ?_; rintro e w5 ⟨rfl, hb5⟩; have s5 := s4.step hb5)
    | (go_at_call 54; refine (HJ.out _ _ _ (s5.get 2 rfl) (s5.get 1 rfl)).mono ?_; rintro e w6 ⟨u6, rfl, ho6, hb6⟩; have s6 := s5.add hb6 ho6.ints; have hi6 := ho6.ints; obtain ⟨a6, n6, c6, rfl, HN6, hn6⟩ := hi6.open)
    | (go_at_call 55; refine (HM.out _ _ _ (s6.get 3 rfl) (s6.get 2 rfl)).mono ?_; rintro e w7 ⟨u7, rfl, ho7, hb7⟩; have s7 := s6.add hb7 ho7.ints; have hi7 := ho7.ints; obtain ⟨a7, n7, c7, rfl, HN7, hn7⟩ := hi7.open)
    | (go_at_call 56; refine (HA2.out _ _ _ (s7.get 4 rfl) (s7.get 3 rfl)).mono ?_; rintro e w8 ⟨u8, rfl, ho8, hb8⟩; have s8 := s7.add hb8 ho8.ints; have hi8 := ho8.ints; obtain ⟨a8, n8, c8, rfl, HN8, hn8⟩ := hi8.open)
    | (go_at_call_of 17 (Value.slice a3 n3 c3); refine (same_self _ _ A _ (s8.get 3 rfl) (s8.get 0 rfl)).mono ?_; rintro e w9 ⟨rfl, hb9⟩; have s9 := s8.step hb9)
    | (go_at_call 57; refine (HW2.out _ _ _ (s9.get 5 rfl) (s9.get 4 rfl)).mono ?_; rintro e w10 ⟨rfl, hb10⟩; have s10 := s9.step hb10)
    | (go_at_call 58; refine (HS2.out _ _ _ (s10.get 5 rfl) (s10.get 4 rfl)).mono ?_; rintro e w11 ⟨rfl, hb11⟩; have s11 := s10.step hb11)
    | (go_at_call 59; refine (HJ2.out _ _ _ (s11.get 5 rfl) (s11.get 4 rfl)).mono ?_; rintro e w12 ⟨u12, rfl, ho12, hb12⟩; have s12 := s11.add hb12 ho12.ints; have hi12 := ho12.ints; obtain ⟨a12, n12, c12, rfl, HN12, hn12⟩ := hi12.open)
    | (go_at_call_of 17 (Value.slice a6 n6 c6); refine (same_self _ _ J _ (s12.get 3 rfl) (s12.get 0 rfl)).mono ?_; rintro e w13 ⟨rfl, hb13⟩; have s13 := s12.step hb13)
    | (go_at_call 60; refine (HM2.out _ _ _ (s13.get 6 rfl) (s13.get 5 rfl)).mono ?_; rintro e w14 ⟨u14, rfl, ho14, hb14⟩; have s14 := s13.add hb14 ho14.ints; have hi14 := ho14.ints; obtain ⟨a14, n14, c14, rfl, HN14, hn14⟩ := hi14.open)
    | (go_at_call_of 17 (Value.slice a7 n7 c7); refine (same_self _ _ M _ (s14.get 3 rfl) (s14.get 0 rfl)).mono ?_; rintro e w15 ⟨rfl, hb15⟩; have s15 := s14.step hb15)
    | (go_at_call 22; refine (awake_any _).mono ?_; rintro e w16 ⟨rfl, hb16⟩; have s16 := s15.step hb16))
  go_ret
  exact ⟨rfl, s16.1⟩
end Go.Proofs.Ytgajaccnjjiiaaa
