/- PermLattice: the walk. -/
import Derived.Test.YtgajaccnjjiiaaaW63
import Derived.Test.YtgajaccnjjiiaaaW20
namespace Go.Proofs.Ytgajaccnjjiiaaa
open Go.RowKit

theorem same_b (v u : Value) (xs ys : List Int) (b : Bool) (w : World) (hv : Ints w v xs) (hu : Ints w u ys) (hb : decide (xs = ys) = b) :
    Calls Try.prog 17 #[v, u] w fun e w' => e = .returned (.bool b) ∧ Below w.heap.size w w' := by
  refine (same_any v u xs ys w hv hu).mono ?_
  rintro e w' ⟨rfl, n, rfl⟩
  exact ⟨by rw [hb], (Below.refl _ _).drewN' n⟩
theorem check_of {p : List Int} (h : IsPerm p) (h0 : 0 < p.length) (h60 : p.length ≤ 60) : checkM p = 0 := (checkM_iff p).2 ⟨⟨h0, h60⟩, h⟩

set_option maxRecDepth 100000 in
set_option maxHeartbeats 32000000 in
theorem PermLattice_any (v u t : Value) (l m n0 : List Int) (w : World) (hv : Ints w v l) (hu : Ints w u m) (ht : Ints w t n0) (hnil : ∀ n c, u = .slice none n c → c = 0) (hnil2 : ∀ n c, t = .slice none n c → c = 0) :
    Calls Try.prog 12 #[v, u, t] w fun e w' => e = .returned (.bool true) ∧ Below w.heap.size w w' := by
  have hcp := tameM_check l 9 (by omega) (by omega)
  have hlp : 1 ≤ (tameM l 9).length ∧ (tameM l 9).length ≤ 9 := by rw [tameM_len]; unfold tameN; omega
  have htm : Calls Try.prog 14 #[v, .int .i64 9] w fun e w' => ∃ u, e = .returned u ∧ Own w' w.heap.size 3 u (tameM l 9) ∧ Below w.heap.size w w' := tame_any v l 9 w hv (by omega)
  generalize tameM l 9 = p at *
  obtain ⟨n, hn⟩ : ∃ n, n = p.length := ⟨_, rfl⟩
  have hcq : checkM (likeM m n) = 0 := tameM_check _ n (by omega) (by omega)
  have hlq := likeM_len m n (by omega)
  have hlk := fun W (h : Ints W u m) => like_any u m n W h hnil (by omega) (by omega)
  have hcr : checkM (likeM n0 n) = 0 := tameM_check _ n (by omega) (by omega)
  have hlr := likeM_len n0 n (by omega)
  have hlk2 := fun W (h : Ints W t n0) => like_any t n0 n W h hnil2 (by omega) (by omega)
  generalize likeM m n = q at *
  generalize likeM n0 n = r at *
  have hp := ((checkM_iff p).1 hcp).2
  have hq := ((checkM_iff q).1 hcq).2
  have hr := ((checkM_iff r).1 hcr).2
  have hpq : p.length = q.length := by omega
  have hqr : q.length = r.length := by omega
  obtain ⟨jx1, jx2, _⟩ := join_perm hp hq hpq
  obtain ⟨jqr1, jqr2, _⟩ := join_perm hq hr hqr
  have hcx := check_of jx1 (by omega) (by omega)
  have hcqr := check_of jqr1 (by omega) (by omega)
  have c1 := ck2_ok hcp hcq hpq
  have c2 := ck2_ok hcp hcx jx2.symm
  have c3 := ck2_ok hcx hcr (by omega)
  have c4 := ck2_ok hcq hcr hqr
  have c5 := ck2_ok hcp hcqr (by omega)
  have hia := pos_perm hp
  have hib := pos_perm hq
  have hca := check_of hia (by rw [pos_len]; omega) (by rw [pos_len]; omega)
  have hcb := check_of hib (by rw [pos_len]; omega) (by rw [pos_len]; omega)
  have c6 := ck2_ok hca hcb (by rw [pos_len, pos_len, hpq])
  have c7 := ck2_ok hcp hca (by rw [pos_len])
  have hW := fun v u W (h : Ints W v p) (k : Ints W u q) => Weak_any v u p q W h k c1
  have hS := fun v u W (h : Ints W v p) (k : Ints W u q) => Strong_any v u p q W h k c1
  have hJ1 := fun v u W (h : Ints W v p) (k : Ints W u q) => Join_any v u p q W h k c1
  have hM1 := fun v u W (h : Ints W v p) (k : Ints W u q) => Meet_any v u p q W h k c1
  have hM2 := fun v u W (h : Ints W v p) (k : Ints W u (joinM p q)) => Meet_any v u p (joinM p q) W h k c2
  have hJ2 := fun v u W (h : Ints W v (joinM p q)) (k : Ints W u r) => Join_any v u (joinM p q) r W h k c3
  have hJ3 := fun v u W (h : Ints W v q) (k : Ints W u r) => Join_any v u q r W h k c4
  have hJ4 := fun v u W (h : Ints W v p) (k : Ints W u (joinM q r)) => Join_any v u p (joinM q r) W h k c5
  have hI1 := fun v W (h : Ints W v p) => Inverse_any v p W h hcp (by omega)
  have hI2 := fun v W (h : Ints W v q) => Inverse_any v q W h hcq (by omega)
  have hS2 := fun v u W (h : Ints W v (posM p)) (k : Ints W u (posM q)) => Strong_any v u (posM p) (posM q) W h k c6
  have hB1 := fun v W (h : Ints W v p) => baxter_any v p W h hcp (by omega)
  have hB2 := fun v W (h : Ints W v (posM p)) => baxter_any v (posM p) W h hca (by rw [pos_len]; omega)
  have hA := fun v u W (h : Ints W v p) (k : Ints W u (posM p)) => After_any v u p (posM p) W h k c7
  rw [absorb hp hq hpq] at hM2
  rw [join_assoc hp hq hr hpq hqr] at hJ2
  rw [pos_len, strong_inverse hp hq hpq] at hS2
  rw [bx_inverse hp] at hB2
  have hxw := join_weak hp hq hpq
  have hyw := meet_weak hp hq hpq
  have hsw := weak_strong hp hq hpq
  have hbw := fun h d (h1 : d < p.length) => before_of hp hq hpq h h1
  have hbf := fun h v u W (h1 : Ints W v p) (h2 : Ints W u q) => before_any v u p q W h1 h2 hpq (fun d h3 h4 h5 => hbw h d h3 h4 h5)
  have haf := fun d (h : d < p.length) => after_inverse hp h
  have hal : (afterM p (posM p)).length = n := by rw [afterM_len, pos_len, hn]
  rw [← hn] at haf
  generalize strongM p q p.length = bS at *
  generalize (bxFind p).isNone = bX at *
  generalize hbW : weakM p q = bW at *
  generalize joinM (joinM p q) r = xr at *
  generalize joinM p (joinM q r) = other at *
  generalize joinM p q = x at *
  generalize joinM q r = qr at *
  generalize meetM p q = y at *
  generalize afterM p (posM p) = both at *
  generalize posM p = a at *
  generalize posM q = b at *
  have hX1 := fun v u W (h : Ints W v x) (k : Ints W u q) => same_b v u x q bW W h k (by rw [Bool.eq_iff_iff, decide_eq_true_eq]; exact hxw)
  have hY1 := fun v u W (h : Ints W v y) (k : Ints W u p) => same_b v u y p bW W h k (by rw [Bool.eq_iff_iff, decide_eq_true_eq]; exact hyw)
  have HTM := Lib.hid htm
  have HLK := Lib.hid hlk
  have HLK2 := Lib.hid hlk2
  have HW := Lib.hid hW
  have HS := Lib.hid hS
  have HJ1 := Lib.hid hJ1
  have HJ2 := Lib.hid hJ2
  have HJ3 := Lib.hid hJ3
  have HJ4 := Lib.hid hJ4
  have HM1 := Lib.hid hM1
  have HM2 := Lib.hid hM2
  have HI1 := Lib.hid hI1
  have HI2 := Lib.hid hI2
  have HS2 := Lib.hid hS2
  have HB1 := Lib.hid hB1
  have HB2 := Lib.hid hB2
  have HA := Lib.hid hA
  have HX1 := Lib.hid hX1
  have HY1 := Lib.hid hY1
  have HAF := Lib.hid haf
  have HAL := Lib.hid hal
  have HU := Lib.hid hu
  have HT := Lib.hid ht
  clear htm hlk hlk2 hW hS hJ1 hJ2 hJ3 hJ4 hM1 hM2 hI1 hI2 hS2 hB1 hB2 hA hX1 hY1 haf hal hbW
  clear hxw hyw hbw c1 c2 c3 c4 c5 c6 c7 hca hcb hia hib hcx hcqr jx1 jx2 jqr1 jqr2 hp hq hr hcp hcq hcr hpq hqr
  obtain ⟨au, nu, cu, rfl, HNU, hnu⟩ := hu.open
  obtain ⟨at0, nt, ct, rfl, HNT, hnt⟩ := ht.open
  clear hnil hnil2 hv hu ht
  have HNP := Lib.hid hn
  have HLQ := Lib.hid hlq
  have HLR := Lib.hid hlr
  clear hn hlq hlr
  have hn9 : n ≤ 9 := by have := HNP.out; omega
  clear hlp
  cases bW
  case' false =>
    clear hsw hbf
  case' true =>
    obtain rfl := hsw rfl
    have HBF := Lib.hid (hbf rfl)
    clear hbf hsw
  all_goals
    have hun : ∀ b : Bool, ¬ (some undef = some (Value.bool b)) := by intro b h; cases h
    go_enter Try.func12, Try.ntmps12
    go_upto_region 20 with (first
      | (go_at_call 51; refine (HA.out _ _ _ (s21.get 10 rfl) (s21.get 1 rfl)).mono ?_; rintro e w22 ⟨u22, rfl, ho22, hb22⟩; have hi22 := ho22.ints; obtain ⟨a22, n22, c22, rfl, HN22, hn22⟩ := hi22.open; obtain rfl : n22 = n1 := HN22.out.symm.trans HAL.out; have s22 := s21.add hb22 hi22)
      | (go_at_call 15; refine (HB2.out _ _ (s20.get 1 rfl)).mono ?_; rintro e w21 ⟨u21, rfl, hi21, hb21⟩; have s21 := s20.step hb21)
      | (go_at_call 15; refine (HB1.out _ _ (s19.get 10 rfl)).mono ?_; rintro e w20 ⟨u20, rfl, hi20, hb20⟩; have s20 := s19.step hb20)
      | (go_at_call 53; refine (HS2.out _ _ _ (s18.get 1 rfl) (s18.get 0 rfl)).mono ?_; rintro e w19 ⟨rfl, hb19⟩; have s19 := s18.step hb19)
      | (go_at_call 30; refine (HI2.out _ _ (s17.get 8 rfl)).mono ?_; rintro e w18 ⟨u18, rfl, hi18, hb18⟩; obtain ⟨a18, n18, c18, rfl, HN18, hn18⟩ := hi18.open; have s18 := s17.add hb18 hi18)
      | (go_at_call 30; refine (HI1.out _ _ (s16.get 8 rfl)).mono ?_; rintro e w17 ⟨u17, rfl, hi17, hb17⟩; obtain ⟨a17, n17, c17, rfl, HN17, hn17⟩ := hi17.open; have s17 := s16.add hb17 hi17)
      | (go_at_call 61; refine (HBF.out _ _ _ (s15.get 8 rfl) (s15.get 7 rfl)).mono ?_; rintro e w16 ⟨rfl, hb16⟩; have s16 := s15.step hb16)
      | (go_at_call 30; refine (HI1.out _ _ (s15.get 8 rfl)).mono ?_; rintro e w17 ⟨u17, rfl, hi17, hb17⟩; obtain ⟨a17, n17, c17, rfl, HN17, hn17⟩ := hi17.open; have s17 := s15.add hb17 hi17)
      | (go_at_call 17; refine (HY1.out _ _ _ (s14.get 4 rfl) (s14.get 8 rfl)).mono ?_; rintro e w15 ⟨rfl, hb15⟩; have s15 := s14.step hb15)
      | (go_at_call 17; refine (HX1.out _ _ _ (s13.get 5 rfl) (s13.get 7 rfl)).mono ?_; rintro e w14 ⟨rfl, hb14⟩; have s14 := s13.step hb14)
      | (go_at_call 17; refine (same_self _ _ other _ (s12.get 2 rfl) (s12.get 0 rfl)).mono ?_; rintro e w13 ⟨rfl, hb13⟩; have s13 := s12.step hb13)
      | (go_at_call 17; refine (same_self _ _ p _ (s11.get 3 rfl) (s11.get 8 rfl)).mono ?_; rintro e w12 ⟨rfl, hb12⟩; have s12 := s11.step hb12)
      | (go_at_call 54; refine (HJ4.out _ _ _ (s10.get 7 rfl) (s10.get 0 rfl)).mono ?_; rintro e w11 ⟨u11, rfl, ho11, hb11⟩; have hi11 := ho11.ints; obtain ⟨a11, n11, c11, rfl, HN11, hn11⟩ := hi11.open; have s11 := s10.add hb11 hi11)
      | (go_at_call 54; refine (HJ3.out _ _ _ (s9.get 5 rfl) (s9.get 4 rfl)).mono ?_; rintro e w10 ⟨u10, rfl, ho10, hb10⟩; have hi10 := ho10.ints; obtain ⟨a10, n10, c10, rfl, HN10, hn10⟩ := hi10.open; have s10 := s9.add hb10 hi10)
      | (go_at_call 54; refine (HJ2.out _ _ _ (s8.get 2 rfl) (s8.get 3 rfl)).mono ?_; rintro e w9 ⟨u9, rfl, ho9, hb9⟩; have hi9 := ho9.ints; obtain ⟨a9, n9, c9, rfl, HN9, hn9⟩ := hi9.open; have s9 := s8.add hb9 hi9)
      | (go_at_call 55; refine (HM2.out _ _ _ (s7.get 4 rfl) (s7.get 1 rfl)).mono ?_; rintro e w8 ⟨u8, rfl, ho8, hb8⟩; have hi8 := ho8.ints; obtain ⟨a8, n8, c8, rfl, HN8, hn8⟩ := hi8.open; have s8 := s7.add hb8 hi8)
      | (go_at_call 55; refine (HM1.out _ _ _ (s6.get 3 rfl) (s6.get 2 rfl)).mono ?_; rintro e w7 ⟨u7, rfl, ho7, hb7⟩; have hi7 := ho7.ints; obtain ⟨a7, n7, c7, rfl, HN7, hn7⟩ := hi7.open; have s7 := s6.add hb7 hi7)
      | (go_at_call 54; refine (HJ1.out _ _ _ (s5.get 2 rfl) (s5.get 1 rfl)).mono ?_; rintro e w6 ⟨u6, rfl, ho6, hb6⟩; have hi6 := ho6.ints; obtain ⟨a6, n6, c6, rfl, HN6, hn6⟩ := hi6.open; have s6 := s5.add hb6 hi6)
      | (go_at_call 53; refine (HS.out _ _ _ (s4.get 2 rfl) (s4.get 1 rfl)).mono ?_; rintro e w5 ⟨rfl, hb5⟩; have s5 := s4.step hb5)
      | (go_at_call 52; refine (HW.out _ _ _ (s3.get 2 rfl) (s3.get 1 rfl)).mono ?_; rintro e w4 ⟨rfl, hb4⟩; have s4 := s3.step hb4)
      | (go_at_call 50; refine (HLK2.out _ (s2.get 2 rfl)).mono ?_; rintro e w3 ⟨u3, rfl, ho3, hb3⟩; have hi3 := ho3.ints; obtain ⟨a3, n3, c3, rfl, HN3, hn3⟩ := hi3.open; have s3 := s2.add hb3 hi3)
      | (go_at_call 50; refine (HLK.out _ (s1.get 2 rfl)).mono ?_; rintro e w2 ⟨u2, rfl, ho2, hb2⟩; have hi2 := ho2.ints; obtain ⟨a2, n2, c2, rfl, HN2, hn2⟩ := hi2.open; have s2 := s1.add hb2 hi2)
      | (go_at_call 14; refine HTM.out.mono ?_; rintro e w1 ⟨u1, rfl, ho1, hb1⟩; have hi1 := ho1.ints; obtain ⟨a1, n1, c1, rfl, HN1, hn1⟩ := hi1.open; obtain rfl : n1 = n := HN1.out.symm.trans HNP.out.symm; have s1 := ((St.one HU.out).add (Below.refl _ _) HT.out).add hb1 hi1))
    have hAF0 := HAF.out
    have hnd : ∀ d, d < n22 → both[d]? = some (d : Int) := fun d hd => by
      have h1 := vat_get (p := both) (i := d) (by rw [HN22.out]; exact hd)
      rw [hAF0 d hd] at h1
      exact h1
    have HND := Lib.hid hnd
    clear hAF0 hnd
    go_loop [40] (fun iv => ∃ k : Nat, k ≤ n22 ∧ iv = .int .i64 k) (fun iv => n22 - (intOf iv).toNat)
    case atStart => exact ⟨0, by omega, rfl⟩
    case round =>
      obtain ⟨k, hk, rfl⟩ := hrel
      by_cases hlt : k < n22
      · obtain ⟨bb, ob, xx, rfl, hxx, cxx⟩ := (s22.get 0 rfl).at_ hlt
        obtain rfl : xx = (k : Int) := by
          have := hxx.out.symm.trans (HND.out k hlt)
          exact Option.some.inj this
        go_wp2_with fail
        go_round
        case rel => exact ⟨k + 1, by omega, by go_num⟩
        case measure => simp [intOf]; omega
      · obtain rfl : k = n22 := by omega
        (try cases bS) <;> cases bX
        all_goals
          go_wp2_with (go_at_call 22; refine (awake_any _).mono ?_; rintro e wF ⟨rfl, hbF⟩; have sF := s22.step hbF)
          go_ret
          exact ⟨rfl, sF.1⟩
end Go.Proofs.Ytgajaccnjjiiaaa
