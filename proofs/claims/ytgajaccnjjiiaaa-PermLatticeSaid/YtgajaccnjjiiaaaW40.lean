/- Join: the walk. (Printed by gen40.py.) -/
import Derived.Test.YtgajaccnjjiiaaaW39
namespace Go.Proofs.Ytgajaccnjjiiaaa
open Go.RowKit

/-- what both tables hold, by the program's steps -/
def or2 (X Y : Nat → Nat → Bool) (a : Nat) : Nat → Nat → Nat → Bool
  | 0 => X
  | b + 1 => upd (or2 X Y a b) a b (or2 X Y a b a b || Y a b)
def or1 (X Y : Nat → Nat → Bool) : Nat → Nat → Nat → Bool
  | 0 => X
  | a + 1 => or2 (or1 X Y a) Y a a
/-- what follows from a table, step by step -/
def cl3 (T : Nat → Nat → Bool) (b a : Nat) : Nat → Nat → Nat → Bool
  | 0 => T
  | c + 1 => upd (cl3 T b a c) a c (cl3 T b a c a c || (cl3 T b a c a b && cl3 T b a c b c))
def cl2 (T : Nat → Nat → Bool) (n b : Nat) : Nat → Nat → Nat → Bool
  | 0 => T
  | a + 1 => cl3 (cl2 T n b a) b a n
def cl1 (T : Nat → Nat → Bool) (n : Nat) : Nat → Nat → Nat → Bool
  | 0 => T
  | b + 1 => cl2 (cl1 T n b) n b n
def joinM (p q : List Int) : List Int := ordTo (cl1 (or1 (invT p) (invT q) p.length) p.length p.length) p.length

set_option maxHeartbeats 1000000 in
theorem Join_bad (v u : Value) (p q : List Int) (w : World) (hv : Ints w v p) (hu : Ints w u q) (hc : ck2 p q ≠ 0) :
    Calls Try.prog 54 #[v, u] w fun e w' => e = .returned (.tuple #[.slice none 0 0, .int .i64 (ck2 p q)]) ∧ Below w.heap.size w w' := by
  have hb1 : (ck2 p q != 0) = true := by simpa using hc
  go_enter Try.func54, Try.ntmps54
  go_wp2_with (go_at_call 88; refine (checkTwo_any _ _ p q _ hv hu).mono ?_; rintro e w1 ⟨rfl, hb⟩)
  go_ret2
  exact ⟨rfl, hb⟩

set_option maxRecDepth 1000000 in
set_option maxHeartbeats 8000000 in
theorem Join_any (v u : Value) (p q : List Int) (w : World) (hv : Ints w v p) (hu : Ints w u q) (hc : ck2 p q = 0) :
    Calls Try.prog 54 #[v, u] w fun e w' => ∃ r, e = .returned (.tuple #[r, .int .i64 0]) ∧ Own w' w.heap.size 3 r (joinM p q) ∧ Below w.heap.size w w' := by
  obtain ⟨hcp, hcq, hlen⟩ := ck2_zero hc
  obtain ⟨h1, h2, hrp, _⟩ := check_zero hcp
  have hrq := perm_range hcq
  have hlq : q.length ≤ 60 := by omega
  obtain ⟨av, n, cv, rfl, HN, hn'⟩ := hv.open
  obtain ⟨au, n2, cu, rfl, HN2, hn2'⟩ := hu.open
  rw [HN.out] at h1 h2
  obtain rfl : n2 = n := by rw [← HN.out, ← HN2.out, hlen]
  have hjm : joinM p q = ordTo (cl1 (or1 (invT p) (invT q) n2) n2 n2) n2 := by unfold joinM; rw [HN.out]
  have HJM := Lib.hid hjm
  have HRP := Lib.hid hrp
  have HRQ := Lib.hid hrq
  have HC := Lib.hid hc
  have HLQ := Lib.hid hlq
  clear hcp hcq hlen hrp hrq hc hlq hjm
  generalize hX : invT p = X at *
  generalize hY : invT q = Y at *
  have HX := Lib.hid hX
  have HY := Lib.hid hY
  clear hX hY
  go_enter Try.func54, Try.ntmps54
  go_wp2_with (first
    | (go_at_call 88; refine (checkTwo_any _ _ p q _ hv hu).mono ?_; rw [HC.out]; rintro e w1 ⟨rfl, hb1⟩; have hv1 := hv.below hb1 (Nat.le_refl _); have hu1 := hu.below hb1 (Nat.le_refl _))
    | (go_at_call_of 89 (Value.slice av n2 cv); refine (inverted_any _ p _ hv1 HRP.out (by rw [HN.out]; exact h2)).mono ?_; rw [HX.out]; rintro e w2 ⟨g, rfl, hg, hm2, hb2⟩; have hB2 := hb1.trans (hb2.mono hb1.size); have hu2 := hu1.below hb2 (Nat.le_refl _))
    | (go_at_call_of 89 (Value.slice au n2 cu); refine (inverted_any _ q _ hu2 HRQ.out HLQ.out).mono ?_; rw [HY.out]; rintro e w3 ⟨h, rfl, hh, hm3, hb3⟩; have hB3 := hB2.trans (hb3.mono hB2.size); have hm23 := hm2.keep hb3; have hgl := hm2.lt))
  have hgh : g ≠ h := by omega
  have hwg : w.heap.size ≤ g := Nat.le_trans hb1.size hg
  have HM1 := Lib.hid hm23
  have HM2 := Lib.hid hm3
  clear hv1 hu1 hb1 hb2 hb3 hB2 hu2 hm2 hm3 hm23 hg hh hgl hv hu
  go_loopw [28] (fun i wr => ∃ a : Nat, a ≤ n2 ∧ i = .int .i64 a ∧ Hid (Mat wr g (or1 X Y a)) ∧ Hid (Mat wr h Y) ∧ Below w.heap.size w wr) (fun i _ => n2 - (intOf i).toNat)
  case atStart => exact ⟨0, by omega, rfl, HM1, HM2, hB3⟩
  case round =>
    clear HM1 HM2 hB3
    obtain ⟨a, ha, rfl, HM1, HM2, hB⟩ := hrel
    by_cases hlt : a < n2
    · go_wp2_with fail
      go_loopw [32] (fun j wx => ∃ b : Nat, b ≤ a ∧ j = .int .i64 b ∧ Hid (Mat wx g (or2 (or1 X Y a) Y a b)) ∧ Hid (Mat wx h Y) ∧ Below w.heap.size w wx) (fun j _ => a - (intOf j).toNat)
      case atStart => exact ⟨0, by omega, rfl, HM1, HM2, hB⟩
      case round =>
        clear HM1 HM2 hB
        obtain ⟨b, hb, rfl, HM1, HM2, hB⟩ := hrel
        by_cases hlb : b < a
        · go_upto_region 12 with fail
          refine PJ_12 (a := a) (b := b) HM1.out HM2.out (by omega) (by omega) hgh hwg ?_
          intro y35 y36 y37 y38 y39 y40 y41 y42 y43 y44 y45 y46 y47 y48 y49 y50 y51 y52 y53 y54 y55 y56 wx hm1 hm2 hbx
          have hB1 := hB.trans hbx
          have HN1 := Lib.hid hm1
          have HN2 := Lib.hid hm2
          clear HM1 HM2 hB hm1 hm2 hbx
          go_wp2_with fail
          go_roundw
          case rel => exact ⟨b + 1, by omega, by go_num, HN1, HN2, hB1⟩
          case measure => simp [intOf]; omega
        · obtain rfl : b = a := by omega
          go_wp2_with fail
          go_roundw
          case rel => exact ⟨b + 1, by omega, by go_num, HM1, HM2, hB⟩
          case measure => simp [intOf]; omega
    · obtain rfl : a = n2 := by omega
      clear HM2
      go_wp2_with fail
      go_loopw [60] (fun i wy => ∃ b : Nat, b ≤ a ∧ i = .int .i64 b ∧ Hid (Mat wy g (cl1 (or1 X Y a) a b)) ∧ Below w.heap.size w wy) (fun i _ => a - (intOf i).toNat)
      case atStart => exact ⟨0, by omega, rfl, HM1, hB⟩
      case round =>
        clear HM1 hB
        obtain ⟨b, hb, rfl, HM1, hB⟩ := hrel
        by_cases hlb : b < a
        · go_wp2_with fail
          go_loopw [64] (fun i wz => ∃ c : Nat, c ≤ a ∧ i = .int .i64 c ∧ Hid (Mat wz g (cl2 (cl1 (or1 X Y a) a b) a b c)) ∧ Below w.heap.size w wz) (fun i _ => a - (intOf i).toNat)
          case atStart => exact ⟨0, by omega, rfl, HM1, hB⟩
          case round =>
            clear HM1 hB
            obtain ⟨c, hc, rfl, HM1, hB⟩ := hrel
            by_cases hlc : c < a
            · go_wp2_with fail
              go_loopw [68] (fun i wq => ∃ d : Nat, d ≤ a ∧ i = .int .i64 d ∧ Hid (Mat wq g (cl3 (cl2 (cl1 (or1 X Y a) a b) a b c) b c d)) ∧ Below w.heap.size w wq) (fun i _ => a - (intOf i).toNat)
              case atStart => exact ⟨0, by omega, rfl, HM1, hB⟩
              case round =>
                clear HM1 hB
                obtain ⟨d, hd, rfl, HM1, hB⟩ := hrel
                by_cases hld : d < a
                · go_upto_region 24 with fail
                  refine PJ_24 (b := b) (a := c) (c := d) HM1.out (by omega) (by omega) (by omega) hwg ?_
                  intro y71 y72 y73 y74 y75 y76 y77 y78 y79 y80 y81 y82 y83 y84 y85 y86 y87 y88 y89 y90 y91 y92 y93 y94 y95 y96 y97 y98 y99 y100 y101 wx hm1 hbx
                  have hB1 := hB.trans hbx
                  have HN1 := Lib.hid hm1
                  clear HM1 hB hm1 hbx
                  go_wp2_with fail
                  go_roundw
                  case rel => exact ⟨d + 1, by omega, by go_num, HN1, hB1⟩
                  case measure => simp [intOf]; omega
                · obtain rfl : d = a := by omega
                  go_wp2_with fail
                  go_roundw
                  case rel => exact ⟨c + 1, by omega, by go_num, HM1, hB⟩
                  case measure => simp [intOf]; omega
            · obtain rfl : c = a := by omega
              go_wp2_with fail
              go_roundw
              case rel => exact ⟨b + 1, by omega, by go_num, HM1, hB⟩
              case measure => simp [intOf]; omega
        · obtain rfl : b = a := by omega
          go_wp2_with (go_at_call 90; refine (ordered_any g _ b _ HM1.out h2).mono ?_; rw [← HJM.out]; rintro e w9 ⟨r, rfl, hown, hb9⟩)
          go_ret2
          exact ⟨_, rfl, Own.mono hown hB.size, hB.trans (hb9.mono hB.size)⟩
end Go.Proofs.Ytgajaccnjjiiaaa
