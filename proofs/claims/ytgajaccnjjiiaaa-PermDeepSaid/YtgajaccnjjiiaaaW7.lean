import Derived.Test.YtgajaccnjjiiaaaW6
namespace Go.Proofs.Ytgajaccnjjiiaaa
open Go.RowKit

set_option maxHeartbeats 400000 in
theorem baxter_bad (v : Value) (p : List Int) (w : World) (hv : Ints w v p) (hch : checkM p = 20) :
    Calls Try.prog 15 #[v] w fun e w' => e = .returned (.tuple #[.slice none 0 0, .bool false, .int .i64 20]) ∧ Below w.heap.size w w' := by
  go_enter Try.func15, Try.ntmps15
  go_wp2_with (go_at_call 63; refine (check_any _ p _ hv).mono ?_; rw [hch]; rintro e w1 ⟨rfl, hb⟩)
  go_ret3
  exact ⟨rfl, hb⟩

set_option maxRecDepth 100000 in
set_option maxHeartbeats 4000000 in
theorem baxter_any (v : Value) (p : List Int) (w : World) (hv : Ints w v p) (hch : checkM p = 0) (hl : p.length ≤ 1000) :
    Calls Try.prog 15 #[v] w fun e w' => ∃ u, e = .returned (.tuple #[u, .bool (bxFind p).isNone, .int .i64 0]) ∧ Ints w' u (bxOut (bxFind p)) ∧ Below w.heap.size w w' := by
  have HCH := Lib.hid hch; clear hch
  obtain ⟨ad, n, cap, rfl, HN, hn'⟩ := hv.open
  have hl' : n ≤ 1000 := by have := HN.out; omega
  go_enter Try.func15, Try.ntmps15
  go_wp2_with (go_at_call 63; refine (check_any _ p _ hv).mono ?_; rw [HCH.out]; rintro e w1 ⟨rfl, hb⟩)
  have HBW := Lib.hid hb; clear hb
  have hv1 := hv.below HBW.out (Nat.le_refl _)
  clear hv
  go_loopw [20] (fun i wr => ∃ a : Nat, a ≤ n ∧ i = .int .i64 a ∧ (∃ m, wr = w1.drewN m) ∧ Hid (bxFind p = findUp (bx2 p) (n - a) a)) (fun i _ => n - (intOf i).toNat)
  case atStart => exact ⟨0, by omega, rfl, ⟨0, rfl⟩, by rw [← HN.out]; rfl⟩
  case round =>
    obtain ⟨a, ha, rfl, ⟨m, rfl⟩, HA⟩ := hrel
    by_cases hla : a < n
    · go_wp2_with fail
      go_loopw [7] (fun i wr => ∃ j : Nat, a + 1 ≤ j ∧ j ≤ n ∧ i = .int .i64 j ∧ (∃ m, wr = w1.drewN m) ∧ Hid (bx2 p a = findUp (bx1 p a) (n - 1 - j) j)) (fun i _ => n - (intOf i).toNat)
      case atStart => exact ⟨a + 1, by omega, by omega, by go_num, ⟨m, rfl⟩, by rw [← HN.out]; rfl⟩
      case round =>
        obtain ⟨j, hj1, hj2, rfl, ⟨m, rfl⟩, HJ⟩ := hrel
        by_cases hlj : j + 1 < n
        · go_wp2_with fail
          go_loopw [8] (fun i wr => ∃ b : Nat, j + 2 ≤ b ∧ b ≤ n ∧ i = .int .i64 b ∧ (∃ m, wr = w1.drewN m) ∧ Hid (bx1 p a j = findUp (bxAt p a j) (n - b) b)) (fun i _ => n - (intOf i).toNat)
          case atStart => exact ⟨j + 2, by omega, by omega, by go_num, ⟨m, rfl⟩, by rw [← HN.out]; rfl⟩
          case round =>
            obtain ⟨b, hb1, hb2, rfl, ⟨m, rfl⟩, HB⟩ := hrel
            by_cases hlb : b < n
            · obtain ⟨B, o, x, rfl, hx, c1⟩ := hv1.at_ hla
              obtain ⟨y, hy, c2⟩ := hv1.cell_ (k := j) (by omega)
              obtain ⟨z, hz, c3⟩ := hv1.cell_ hlj
              obtain ⟨u, hu, c4⟩ := hv1.cell_ hlb
              have hat : bxAt p a j b = if badB x y z u then some (a, j, b) else none := by unfold bxAt; rw [hx.out, hy.out, hz.out, hu.out]; rfl
              have HAT := Lib.hid hat; clear hat
              have ew : IntKind.i64.wrap ((j : Int) + 1) = (j : Int) + 1 := IntWalk.i64_in _ (by omega)
              have et : ((j : Int) + 1).toNat = j + 1 := by omega
              have eb : (0 : Int) ≤ (j : Int) + 1 := by omega
              have eb2 : (j : Int) + 1 < n := by omega
              rcases badB_cases x y z u with ⟨hbad, hcs⟩ | ⟨hbad, hcs⟩
              · have HAT2 : Hid (bxAt p a j b = some (a, j, b)) := by show _ = _; rw [HAT.out, hbad]; rfl
                clear hbad HAT
                have hfin : bxFind p = some (a, j, b) := by
                  rw [HA.out]; apply findUp_hit hla
                  rw [HJ.out]; apply findUp_hit (by omega)
                  rw [HB.out]; exact findUp_hit hlb HAT2.out
                have HFIN := Lib.hid hfin
                clear hfin HAT2
                rcases hcs with ⟨k1, k2, k3⟩ | ⟨k1, k2, k3, k4⟩ | ⟨k1, k2, k3, k4, k5⟩ | ⟨k1, k2, k3, k4, k5, k6⟩
                all_goals
                  go_wp2_with fail
                  try simp only [List.append_eq, List.cons_append, List.nil_append]
                  go_quiet (fail)
                  clear ew et
                  go_wp2_with fail
                  go_ret3
                  refine ⟨_, by rw [HFIN.out]; rfl, ?_, (HBW.out.drewN' _).alloc (by have := HBW.out.size; exact this) _⟩
                  rw [HFIN.out]
                  exact Ints.lit (w1.drewN _) 3 [(a : Int), j, j + 1, b] (by simp)
              · have HAT2 : Hid (bxAt p a j b = none) := by show _ = _; rw [HAT.out, hbad]; rfl
                clear hbad HAT
                rcases hcs with ⟨k1, k2⟩ | ⟨k1, k2, k3⟩ | ⟨k1, k2, k3, k4⟩ | ⟨k1, k2, k3⟩ | ⟨k1, k2, k3, k4⟩ | ⟨k1, k2, k3, k4, k5⟩ | ⟨k1, k2, k3, k4⟩ | ⟨k1, k2, k3, k4, k5⟩ | ⟨k1, k2, k3, k4, k5, k6⟩
                all_goals
                  go_wp2_with fail
                  try simp only [List.append_eq, List.cons_append, List.nil_append]
                  go_quiet (fail)
                  clear ew et
                  go_wp2_with fail
                  go_roundw
                  case rel => exact ⟨b + 1, by omega, by omega, by go_num, ⟨_, rfl⟩, by show _ = _; rw [HB.out]; exact findUp_miss hlb HAT2.out⟩
                  case measure => simp [intOf]; omega
            · go_wp2_with fail
              go_roundw
              case rel => exact ⟨j + 1, by omega, by omega, by go_num, ⟨_, rfl⟩, by show _ = _; rw [HJ.out]; exact findUp_miss (by omega) (by rw [HB.out]; exact findUp_over (by omega))⟩
              case measure => simp [intOf]; omega
        · go_wp2_with fail
          go_roundw
          case rel => exact ⟨a + 1, by omega, by go_num, ⟨_, rfl⟩, by show _ = _; rw [HA.out]; exact findUp_miss (by omega) (by rw [HJ.out]; exact findUp_over (by omega))⟩
          case measure => simp [intOf]; omega
    · go_wp2_with fail
      go_ret3
      have hfin : bxFind p = none := by rw [HA.out]; exact findUp_over (by omega)
      exact ⟨_, by rw [hfin]; rfl, by rw [hfin]; exact Ints.nil _, HBW.out.drewN' _⟩
end Go.Proofs.Ytgajaccnjjiiaaa
