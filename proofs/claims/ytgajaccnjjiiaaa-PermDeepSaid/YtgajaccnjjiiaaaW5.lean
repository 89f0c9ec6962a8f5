import Derived.Test.YtgajaccnjjiiaaaW4
namespace Go.Proofs.Ytgajaccnjjiiaaa
open Go.RowKit

def badB (x y z w : Int) : Bool := (decide (z < x) && decide (x < w) && decide (w < y)) || (decide (y < w) && decide (w < x) && decide (x < z))
def bxAt (p : List Int) (a j b : Nat) : Option (Nat × Nat × Nat) :=
  if badB (p[a]?.getD 0) (p[j]?.getD 0) (p[j + 1]?.getD 0) (p[b]?.getD 0) then some (a, j, b) else none
def bx1 (p : List Int) (a j : Nat) : Option (Nat × Nat × Nat) := findUp (bxAt p a j) (p.length - (j + 2)) (j + 2)
def bx2 (p : List Int) (a : Nat) : Option (Nat × Nat × Nat) := findUp (bx1 p a) (p.length - 1 - (a + 1)) (a + 1)
def bxFind (p : List Int) : Option (Nat × Nat × Nat) := findUp (bx2 p) (p.length - 0) 0
def bxOut : Option (Nat × Nat × Nat) → List Int
  | none => []
  | some (a, j, b) => [a, j, j + 1, b]

theorem badB_cases (x y z w : Int) : (badB x y z w = true ∧ ((decide (z < x) = true ∧ decide (x < w) = true ∧ decide (w < y) = true) ∨ (decide (z < x) = false ∧ decide (y < w) = true ∧ decide (w < x) = true ∧ decide (x < z) = true) ∨ (decide (z < x) = true ∧ decide (x < w) = false ∧ decide (y < w) = true ∧ decide (w < x) = true ∧ decide (x < z) = true) ∨ (decide (z < x) = true ∧ decide (x < w) = true ∧ decide (w < y) = false ∧ decide (y < w) = true ∧ decide (w < x) = true ∧ decide (x < z) = true))) ∨
    (badB x y z w = false ∧ ((decide (z < x) = false ∧ decide (y < w) = false) ∨ (decide (z < x) = false ∧ decide (y < w) = true ∧ decide (w < x) = false) ∨ (decide (z < x) = false ∧ decide (y < w) = true ∧ decide (w < x) = true ∧ decide (x < z) = false) ∨ (decide (z < x) = true ∧ decide (x < w) = false ∧ decide (y < w) = false) ∨ (decide (z < x) = true ∧ decide (x < w) = false ∧ decide (y < w) = true ∧ decide (w < x) = false) ∨ (decide (z < x) = true ∧ decide (x < w) = false ∧ decide (y < w) = true ∧ decide (w < x) = true ∧ decide (x < z) = false) ∨ (decide (z < x) = true ∧ decide (x < w) = true ∧ decide (w < y) = false ∧ decide (y < w) = false) ∨ (decide (z < x) = true ∧ decide (x < w) = true ∧ decide (w < y) = false ∧ decide (y < w) = true ∧ decide (w < x) = false) ∨ (decide (z < x) = true ∧ decide (x < w) = true ∧ decide (w < y) = false ∧ decide (y < w) = true ∧ decide (w < x) = true ∧ decide (x < z) = false))) := by
  unfold badB
  by_cases h1 : z < x <;> by_cases h2 : x < w <;> by_cases h3 : w < y <;> by_cases h4 : y < w <;> by_cases h5 : w < x <;> by_cases h6 : x < z <;> simp_all

set_option maxRecDepth 100000 in
set_option maxHeartbeats 4000000 in
theorem rbaxter_any (v : Value) (p : List Int) (w : World) (hv : Ints w v p) (hl : p.length ≤ 1000) :
    Calls Try.prog 16 #[v] w fun e w' => ∃ u, e = .returned (.tuple #[u, .bool (bxFind p).isSome]) ∧ Ints w' u (bxOut (bxFind p)) ∧ Below w.heap.size w w' := by
  obtain ⟨ad, n, cap, rfl, HN, hn'⟩ := hv.open
  have hl' : n ≤ 1000 := by have := HN.out; omega
  go_enter Try.func16, Try.ntmps16
  go_wp2_with fail
  go_loopw [4] (fun i wr => ∃ a : Nat, a ≤ n ∧ i = .int .i64 a ∧ (∃ m, wr = w.drewN m) ∧ Hid (bxFind p = findUp (bx2 p) (n - a) a)) (fun i _ => n - (intOf i).toNat)
  case atStart => exact ⟨0, by omega, rfl, ⟨0, rfl⟩, by rw [← HN.out]; rfl⟩
  case round =>
    obtain ⟨a, ha, rfl, ⟨m, rfl⟩, HA⟩ := hrel
    by_cases hla : a < n
    · go_wp2_with fail
      go_loopw [5] (fun i wr => ∃ j : Nat, a + 1 ≤ j ∧ j ≤ n ∧ i = .int .i64 j ∧ (∃ m, wr = w.drewN m) ∧ Hid (bx2 p a = findUp (bx1 p a) (n - 1 - j) j)) (fun i _ => n - (intOf i).toNat)
      case atStart => exact ⟨a + 1, by omega, by omega, by go_num, ⟨m, rfl⟩, by rw [← HN.out]; rfl⟩
      case round =>
        obtain ⟨j, hj1, hj2, rfl, ⟨m, rfl⟩, HJ⟩ := hrel
        by_cases hlj : j + 1 < n
        · go_wp2_with fail
          go_loopw [6] (fun i wr => ∃ b : Nat, j + 2 ≤ b ∧ b ≤ n ∧ i = .int .i64 b ∧ (∃ m, wr = w.drewN m) ∧ Hid (bx1 p a j = findUp (bxAt p a j) (n - b) b)) (fun i _ => n - (intOf i).toNat)
          case atStart => exact ⟨j + 2, by omega, by omega, by go_num, ⟨m, rfl⟩, by rw [← HN.out]; rfl⟩
          case round =>
            obtain ⟨b, hb1, hb2, rfl, ⟨m, rfl⟩, HB⟩ := hrel
            by_cases hlb : b < n
            · obtain ⟨B, o, x, rfl, hx, c1⟩ := hv.at_ hla
              obtain ⟨y, hy, c2⟩ := hv.cell_ (k := j) (by omega)
              obtain ⟨z, hz, c3⟩ := hv.cell_ hlj
              obtain ⟨u, hu, c4⟩ := hv.cell_ hlb
              have hat : bxAt p a j b = if badB x y z u then some (a, j, b) else none := by unfold bxAt; rw [hx.out, hy.out, hz.out, hu.out]; rfl
              have HAT := Lib.hid hat; clear hat
              have ew : IntKind.i64.wrap ((j : Int) + 1) = (j : Int) + 1 := IntWalk.i64_in _ (by omega)
              have et : ((j : Int) + 1).toNat = j + 1 := by omega
              have eb : (0 : Int) ≤ (j : Int) + 1 := by omega
              have eb2 : (j : Int) + 1 < n := by omega
              rcases badB_cases x y z u with ⟨hbad, hcs⟩ | ⟨hbad, hcs⟩
              · have HAT2 : Hid (bxAt p a j b = some (a, j, b)) := by show _ = _; rw [HAT.out, hbad]; rfl
                clear hbad HAT
                have hfin : bxFind p = some (a, j, b) := by
                  rw [HA.out]; apply findUp_hit hla
                  rw [HJ.out]; apply findUp_hit (by omega)
                  rw [HB.out]; exact findUp_hit hlb HAT2.out
                have HFIN := Lib.hid hfin
                clear hfin HAT2
                rcases hcs with ⟨k1, k2, k3⟩ | ⟨k1, k2, k3, k4⟩ | ⟨k1, k2, k3, k4, k5⟩ | ⟨k1, k2, k3, k4, k5, k6⟩
                all_goals
                  go_wp2_with fail
                  try simp only [List.append_eq, List.cons_append, List.nil_append]
                  go_quiet (fail)
                  clear ew et
                  go_wp2_with fail
                  go_ret2
                  refine ⟨_, by rw [HFIN.out]; rfl, ?_, ((Below.refl _ _).drewN' _).alloc (Nat.le_refl _) _⟩
                  rw [HFIN.out]
                  exact Ints.lit (w.drewN _) 3 [(a : Int), j, j + 1, b] (by simp)
              · have HAT2 : Hid (bxAt p a j b = none) := by show _ = _; rw [HAT.out, hbad]; rfl
                clear hbad HAT
                rcases hcs with ⟨k1, k2⟩ | ⟨k1, k2, k3⟩ | ⟨k1, k2, k3, k4⟩ | ⟨k1, k2, k3⟩ | ⟨k1, k2, k3, k4⟩ | ⟨k1, k2, k3, k4, k5⟩ | ⟨k1, k2, k3, k4⟩ | ⟨k1, k2, k3, k4, k5⟩ | ⟨k1, k2, k3, k4, k5, k6⟩
                all_goals
                  go_wp2_with fail
                  try simp only [List.append_eq, List.cons_append, List.nil_append]
                  go_quiet (fail)
                  clear ew et
                  go_wp2_with fail
                  go_roundw
                  case rel => exact ⟨b + 1, by omega, by omega, by go_num, ⟨_, rfl⟩, by show _ = _; rw [HB.out]; exact findUp_miss hlb HAT2.out⟩
                  case measure => simp [intOf]; omega
            · go_wp2_with fail
              go_roundw
              case rel => exact ⟨j + 1, by omega, by omega, by go_num, ⟨_, rfl⟩, by show _ = _; rw [HJ.out]; exact findUp_miss (by omega) (by rw [HB.out]; exact findUp_over (by omega))⟩
              case measure => simp [intOf]; omega
        · go_wp2_with fail
          go_roundw
          case rel => exact ⟨a + 1, by omega, by go_num, ⟨_, rfl⟩, by show _ = _; rw [HA.out]; exact findUp_miss (by omega) (by rw [HJ.out]; exact findUp_over (by omega))⟩
          case measure => simp [intOf]; omega
    · go_wp2_with fail
      go_ret2
      have hfin : bxFind p = none := by rw [HA.out]; exact findUp_over (by omega)
      exact ⟨_, by rw [hfin]; rfl, by rw [hfin]; exact Ints.nil _, (Below.refl _ _).drewN' _⟩
end Go.Proofs.Ytgajaccnjjiiaaa
