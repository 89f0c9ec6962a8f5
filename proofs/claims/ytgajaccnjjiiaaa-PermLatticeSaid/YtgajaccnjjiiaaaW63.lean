/- PermLattice: before: the walk. -/
import Derived.Test.YtgajaccnjjiiaaaW62
import Derived.Test.YtgajaccnjjiiaaaSt
namespace Go.Proofs.Ytgajaccnjjiiaaa
open Go.RowKit

theorem ne_flag {x y : Int} (h : ¬ x = y) : (x != y) = true := by simpa using h
theorem eq_flag {x y : Int} (h : x = y) : (x != y) = false := by simpa using h

set_option maxRecDepth 100000 in
set_option maxHeartbeats 2000000 in
theorem before_any (v u : Value) (p q : List Int) (w : World) (hv : Ints w v p) (hu : Ints w u q) (hl : p.length = q.length)
    (hb : ∀ d, d < p.length → (∀ i < d, vat p i = vat q i) → vat p d ≠ vat q d → vat p d < vat q d) :
    Calls Try.prog 61 #[v, u] w fun e w' => e = .returned (.bool true) ∧ Below w.heap.size w w' := by
  obtain ⟨ap, n, cp, rfl, HN, hn'⟩ := hv.open
  obtain ⟨aq, m, cq, rfl, HM, hm'⟩ := hu.open
  obtain rfl : n = m := by have := HN.out; have := HM.out; omega
  have HB := Lib.hid hb
  clear hb hl
  go_enter Try.func61, Try.ntmps61
  go_wp2_with fail
  go_loopw [5] (fun iv wr => ∃ k nd : Nat, k ≤ n ∧ iv = .int .i64 k ∧ wr = w.drewN nd ∧ Hid (∀ i < k, vat p i = vat q i)) (fun iv _ => n - (intOf iv).toNat)
  case atStart => exact ⟨0, 0, by omega, rfl, rfl, (show Hid (∀ i < 0, vat p i = vat q i) from fun i hi => by omega)⟩
  case round =>
    obtain ⟨k, nd, hk, rfl, rfl, HK⟩ := hrel
    by_cases hlt : k < n
    · obtain ⟨bp, op, x, rfl, hx, cx0⟩ := hv.at_ hlt
      obtain ⟨bq, oq, y, rfl, hy, cy0⟩ := hu.at_ hlt
      have e1 : (w.drewN nd).cell? ⟨bp, op + k, none⟩ = _ := cx0
      have e2 : (w.drewN nd).cell? ⟨bq, oq + k, none⟩ = _ := cy0
      have e1w : ∀ m, (w.drewN m).cell? ⟨bp, op + k, none⟩ = _ := fun _ => cx0
      have e2w : ∀ m, (w.drewN m).cell? ⟨bq, oq + k, none⟩ = _ := fun _ => cy0
      by_cases hxy : x = y
      · have hf := eq_flag hxy
        have hnext : ∀ i < k + 1, vat p i = vat q i := by
          intro i hi
          by_cases e : i = k
          · subst e
            rw [vat_of hx.out, vat_of hy.out, hxy]
          · exact HK.out i (by omega)
        have HNX := Lib.hid hnext
        clear hnext hxy e1w e2w
        go_wp2_with fail
        go_quiet (fail)
        go_wp2_with fail
        go_roundw
        case rel => exact ⟨k + 1, nd + nq, by omega, by go_num, rfl, HNX⟩
        case measure => simp [intOf]; omega
      · have hf := ne_flag hxy
        have hlt2 : x < y := by
          have := HB.out k (by rw [HN.out]; exact hlt) HK.out (by rw [vat_of hx.out, vat_of hy.out]; exact hxy)
          rwa [vat_of hx.out, vat_of hy.out] at this
        clear hxy
        go_wp2_with fail
        go_quiet (fail)
        clear e1 e2
        have e3 := e1w (nd + nq)
        have e4 := e2w (nd + nq)
        clear e1w e2w
        go_wp2_with fail
        go_quiet (fail)
        go_wp2_with fail
        go_ret
        exact ⟨rfl, (((Below.refl _ _).drewN' _).drewN' _).drewN' _⟩
    · obtain rfl : k = n := by omega
      go_wp2_with fail
      go_ret
      exact ⟨rfl, (Below.refl _ _).drewN' nd⟩
end Go.Proofs.Ytgajaccnjjiiaaa
