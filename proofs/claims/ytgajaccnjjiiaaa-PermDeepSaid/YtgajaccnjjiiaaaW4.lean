import Derived.Test.YtgajaccnjjiiaaaW3
namespace Go.Proofs.Ytgajaccnjjiiaaa
open Go.RowKit

set_option maxHeartbeats 1000000 in
theorem rseparables_in (n : Nat) (w : World) (h0 : 1 ≤ n) (h1 : n ≤ 20) :
    Calls Try.prog 21 #[.int .i64 n] w fun e w' => e = .returned (.int .i64 ((sepTo n n).1[n]?.getD 0)) ∧ Below w.heap.size w w' := by
  go_enter Try.func21, Try.ntmps21
  have tok1 : True := trivial
  go_wp2_with (first | (at_make; have _t := tok1; refine wpList_makeV Try.info2 Try.underlying82 rfl rfl _ _ rfl (n + 1) rfl rfl (by omega) (by omega) (by omega) (by omega) ?_; clear tok1 _t; intro wa hba hBa hsa; have HA := Lib.hid hsa; clear hsa) | (at_make; refine wpList_makeV Try.info2 Try.underlying82 rfl rfl _ _ rfl (n + 1) rfl rfl (by omega) (by omega) (by omega) (by omega) ?_; intro wb hbb hBb hsb; clear hsb))
  have hBw : Below w.heap.size w wb := hBa.trans (hBb.mono hBa.size)
  have hba' := hba.keep hBb
  have hne : w.heap.size ≠ wa.heap.size := by rw [HA.out]; omega
  have hsw := hBa.size
  clear hba hBa hBb
  generalize hG1 : w.heap.size = g1 at *
  have HG1 := Lib.hid hG1; clear hG1
  generalize wa.heap.size = g2 at *
  rw [show List.replicate (n + 1) (Value.int IntKind.i64 0) = I64s (sepTo n 0).1 by simp [I64s, sepTo]] at hba'
  rw [show List.replicate (n + 1) (Value.int IntKind.i64 0) = I64s (sepTo n 0).2 by simp [I64s, sepTo]] at hbb
  go_loopw [5] (fun i wr => ∃ j : Nat, j ≤ n ∧ i = .int .i64 (j + 1) ∧ Blk wr g1 2 (I64s (sepTo n j).1) ∧ Blk wr g2 2 (I64s (sepTo n j).2) ∧ Below g1 w wr) (fun i _ => n + 1 - (intOf i).toNat)
  case atStart => exact ⟨0, by omega, rfl, hba', hbb, hBw⟩
  case round =>
    obtain ⟨j, hj, rfl, hk1, hk2, hB⟩ := hrel
    clear hba' hbb hBw
    obtain ⟨l1, l2⟩ := sepTo_len n j
    obtain ⟨s1, hs1⟩ : ∃ s1, s1 = (sepTo n j).1 := ⟨_, rfl⟩
    obtain ⟨s2, hs2⟩ : ∃ s2, s2 = (sepTo n j).2 := ⟨_, rfl⟩
    have hst : sepTo n (j + 1) = sepStep (j + 1) (s1, s2) := by rw [hs1, hs2]; rfl
    have hfin : j = n → (sepTo n n).1 = s1 := by rintro rfl; exact hs1.symm
    have HST := Lib.hid hst; clear hst
    have HFIN := Lib.hid hfin; clear hfin
    rw [← hs1] at l1 hk1
    rw [← hs2] at l2 hk2
    clear hs1 hs2
    by_cases hlt : j < n
    · obtain ⟨x1, hx1⟩ := get_of_lt (zs := s1) (k := j + 1) (by omega)
      obtain ⟨x2, hx2⟩ := get_of_lt (zs := s2) (k := j + 1) (by omega)
      have c1 := hk1.cell (i64s_get hx1)
      have c2 := hk2.cell (i64s_get hx2)
      have f1 := hk1.free (j + 1)
      have f2 := hk2.free (j + 1)
      have L1 := Lib.hid l1; have L2 := Lib.hid l2
      clear l1 l2 hx1 hx2
      have hle : (j : Int) + 1 ≤ n := by omega
      by_cases h1 : j = 0
      · subst h1
        go_wp2_with fail
        go_roundw
        case rel => 
          refine ⟨1, by omega, by go_num, ?_, ?_, (hB.setCell (by simp) _).setCell (by simp; omega) _⟩
          · rw [HST.out]
            have := (hk1.set 1 (.int .i64 1)).other (a := ⟨g2, 1, none⟩) (by simpa using hne) (.int .i64 1)
            rw [i64s_set] at this
            exact this
          · rw [HST.out]
            have := (hk2.other (a := ⟨g1, 1, none⟩) (by simpa using Ne.symm hne) (.int .i64 1)).set 1 (.int .i64 1)
            rw [i64s_set] at this
            exact this
        case measure => simp [intOf]; omega
      · have hb1 : (((j : Int) + 1) == 1) = false := by rw [beq_eq_false_iff_ne]; omega
        go_wp2_with fail
        go_loopw [6, 7] (fun p k wx => ∃ i : Nat, i ≤ j ∧ k = .int .i64 (i + 1) ∧ p = .int .i64 (plusTo s1 s2 (j + 1) i) ∧ ∃ m, wx = wr.drewN m) (fun _ k _ => j + 2 - (intOf k).toNat)
        case atStart => exact ⟨0, by omega, rfl, rfl, 0, rfl⟩
        case round =>
          obtain ⟨i, hi, rfl, rfl, m, rfl⟩ := hrel
          by_cases hli : i < j
          · obtain ⟨x, hx⟩ := get_of_lt (zs := s2) (k := i + 1) (by rw [L2.out]; omega)
            obtain ⟨y, hy⟩ := get_of_lt (zs := s1) (k := j - i) (by rw [L1.out]; omega)
            have d1 := hk2.cell (i64s_get hx)
            have d2 := hk1.cell (i64s_get hy)
            have hs : plusTo s1 s2 (j + 1) (i + 1) = wrap64 (plusTo s1 s2 (j + 1) i + wrap64 (x * y)) := by
              rw [plusTo, hx, show j + 1 - (i + 1) = j - i by omega, hy]; rfl
            have HS := Lib.hid hs; clear hs hx hy
            have hi1 : (0 : Int) ≤ (i : Int) + 1 := by omega
            have hi2 : (i : Int) + 1 < n + 1 := by omega
            have hi3 : (0 : Int) ≤ (j : Int) + 1 - (i + 1) := by omega
            have hi4 : (j : Int) + 1 - (i + 1) < n + 1 := by omega
            go_wp2_with fail
            go_quiet (fail)
            go_wp2_with fail
            go_roundw
            case rel => exact ⟨i + 1, by omega, by go_num, by rw [HS.out], _, rfl⟩
            case measure => simp [intOf]; omega
          · obtain rfl : i = j := by omega
            generalize hp : plusTo s1 s2 (i + 1) i = p at *
            have HP := Lib.hid hp; clear hp
            go_wp2_with fail
            go_roundw
            case rel => 
              refine ⟨i + 1, by omega, by go_num, ?_, ?_, (((hB.drewN' m).setCell (by simp) _).setCell (by simp; omega) _)⟩
              · rw [HST.out]
                have := ((hk1.drewN m).set (i + 1) (.int .i64 (wrap64 (2 * p)))).other (a := ⟨g2, i + 1, none⟩) (by simpa using hne) (.int .i64 p)
                rw [i64s_set] at this
                simp only [sepStep, Nat.add_sub_cancel, HP.out]
                rw [if_neg (by omega)]
                exact this
              · rw [HST.out]
                have := ((hk2.drewN m).other (a := ⟨g1, i + 1, none⟩) (by simpa using Ne.symm hne) (.int .i64 (wrap64 (2 * p)))).set (i + 1) (.int .i64 p)
                rw [i64s_set] at this
                simp only [sepStep, Nat.add_sub_cancel, HP.out]
                rw [if_neg (by omega)]
                exact this
            case measure => simp [intOf]; omega
    · obtain rfl : j = n := by omega
      obtain ⟨x, hx⟩ := get_of_lt (zs := s1) (k := j) (by omega)
      have c1 := hk1.cell (i64s_get hx)
      have HX := Lib.hid hx
      clear l1 l2 hx
      go_wp2_with fail
      go_ret
      have hf : (sepTo j j).1 = s1 := by simpa using HFIN.out
      exact ⟨by rw [hf, HX.out]; rfl, by rw [HG1.out]; exact hB⟩

theorem separables_agree : ∀ n : Nat, n < 21 → 0 < n → (cntTo (n - 1))[n]?.getD 0 = (sepTo n n).1[n]?.getD 0 := by decide +kernel
end Go.Proofs.Ytgajaccnjjiiaaa
