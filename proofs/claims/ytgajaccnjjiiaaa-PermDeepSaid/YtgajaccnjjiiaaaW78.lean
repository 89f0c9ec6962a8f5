/- The law's equal: the walk. -/
import Derived.Test.YtgajaccnjjiiaaaW67
import Derived.Test.YtgajaccnjjiiaaaW75
namespace Go.Proofs.Ytgajaccnjjiiaaa
open Go.RowKit Go.BigFrame

theorem same_below (v u : Value) (xs ys : List Int) (w : World) (hv : Ints w v xs) (hu : Ints w u ys) :
    Calls Try.prog 17 #[v, u] w fun e w' => e = .returned (.bool (decide (xs = ys))) ∧ Below w.heap.size w w' := by
  refine (same_any v u xs ys w hv hu).mono ?_
  rintro e w' ⟨rfl, n, rfl⟩
  exact ⟨rfl, (Below.refl _ _).drewN' n⟩

set_option maxRecDepth 100000 in
set_option maxHeartbeats 8000000 in
theorem lequal_any : ∀ (d : Nat) (v v' : Value) (t t' : TM) (w : World) (ok ok' : Nat → Prop), DeepAt d t → TreeAt w ok v t → TreeAt w ok' v' t' →
    Calls Try.prog 45 #[v, v'] w fun e w' => e = .returned (.bool (eqT d t t')) ∧ Below w.heap.size w w' := by
  intro d
  induction d with
  | zero => intro v v' t t' w ok ok' h; exact h.elim
  | succ d ih =>
    intro v v' t t' w ok ok' hdp ht ht'
    obtain ⟨k, perm, ts⟩ := t
    obtain ⟨k', perm', ts'⟩ := t'
    have hda : ∀ t ∈ ts, DeepAt d t := by rw [DeepAt] at hdp; exact hdp
    have hB : ∀ o o', Below w.heap.size w ((w.alloc o).alloc o') := fun o o' => ((Below.refl w.heap.size w).alloc (Nat.le_refl _) o).alloc (by simp) o'
    obtain ⟨pv, tv, rfl, hp, hts⟩ := ht.parts
    obtain ⟨pv', tv', rfl, hp', hts'⟩ := ht'.parts
    have hca := fun o o' => same_below pv pv' perm perm' _ (hp.below (hB o o') (Nat.le_refl _)) (hp'.below (hB o o') (Nat.le_refl _))
    have hf : eqT (d + 1) (.mk k perm ts) (.mk k' perm' ts') = (k == k' && (decide (perm = perm') && (ts.length == ts'.length && allP (eqT d) ts ts'))) := rfl
    obtain ⟨a1, n1, c1, rfl, _, _⟩ := hp.open
    obtain ⟨a2, n2, c2, rfl, _, _⟩ := hp'.open
    obtain ⟨a3, n, c3, rfl, HN, hn⟩ := hts.open
    obtain ⟨a4, m, c4, rfl, HM, hm⟩ := hts'.open
    generalize eqT (d + 1) (.mk k perm ts) (.mk k' perm' ts') = F at *
    generalize decide (perm = perm') = b2 at *
    have HCA := Lib.hid hca
    have HTS := Lib.hid hts
    have HUS := Lib.hid hts'
    have HBB := Lib.hid hB
    have HD := Lib.hid hda
    have IH := Lib.hid ih
    clear hca hts hts' hp hp' ht ht' hda hdp ih hB
    by_cases hk : k = k'
    · subst hk
      have tk : (k == k) = true := by simp
      rw [tk, Bool.true_and] at hf
      cases b2
      · simp only [Bool.false_and] at hf
        subst hf
        go_enter Try.func45, Try.ntmps45
        go_wp2_with (go_at_call 17; refine (HCA.out _ _).mono ?_; rintro e w2 ⟨rfl, hb2⟩)
        go_ret
        exact ⟨rfl, (HBB.out _ _).trans (hb2.mono (HBB.out _ _).size)⟩
      · simp only [Bool.true_and] at hf
        rw [HN.out, HM.out] at hf
        by_cases hnm : n = m
        · subst hnm
          have tn : ((n : Int) != (n : Int)) = false := by simp
          rw [show (n == n) = true by simp, Bool.true_and] at hf
          have HF := Lib.hid hf
          clear hf
          go_enter Try.func45, Try.ntmps45
          go_wp2_with (go_at_call 17; refine (HCA.out _ _).mono ?_; rintro e w2 ⟨rfl, hb2⟩; have k1 := ((Blk.new w 41 [.int .i64 k, .slice a1 n1 c1, .slice a3 n c3]).alloc (.cells #[.int .i64 k, .slice a2 n2 c2, .slice a4 n c4] 65)).keep hb2; have q1 := k1.cell (j := 2) rfl; have k2 := (Blk.new (w.alloc (.cells #[.int .i64 k, .slice a1 n1 c1, .slice a3 n c3] 41)) 65 [.int .i64 k, .slice a2 n2 c2, .slice a4 n c4]).keep hb2; simp only [World.size_alloc] at k2; have q2 := k2.cell (j := 2) rfl)
          have HB2 := Lib.hid ((HBB.out _ _).trans (hb2.mono (HBB.out _ _).size))
          have HK1 := Lib.hid k1
          have HK2 := Lib.hid k2
          clear k1 k2 q1 q2 hb2
          go_loopw [5] (fun iv wr => ∃ j : Nat, j ≤ n ∧ iv = .int .i64 j ∧ Blk wr w.heap.size 41 [.int .i64 k, .slice a1 n1 c1, .slice a3 n c3] ∧ Blk wr (w.heap.size + 1) 65 [.int .i64 k, .slice a2 n2 c2, .slice a4 n c4] ∧ Below w.heap.size w wr ∧ Hid (F = allP (eqT d) (ts.drop j) (ts'.drop j))) (fun iv _ => n - (intOf iv).toNat)
          case atStart => exact ⟨0, by omega, rfl, HK1.out, HK2.out, HB2.out, HF⟩
          case round =>
            clear HB2 HK1 HK2
            obtain ⟨j, hj, rfl, hblk1, hblk2, hB, HA⟩ := hrel
            have hsz := hB.size
            have q1 := hblk1.cell (j := 2) rfl
            have q2 := hblk2.cell (j := 2) rfl
            by_cases hlt : j < n
            · obtain ⟨b, o, t, rfl, hbl, hgt, x, ya, yn, yc, za, zn, zc, d0, d1, d2, htr⟩ := HTS.out.at_ hlt
              obtain ⟨b2, o2, t2, rfl, hbl2, hgt2, x2, ya2, yn2, yc2, za2, zn2, zc2, f0, f1, f2, htr2⟩ := HUS.out.at_ hlt
              have e0 := (hB.cell (p := ⟨b, o + j * 3, none⟩) hbl).trans d0
              have e1 := (hB.cell (p := ⟨b, o + j * 3 + 1, none⟩) hbl).trans d1
              have e2 := (hB.cell (p := ⟨b, o + j * 3 + 2, none⟩) hbl).trans d2
              have g0 := (hB.cell (p := ⟨b2, o2 + j * 3, none⟩) hbl2).trans f0
              have g1 := (hB.cell (p := ⟨b2, o2 + j * 3 + 1, none⟩) hbl2).trans f1
              have g2 := (hB.cell (p := ⟨b2, o2 + j * 3 + 2, none⟩) hbl2).trans f2
              have hst := allP_at (g := eqT d) hgt.out hgt2.out
              have htr1 : TreeAt wr.drew ok (.agg #[.int .i64 x, .slice ya yn yc, .slice za zn zc]) t := (htr.keep hB).keep ((Below.refl wr.heap.size wr).drewN' 1)
              have htr3 : TreeAt wr.drew ok' (.agg #[.int .i64 x2, .slice ya2 yn2 yc2, .slice za2 zn2 zc2]) t2 := (htr2.keep hB).keep ((Below.refl wr.heap.size wr).drewN' 1)
              have hca := IH.out _ _ t t2 _ ok ok' (HD.out t (List.mem_of_getElem? hgt.out)) htr1 htr3
              generalize eqT d t t2 = s at *
              have HST := Lib.hid hst
              have HCA := Lib.hid hca
              clear d0 d1 d2 f0 f1 f2 htr htr1 htr2 htr3 hst hca
              cases s
              all_goals
                go_upto_region 6 with fail
                refine wp_tailF 10 (by kernel_rfl) (by kernel_rfl) (by rfl) ?_
                simp only [List.take_succ_cons, List.take_zero, List.drop_succ_cons, List.drop_zero]
                repeat (go_big_quiet_step (fail))
                refine wpQuiet_nil ?_
                go_wp2_with (go_at_call 45; refine HCA.out.mono ?_; rintro e w4 ⟨rfl, hb4⟩; have hb4' : Below wr.heap.size wr w4 := ((Below.refl _ wr).drewN' 1).trans (by exact hb4); have k4 := hblk1.keep hb4'; have k5 := hblk2.keep hb4')
              · all_goals
                  go_ret
                  exact ⟨by rw [HA.out, HST.out]; rfl, hB.trans (hb4'.mono hsz)⟩
              · all_goals
                  go_roundw
                  case rel => exact ⟨j + 1, by omega, by go_num, k4, k5, hB.trans (hb4'.mono hsz), by show _ = _; rw [HA.out, HST.out]; rfl⟩
                  case measure => simp [intOf]; omega
            · obtain rfl : j = n := by omega
              rw [List.drop_of_length_le (by rw [HN.out]; exact Nat.le_refl _), List.drop_of_length_le (by rw [HM.out]; exact Nat.le_refl _)] at HA
              go_wp2_with fail
              go_ret
              exact ⟨by rw [HA.out]; rfl, hB⟩
        · have tn : ((n : Int) != (m : Int)) = true := by simp; omega
          rw [show (n == m) = false by simpa using hnm, Bool.false_and] at hf
          subst hf
          clear hnm
          go_enter Try.func45, Try.ntmps45
          go_wp2_with (go_at_call 17; refine (HCA.out _ _).mono ?_; rintro e w2 ⟨rfl, hb2⟩; have k1 := ((Blk.new w 41 [.int .i64 k, .slice a1 n1 c1, .slice a3 n c3]).alloc (.cells #[.int .i64 k, .slice a2 n2 c2, .slice a4 m c4] 65)).keep hb2; have q1 := k1.cell (j := 2) rfl; have k2 := (Blk.new (w.alloc (.cells #[.int .i64 k, .slice a1 n1 c1, .slice a3 n c3] 41)) 65 [.int .i64 k, .slice a2 n2 c2, .slice a4 m c4]).keep hb2; simp only [World.size_alloc] at k2; have q2 := k2.cell (j := 2) rfl)
          go_ret
          exact ⟨rfl, (HBB.out _ _).trans (hb2.mono (HBB.out _ _).size)⟩
    · have tk : (k != k') = true := by simpa using hk
      rw [show (k == k') = false by simpa using hk, Bool.false_and] at hf
      subst hf
      clear hk
      go_enter Try.func45, Try.ntmps45
      go_wp2_with fail
      go_ret
      exact ⟨rfl, HBB.out _ _⟩
end Go.Proofs.Ytgajaccnjjiiaaa
