/- PermDeep: the walk. -/
import Derived.Test.YtgajaccnjjiiaaaW81
namespace Go.Proofs.Ytgajaccnjjiiaaa
open Go.RowKit

theorem chain_snoc (j : Nat) : chainT (j + 1) = .mk (1 + ((j + 1 : Nat) : Int) % 2) [] [leafT, chainT j] := by
  rw [chainT]; congr 1

set_option maxRecDepth 100000 in
set_option maxHeartbeats 16000000 in
theorem PermDeep_walk (n : Int) (s : Bool) (w : World) (m : Nat) (h1 : 56 ≤ m) (h2 : m ≤ 63) (hk : (kidx n 8 : Nat) + 56 = m) (hna : NarrowAt 101 (deepT s (m - 1)))
    (hout : 60 < m + (if s then 3 else 0) → fillM (deepT s (m - 1)) = none) (hin : ¬ 60 < m + (if s then 3 else 0) → DeepOk (deepT s (m - 1))) :
    Calls Try.prog 9 #[.int .i64 n, .bool s] w fun e w' => e = .returned (.bool true) ∧ Below w.heap.size w w' := by
  have hkw : wrap64 (56 + wrap64 ((IntKind.u64.wrap n).tmod 8)) = (m : Int) := by
    have := kidx_wrap n (n := 8) (by omega) (by omega)
    rw [show (IntKind.u64.wrap n).tmod 8 = (IntKind.u64.wrap n).tmod (8 : Nat) from rfl, this]
    unfold wrap64
    omega
  have hds : DS w (w.alloc (.cells #[.int .i64 0, .slice none 0 0, .slice none 0 0] 65)) 0 (.slice none 0 0) (.slice none 0 0) (chainT 0) := ⟨Blk.new w 65 _, leaf_at _ _, (Below.refl _ _).alloc (Nat.le_refl _) _⟩
  have HDS := Lib.hid hds
  have HNA := Lib.hid hna
  have HOUT := Lib.hid hout
  have HIN := Lib.hid hin
  have HKW := Lib.hid hkw
  clear hds hna hout hin hk hkw
  go_enter Try.func9, Try.ntmps9
  go_wp2_with fail
  rw [HKW.out]
  generalize wrap64 ((IntKind.u64.wrap n).tmod 8) = z1 at *
  generalize (IntKind.u64.wrap n).tmod 8 = z2 at *
  generalize IntKind.u64.wrap n = z3 at *
  go_loopw [7] (fun iv wr => ∃ (j : Nat) (k : Int) (a1 : Option Addr) (n1 c1 : Nat) (a2 : Option Addr) (n2 c2 : Nat), j + 1 ≤ m ∧ iv = .int .i64 (j + 1 : Nat) ∧ Hid (DS w wr k (.slice a1 n1 c1) (.slice a2 n2 c2) (chainT j))) (fun iv _ => m - (intOf iv).toNat)
  case atStart => exact ⟨0, 0, none, 0, 0, none, 0, 0, by omega, rfl, HDS⟩
  case round =>
    clear HDS
    obtain ⟨j, k, a1, n1, c1, a2, n2, c2, hj, rfl, HD⟩ := hrel
    have q0 := HD.out.blk.cell (j := 0) rfl
    have q1 := HD.out.blk.cell (j := 1) rfl
    have q2 := HD.out.blk.cell (j := 2) rfl
    have f0 := HD.out.blk.free 0
    have f1 := HD.out.blk.free 1
    have f2 := HD.out.blk.free 2
    have hlb := HD.out.blk.lt
    rw [show ((j + 1 : Nat) : Int) = (j : Int) + 1 by omega]
    by_cases hlt : j + 1 < m
    · have hli : (j : Int) + 1 < m := by omega
      go_wp2_with fail
      go_roundw
      case rel => exact ⟨j + 1, _, none, 0, 0, _, 2, 2, by omega, by go_num, by rw [chain_snoc]; exact (Lib.hid (HD.out.step _) : Hid _)⟩
      case measure => simp [intOf]; omega
    · obtain rfl : m = j + 1 := by omega
      rw [Nat.add_sub_cancel] at HNA HOUT HIN
      cases s
      · have hT : deepT false j = chainT j := rfl
        rw [hT] at HNA HOUT HIN
        by_cases h60 : 60 < j + 1
        · have hi : (60 : Int) < (j : Int) + 1 := by omega
          have hf := HOUT.out (by simpa using h60)
          have hfi := fun u (W : World) ok (h : TreeAt W ok u (chainT j)) => Fill_any u _ W ok h
          rw [hf] at hfi
          have HFI := Lib.hid hfi
          clear hfi hf HOUT HIN hT h60
          generalize chainT j = t at *
          go_wp2_with (first
            | (go_at_call 22; refine (awake_any _).mono ?_; rintro e w4 ⟨rfl, hb4⟩)
            | (go_at_call 47; refine (HFI.out _ _ _ ht2).mono ?_; rintro e w3 ⟨u3, rfl, hi3, hb3⟩; obtain ⟨a3, n3, c3, rfl, HN3, _⟩ := hi3.open; obtain rfl : n3 = 0 := HN3.out.symm)
            | (go_at_call 48; refine (give_any 101 _ t _ _ (Nat.le_refl _) HD.out.tree.here HNA.out).mono ?_; rintro e w2 ⟨u2, rfl, ht2, hb2⟩; obtain ⟨k2, b1, m1, d1, b2, m2, d2, rfl⟩ := ht2.slices))
          go_ret
          exact ⟨rfl, HD.out.below.trans (((hb2.trans (hb3.mono hb2.size)).trans (hb4.mono (Nat.le_trans hb2.size hb3.size))).mono HD.out.below.size)⟩
        · have hi : ¬ (60 : Int) < (j : Int) + 1 := by omega
          have hok := HIN.out (by simpa using h60)
          have hfi := fun u (W : World) ok (h : TreeAt W ok u (chainT j)) => Fill_any u _ W ok h
          have hrf := fun u (W : World) ok (h : TreeAt W ok u (chainT j)) => rFill_good u _ W ok h (narrow_deep _ _ HNA.out) hok.nodes hok.s1 hok.s2 hok.s3 hok.can
          have hbl := fun u W (h : Ints W u (rfillT 101 (chainT j))) => Blocks_any u _ W h hok.check
          have hlq := fun u u' (W : World) ok ok' (h : TreeAt W ok u (chainT j)) (h' : TreeAt W ok' u' (chainT j)) => lequal_any 101 u u' _ _ W ok ok' (narrow_deep _ _ HNA.out) h h'
          rw [eqT_self _ _ (narrow_deep _ _ HNA.out)] at hlq
          rw [hok.fill] at hfi
          rw [hok.tree] at hbl
          have HFI := Lib.hid hfi
          have HRF := Lib.hid hrf
          have HBL := Lib.hid hbl
          have HLQ := Lib.hid (fun u u' W ok ok' h => hlq u u' W ok ok' h)
          clear hfi hrf hbl hlq hok HOUT HIN hT h60
          generalize rfillT 101 (chainT j) = L at *
          generalize chainT j = t at *
          go_wp2_with (first
            | (go_at_call 22; refine (awake_any _).mono ?_; rintro e w7 ⟨rfl, hb7⟩)
            | (go_at_call 45; refine (HLQ.out _ _ _ _ _ (ht5.keep bb5) (((ht4.keep hb4).keep hb5).keep bb5)).mono ?_; rintro e w8 ⟨rfl, hb8⟩)
            | (go_at_call 17; refine (same_self _ _ L _ (((hi3.below hb4 (Nat.le_refl _)).below hb5 (Nat.le_refl _)).below ((Below.refl _ _).alloc (Nat.le_refl _) _) (Nat.le_refl _)) ((ho4.ints.below hb5 (Nat.le_refl _)).below ((Below.refl _ _).alloc (Nat.le_refl _) _) (Nat.le_refl _))).mono ?_; rintro e w6 ⟨rfl, hb6⟩; have bb5 : Below w5.heap.size w5 w6 := ((Below.refl _ _).alloc (Nat.le_refl _) (.cells #[.int .i64 k5, .slice i5 m5 d5, .slice i6 m6 d6] 41)).trans (hb6.mono (by simp)); have kb6 := ((kb3.keep hb4).keep hb5).keep bb5; have t0 := kb6.cell (j := 0) rfl; have t1 := kb6.cell (j := 1) rfl; have t2 := kb6.cell (j := 2) rfl; have kc6 := (Blk.new w5 41 [.int .i64 k5, .slice i5 m5 d5, .slice i6 m6 d6]).keep hb6; have y0 := kc6.cell (j := 0) rfl; have y1 := kc6.cell (j := 1) rfl; have y2 := kc6.cell (j := 2) rfl)
            | (go_at_call 25; refine (HBL.out _ _ ho4.ints).mono ?_; rintro e w5 ⟨u5, rfl, ht5, hb5⟩; obtain ⟨k5, i5, m5, d5, i6, m6, d6, rfl⟩ := ht5.slices)
            | (go_at_call 49; refine (HRF.out _ _ _ ht4).mono ?_; rintro e w4 ⟨u4, rfl, ho4, hb4⟩; obtain ⟨a4, n4, c4, rfl, _, _⟩ := ho4.ints.open)
            | (go_at_call 47; refine (HFI.out _ _ _ ht2).mono ?_; rintro e w3 ⟨u3, rfl, hi3, hb3⟩; obtain ⟨a3, n3, c3, rfl, HN3, _⟩ := hi3.open; have kb3 := (HD.out.blk.keep hb2).keep hb3; have r0 := kb3.cell (j := 0) rfl; have r1 := kb3.cell (j := 1) rfl; have r2 := kb3.cell (j := 2) rfl; have ht4 := (HD.out.tree.keep hb2).keep hb3)
            | (go_at_call 48; refine (give_any 101 _ t _ _ (Nat.le_refl _) HD.out.tree.here HNA.out).mono ?_; rintro e w2 ⟨u2, rfl, ht2, hb2⟩; obtain ⟨k2, b1, m1, d1, b2, m2, d2, rfl⟩ := ht2.slices))
          go_ret
          have z2 := hb2.size
          have z3 := hb3.size
          have z4 := hb4.size
          have z5 := hb5.size
          have z6 := bb5.size
          have z8 := hb8.size
          exact ⟨rfl, HD.out.below.trans (((hb2.trans (hb3.mono z2)).trans ((hb4.mono (by omega)).trans ((hb5.mono (by omega)).trans ((bb5.mono (by omega)).trans ((hb8.mono (by omega)).trans (hb7.mono (by omega))))))).mono HD.out.below.size)⟩
      · have hT : deepT true j = .mk 3 [1, 3, 0, 2] [leafT, chainT j, leafT, leafT] := rfl
        rw [hT] at HNA HOUT HIN
        have hd1 := HD.out.simple
        have HD1 := Lib.hid hd1
        clear hd1
        generalize TM.mk 3 [1, 3, 0, 2] [leafT, chainT j, leafT, leafT] = t at *
        by_cases h60 : 60 < j + 1 + 3
        · have hi : (60 : Int) < (j : Int) + 1 + 3 := by omega
          have hf := HOUT.out (by simpa using h60)
          have hfi := fun u (W : World) ok (h : TreeAt W ok u (t)) => Fill_any u _ W ok h
          rw [hf] at hfi
          have HFI := Lib.hid hfi
          clear hfi hf HOUT HIN hT h60
          go_wp2_with (first
            | (go_at_call 22; refine (awake_any _).mono ?_; rintro e w4 ⟨rfl, hb4⟩)
            | (go_at_call 47; refine (HFI.out _ _ _ ht2).mono ?_; rintro e w3 ⟨u3, rfl, hi3, hb3⟩; obtain ⟨a3, n3, c3, rfl, HN3, _⟩ := hi3.open; obtain rfl : n3 = 0 := HN3.out.symm)
            | (go_at_call 48; refine (give_any 101 _ t _ _ (Nat.le_refl _) HD1.out.tree.here HNA.out).mono ?_; rintro e w2 ⟨u2, rfl, ht2, hb2⟩; obtain ⟨k2, b1, m1, d1, b2, m2, d2, rfl⟩ := ht2.slices))
          go_ret
          exact ⟨rfl, HD1.out.below.trans (((hb2.trans (hb3.mono hb2.size)).trans (hb4.mono (Nat.le_trans hb2.size hb3.size))).mono HD1.out.below.size)⟩
        · have hi : ¬ (60 : Int) < (j : Int) + 1 + 3 := by omega
          have hok := HIN.out (by simpa using h60)
          have hfi := fun u (W : World) ok (h : TreeAt W ok u (t)) => Fill_any u _ W ok h
          have hrf := fun u (W : World) ok (h : TreeAt W ok u (t)) => rFill_good u _ W ok h (narrow_deep _ _ HNA.out) hok.nodes hok.s1 hok.s2 hok.s3 hok.can
          have hbl := fun u W (h : Ints W u (rfillT 101 (t))) => Blocks_any u _ W h hok.check
          have hlq := fun u u' (W : World) ok ok' (h : TreeAt W ok u (t)) (h' : TreeAt W ok' u' (t)) => lequal_any 101 u u' _ _ W ok ok' (narrow_deep _ _ HNA.out) h h'
          rw [eqT_self _ _ (narrow_deep _ _ HNA.out)] at hlq
          rw [hok.fill] at hfi
          rw [hok.tree] at hbl
          have HFI := Lib.hid hfi
          have HRF := Lib.hid hrf
          have HBL := Lib.hid hbl
          have HLQ := Lib.hid (fun u u' W ok ok' h => hlq u u' W ok ok' h)
          clear hfi hrf hbl hlq hok HOUT HIN hT h60
          generalize rfillT 101 (t) = L at *
          go_wp2_with (first
            | (go_at_call 22; refine (awake_any _).mono ?_; rintro e w7 ⟨rfl, hb7⟩)
            | (go_at_call 45; refine (HLQ.out _ _ _ _ _ (ht5.keep bb5) (((ht4.keep hb4).keep hb5).keep bb5)).mono ?_; rintro e w8 ⟨rfl, hb8⟩)
            | (go_at_call 17; refine (same_self _ _ L _ (((hi3.below hb4 (Nat.le_refl _)).below hb5 (Nat.le_refl _)).below ((Below.refl _ _).alloc (Nat.le_refl _) _) (Nat.le_refl _)) ((ho4.ints.below hb5 (Nat.le_refl _)).below ((Below.refl _ _).alloc (Nat.le_refl _) _) (Nat.le_refl _))).mono ?_; rintro e w6 ⟨rfl, hb6⟩; have bb5 : Below w5.heap.size w5 w6 := ((Below.refl _ _).alloc (Nat.le_refl _) (.cells #[.int .i64 k5, .slice i5 m5 d5, .slice i6 m6 d6] 41)).trans (hb6.mono (by simp)); have kb6 := ((kb3.keep hb4).keep hb5).keep bb5; have t0 := kb6.cell (j := 0) rfl; have t1 := kb6.cell (j := 1) rfl; have t2 := kb6.cell (j := 2) rfl; have kc6 := (Blk.new w5 41 [.int .i64 k5, .slice i5 m5 d5, .slice i6 m6 d6]).keep hb6; have y0 := kc6.cell (j := 0) rfl; have y1 := kc6.cell (j := 1) rfl; have y2 := kc6.cell (j := 2) rfl)
            | (go_at_call 25; refine (HBL.out _ _ ho4.ints).mono ?_; rintro e w5 ⟨u5, rfl, ht5, hb5⟩; obtain ⟨k5, i5, m5, d5, i6, m6, d6, rfl⟩ := ht5.slices)
            | (go_at_call 49; refine (HRF.out _ _ _ ht4).mono ?_; rintro e w4 ⟨u4, rfl, ho4, hb4⟩; obtain ⟨a4, n4, c4, rfl, _, _⟩ := ho4.ints.open)
            | (go_at_call 47; refine (HFI.out _ _ _ ht2).mono ?_; rintro e w3 ⟨u3, rfl, hi3, hb3⟩; obtain ⟨a3, n3, c3, rfl, HN3, _⟩ := hi3.open; have kb3 := (HD1.out.blk.keep hb2).keep hb3; have r0 := kb3.cell (j := 0) rfl; have r1 := kb3.cell (j := 1) rfl; have r2 := kb3.cell (j := 2) rfl; have ht4 := (HD1.out.tree.keep hb2).keep hb3)
            | (go_at_call 48; refine (give_any 101 _ t _ _ (Nat.le_refl _) HD1.out.tree.here HNA.out).mono ?_; rintro e w2 ⟨u2, rfl, ht2, hb2⟩; obtain ⟨k2, b1, m1, d1, b2, m2, d2, rfl⟩ := ht2.slices))
          go_ret
          have z2 := hb2.size
          have z3 := hb3.size
          have z4 := hb4.size
          have z5 := hb5.size
          have z6 := bb5.size
          have z8 := hb8.size
          exact ⟨rfl, HD1.out.below.trans (((hb2.trans (hb3.mono z2)).trans ((hb4.mono (by omega)).trans ((hb5.mono (by omega)).trans ((bb5.mono (by omega)).trans ((hb8.mono (by omega)).trans (hb7.mono (by omega))))))).mono HD1.out.below.size)⟩
end Go.Proofs.Ytgajaccnjjiiaaa
