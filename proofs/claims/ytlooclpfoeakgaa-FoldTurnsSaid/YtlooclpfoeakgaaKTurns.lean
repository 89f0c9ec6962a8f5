/- FoldTurns: the walk. -/
import Derived.Test.YtlooclpfoeakgaaMN
namespace Go.Proofs.Ytlooclpfoeakgaa
open Go.RowKit

theorem full_run {k : Nat} {g : List (List Int)} (hg : GoodG k g) (hf : Full k g) : ∀ {l : List UInt8} (v : Nat), v < g.length → isWord l = true → fitW k l = true → ∃ u, runS (stG k g) v l = some u ∧ u < g.length
  | [], v, hv, _, _ => ⟨v, rfl, hv⟩
  | c :: l, v, hv, h1, h2 => by
    unfold isWord at h1
    unfold fitW at h2
    rw [List.all_cons, Bool.and_eq_true] at h1 h2
    have hp := of_decide_eq_true h2.1
    cases hn : nxT g v (placeB c) with
    | none => exact absurd hn (hf v _ hv hp)
    | some x =>
      obtain ⟨u, h3, h4⟩ := full_run hg hf (l := l) x (nxT_bounds hg hn).2.2 h1.2 h2.2
      refine ⟨u, run_app_some (a := [c]) ?_ h3, h4⟩
      rw [run_one]
      show stepL k (nxT g) v c = some x
      unfold stepL
      rw [if_pos ⟨h1.1, hp⟩]
      exact hn
/-- in a whole graph a word leads where its reduced one does -/
theorem cos_red {k : Nat} {g : List (List Int)} (hg : GoodG k g) (hwh : wholeG g = true) {l : List UInt8} (h1 : isWord l = true) (h2 : fitW k l = true) {i : Nat} (hi : i < g.length) : optI (runS (stG k g) i (redW l)) = optI (runS (stG k g) i l) := by
  obtain ⟨u, h3, -⟩ := full_run hg ((whole_full hg).1 hwh) i hi h1 h2
  rw [run_red hg.foldd h3, h3]
theorem bas_small {k : Nat} {g : List (List Int)} (hg : GoodG k g) {n : Nat} (hn : g.length ≤ n) : (basisW k g).length ≤ 4 * n + 1 := by
  have h1 := words_count hg
  have h2 := edges_len k g g.length 0
  have h3 : g.length * k ≤ g.length * 4 := Nat.mul_le_mul_left _ hg.k4
  have h4 : (edgesE k g).length = (edgesTo k g g.length 0).length := rfl
  omega

set_option maxRecDepth 100000 in
set_option maxHeartbeats 4000000 in
theorem FoldTurns_any (w : World) (k0 : Int) (v1 : Value) (ss : List ByteArray) (sw : ByteArray) (hv : Strs w v1 ss) (hz : ∀ s ∈ ss, s.size ≤ 9223372036854775807) (hsw : sw.size ≤ 9223372036854775807) :
    Calls Try.prog 8 #[.int .i64 k0, v1, .string sw] w fun e w' => e = .returned (.bool true) ∧ Below w.heap.size w w' := by
  obtain ⟨a1, m, c1', rfl, HM, hm1, hm2⟩ := hv.open
  obtain ⟨kk, hkk⟩ : ∃ kk, nailsK k0 = kk := ⟨_, rfl⟩
  obtain ⟨hk1, hk4⟩ := nailsK_range k0
  rw [hkk] at hk1 hk4
  have hna := nails_any w k0
  rw [hkk] at hna
  have hgr := group_any _ ss kk w hv hz hk1 hk4
  have how := words_ok (k := kk) (many := 4) (most := 7) hk1 (by omega) (ss := ss)
  have HNA := Lib.hid hna
  have HGR := Lib.hid hgr
  have HOW := Lib.hid how
  clear hna hgr how hkk hv hz
  go_enter Try.func8, Try.ntmps8
  go_upto_region 2 with (go_at_call 18; refine HNA.out.mono ?_; rintro e w1 ⟨rfl, hw1⟩; obtain rfl := hw1.symm)
  go_upto_region 3 with (go_at_call 21; refine HGR.out.mono ?_; rintro e w2 ⟨rva, rvc, g, rfl, hg2, hr2, hb2⟩)
  have hgood : GoodG kk g := hg2.good hk1 hk4
  obtain ⟨N, hN⟩ : ∃ N, g.length = N := ⟨_, rfl⟩
  have hNs : N ≤ 25 := by
    have h1 := graph_small (by omega) hg2 (M := 6) (fun s hs => (HOW.out.2 s hs).2.1)
    have h2 := HOW.out.1
    have h3 : (wordsL kk 4 7 ss).length * 6 ≤ 4 * 6 := Nat.mul_le_mul_right 6 h2
    omega
  have hbas : (basisW kk g).length ≤ 200 := by have := bas_small hgood (n := 25) (by omega); omega
  rw [hN] at hr2
  obtain ⟨W3, hW3⟩ : ∃ W3, W3 = w2.alloc (.cells #[.int .i64 kk, .slice rva N rvc] 32) := ⟨_, rfl⟩
  have hbA : Below w.heap.size w W3 := by rw [hW3]; exact hb2.alloc hb2.size _
  have hxA : Blk W3 w2.heap.size 32 [.int .i64 kk, .slice rva N rvc] := by rw [hW3]; exact Blk.new w2 32 [.int .i64 kk, .slice rva N rvc]
  have hrA : RowsR W3 (.slice rva N rvc) g := by rw [hW3]; exact hr2.keep ((Below.refl _ _).alloc (Nat.le_refl _) _)
  obtain ⟨gb, hgb⟩ : ∃ gb, w2.heap.size = gb := ⟨_, rfl⟩
  rw [hgb] at hxA
  have HG := Lib.hid hgood
  have HX := Lib.hid hxA
  have HB3 := Lib.hid hbA
  have HRA := Lib.hid hrA
  have HN := Lib.hid hN
  have HBAS := Lib.hid hbas
  have htx := text_any sw kk 8 W3 hsw hk1 (by omega) (by omega)
  obtain ⟨tw1, tw2, tw3⟩ := text_ok (n := kk) hk1 (by omega) 8 (bts sw)
  obtain ⟨T0, hT0⟩ : ∃ T0, strB (textL kk 8 (bts sw)) = T0 := ⟨_, rfl⟩
  have hTb : bts T0 = textL kk 8 (bts sw) := by rw [← hT0]
  have hTs : T0.size ≤ 8 := by rw [← bts_len, hTb]; exact tw3
  rw [hT0] at htx
  rw [← hTb] at tw1 tw2
  have HTX := Lib.hid htx
  have HTW := Lib.hid tw1
  have HTF := Lib.hid tw2
  change Code.wp _ _ _ _ (w2.alloc (.cells #[.int .i64 kk, .slice rva g.length rvc] 32))
  rw [hN, ← hW3, hgb]
  clear hgood hW3 hbA hxA hrA hgb hN hg2 hr2 hb2 HNA HGR htx tw1 tw2 tw3 hT0 hTb hbas HOW HM hsw
  go_upto_region 4 with (go_at_call 30; refine HTX.out.mono ?_; rintro e w4 ⟨rfl, hb4⟩)
  have hS : ∀ wx, Below W3.heap.size W3 wx → wx.cell? ⟨gb, 0, none⟩ = some (.int .i64 kk) ∧ wx.cell? ⟨gb, 1, none⟩ = some (.slice rva N rvc) := fun wx hb => ⟨(HX.out.keep hb).cell (j := 0) rfl, (HX.out.keep hb).cell (j := 1) rfl⟩
  have HS := Lib.hid hS
  have HB4 := Lib.hid hb4
  obtain ⟨c0, c1⟩ := hS w4 hb4
  have h0 : cwErr kk T0 = 0 := cwErr_ok HTW.out (by omega) HTF.out
  have HTN := Lib.hid (fun wx (hb : Below W3.heap.size W3 wx) => Turn_good wx kk _ g (HRA.out.keep hb) HG.out T0 (by omega) h0 (by rw [HN.out]; omega))
  have HNO := Lib.hid (fun wx (hb : Below W3.heap.size W3 wx) => Normal_good wx kk _ g (HRA.out.keep hb) HG.out (by rw [HN.out]; omega))
  have HCO := Lib.hid (fun wx (hb : Below W3.heap.size W3 wx) => Cosets_good wx kk _ g (HRA.out.keep hb) HG.out T0 (by omega) h0)
  have HRT := Lib.hid (fun wx (hb : Below W3.heap.size W3 wx) => rTurn_any wx kk _ g (HRA.out.keep hb) HG.out T0 HTW.out HTF.out (by rw [HN.out]; omega) HBAS.out)
  have HRN := Lib.hid (fun wx (hb : Below W3.heap.size W3 wx) => rNormal_any wx kk _ g (HRA.out.keep hb) HG.out (by rw [HN.out]; omega) HBAS.out)
  have HRI := Lib.hid (fun wx (hb : Below W3.heap.size W3 wx) => rIndex_any wx kk _ g (HRA.out.keep hb) HG.out)
  have HRW := Lib.hid (fun wx i (hb : Below W3.heap.size W3 wx) (hi : i < N) => rWay_any wx kk _ g (HRA.out.keep hb) HG.out i (by rw [HN.out]; exact hi) T0 (by omega) HTW.out HTF.out)
  clear hS hb4 HTX h0
  go_upto_region 5 with (first
    | (go_at_call 22; refine (give_any _ _ _ _ _).mono ?_; rintro e w5 ⟨rfl, hb5⟩; have HB5 : Hid (Below W3.heap.size W3 w5) := Lib.hid (HB4.out.trans (hb5.mono HB4.out.size)); clear hb5)
    | (go_at_call 44; refine (HTN.out _ HB5.out).mono ?_; rintro e w6 ⟨rvt, gt, rfl, hgt, hrt, hb6⟩; obtain ⟨ta, tc, rfl, -, -⟩ := hrt.toR.shape (n := gt.length) rfl; have HB6 : Hid (Below W3.heap.size W3 w6) := Lib.hid (HB5.out.trans (hb6.mono HB5.out.size)); have HGT := Lib.hid hgt; have HRTT := Lib.hid hrt; clear hb6 hgt hrt))
  obtain ⟨GT, hGT⟩ : ∃ GT, gt.length = GT := ⟨_, rfl⟩
  have HGL := Lib.hid hGT
  rw [hGT] at HRTT ⊢
  obtain ⟨W7, hW7⟩ : ∃ W7, W7 = w6.alloc (.cells #[.int .i64 kk, .slice ta GT tc] 25) := ⟨_, rfl⟩
  have hb7 : Below W3.heap.size W3 W7 := by rw [hW7]; exact HB6.out.alloc HB6.out.size _
  have hx7 : Blk W7 w6.heap.size 25 [.int .i64 kk, .slice ta GT tc] := by rw [hW7]; exact Blk.new w6 25 [.int .i64 kk, .slice ta GT tc]
  have hr7 : RowsAt W7 w5.heap.size (.slice ta GT tc) gt (fun _ => True) := by rw [hW7]; exact HRTT.out.keep ((Below.refl _ _).alloc (Nat.le_refl _) _)
  obtain ⟨tb, htb⟩ : ∃ tb, w6.heap.size = tb := ⟨_, rfl⟩
  rw [htb] at hx7
  change Code.wp _ _ _ _ (w6.alloc (.cells #[.int .i64 kk, .slice ta GT tc] 25))
  rw [← hW7, htb]
  have hS7 : ∀ wx, Below W7.heap.size W7 wx → wx.cell? ⟨gb, 0, none⟩ = some (.int .i64 kk) ∧ wx.cell? ⟨gb, 1, none⟩ = some (.slice rva N rvc) ∧ wx.cell? ⟨tb, 0, none⟩ = some (.int .i64 kk) ∧ wx.cell? ⟨tb, 1, none⟩ = some (.slice ta GT tc) := fun wx hb =>
    ⟨(HS.out wx (hb7.trans (hb.mono hb7.size))).1, (HS.out wx (hb7.trans (hb.mono hb7.size))).2, (hx7.keep hb).cell (j := 0) rfl, (hx7.keep hb).cell (j := 1) rfl⟩
  have HS7 := Lib.hid hS7
  have HB7 := Lib.hid hb7
  have HR7 := Lib.hid hr7
  clear c0 c1 hW7 hb7 hx7 hr7 htb hS7 hGT HB4 HB5 HB6 HRTT HTN HS HX
  obtain ⟨c0, c1, c2, c3⟩ := HS7.out W7 (Below.refl _ _)
  go_upto_region 6 with (first
    | (go_at_call 22; refine (give_any _ _ _ _ _).mono ?_; rintro e w8 ⟨rfl, hb8⟩; have HB8 : Hid (Below W7.heap.size W7 w8) := Lib.hid hb8; clear hb8)
    | (go_at_call 45; refine (HNO.out _ (HB7.out.trans (HB8.out.mono HB7.out.size))).mono ?_; rintro e w9 ⟨rfl, hb9⟩; have HB9 : Hid (Below W7.heap.size W7 w9) := Lib.hid (HB8.out.trans (hb9.mono HB8.out.size)); clear hb9))
  clear c0 c1 c2 c3 HB8 HNO
  obtain ⟨c0, c1, c2, c3⟩ := HS7.out w9 HB9.out
  have hrn := HRN.out
  obtain ⟨NB, hNB⟩ : ∃ b, normB kk g = b := ⟨_, rfl⟩
  rw [hNB] at hrn ⊢
  replace HRN := Lib.hid hrn
  clear hrn hNB
  cases hwg : wholeG g with
  | false =>
    have HCF : Hid (∀ wx, Below W3.heap.size W3 wx → Calls Try.prog 46 #[.agg #[.int .i64 kk, .slice rva N rvc], .string T0] wx fun e w' => e = .returned (.tuple #[.slice none 0 0, .int .i64 4]) ∧ Below wx.heap.size wx w') := Lib.hid (fun wx hb => by
      refine (HCO.out wx hb).mono ?_
      rintro e w' ⟨⟨-, rfl⟩ | ⟨h1, -⟩, h2⟩
      · exact ⟨rfl, h2⟩
      · rw [hwg] at h1; cases h1)
    have hri := HRI.out
    rw [hwg] at hri
    replace HRI := Lib.hid hri
    clear hri HCO
    go_upto_region 7 with (first
      | (go_at_call 22; refine (give_any _ _ _ _ _).mono ?_; rintro e w10 ⟨rfl, hb10⟩; have HB10 : Hid (Below W7.heap.size W7 w10) := Lib.hid (HB9.out.trans (hb10.mono HB9.out.size)); clear hb10)
      | (go_at_call 46; refine (HCF.out _ (HB7.out.trans (HB10.out.mono HB7.out.size))).mono ?_; rintro e w11 ⟨rfl, hb11⟩; have HB11 : Hid (Below W7.heap.size W7 w11) := Lib.hid (HB10.out.trans (hb11.mono HB10.out.size)); clear hb11))
    clear c0 c1 c2 c3 HB9 HB10 HCF
    refine wp_region_held_drew (S := fun w' => w'.cell? ⟨gb, 0, none⟩ = some (.int .i64 kk) ∧ w'.cell? ⟨gb, 1, none⟩ = some (.slice rva N rvc) ∧ w'.cell? ⟨tb, 0, none⟩ = some (.int .i64 kk) ∧ w'.cell? ⟨tb, 1, none⟩ = some (.slice ta GT tc)) (by kernel_rfl) (HS7.out _ (HB11.out.trans (((Below.refl w11.heap.size w11).drewN' 1).mono HB11.out.size))) (fun hHeld => ?_)
    refine takeH 0 (v := ?_) rfl (by kernel_rfl) (by kernel_rfl) (by kernel_rfl) (fun _ _ _ h => h) (by rfl) ?_ hHeld ?_
    rotate_left
    · (intro w hSw; (try dsimp only at hSw); go_simp; try with_reducible rfl)
    try simp only [Act.put, List.setIfInBounds_toArray, List.set_cons_zero, List.set_cons_succ]
    refine takeH 1 (v := ?_) rfl (by kernel_rfl) (by kernel_rfl) (by kernel_rfl) (fun _ _ _ h => h) (by rfl) ?_ hHeld ?_
    rotate_left
    · (intro w hSw; (try dsimp only at hSw); go_simp; try with_reducible rfl)
    try simp only [Act.put, List.setIfInBounds_toArray, List.set_cons_zero, List.set_cons_succ]
    refine takeH 2 (v := ?_) rfl (by kernel_rfl) (by kernel_rfl) (by kernel_rfl) (fun _ _ _ h => h) (by rfl) ?_ hHeld ?_
    rotate_left
    · (intro w hSw; (try dsimp only at hSw); go_simp; try with_reducible rfl)
    try simp only [Act.put, List.setIfInBounds_toArray, List.set_cons_zero, List.set_cons_succ]
    refine takeH 3 (v := ?_) rfl (by kernel_rfl) (by kernel_rfl) (by kernel_rfl) (fun _ _ _ h => h) (by rfl) ?_ hHeld ?_
    rotate_left
    · (intro w hSw; (try dsimp only at hSw); go_simp; try with_reducible rfl)
    try simp only [Act.put, List.setIfInBounds_toArray, List.set_cons_zero, List.set_cons_succ]
    refine takeH 4 (v := ?_) rfl (by kernel_rfl) (by kernel_rfl) (by kernel_rfl) (fun _ _ _ h => h) (by rfl) ?_ hHeld ?_
    rotate_left
    · (intro w hSw; (try dsimp only at hSw); go_simp; try with_reducible rfl)
    try simp only [Act.put, List.setIfInBounds_toArray, List.set_cons_zero, List.set_cons_succ]
    refine takeH 5 (v := ?_) rfl (by kernel_rfl) (by kernel_rfl) (by kernel_rfl) (fun _ _ _ h => h) (by rfl) ?_ hHeld ?_
    rotate_left
    · (intro w hSw; (try dsimp only at hSw); go_simp; try with_reducible rfl)
    try simp only [Act.put, List.setIfInBounds_toArray, List.set_cons_zero, List.set_cons_succ]
    refine takeH 6 (v := ?_) rfl (by kernel_rfl) (by kernel_rfl) (by kernel_rfl) (fun _ _ _ h => h) (by rfl) ?_ hHeld ?_
    rotate_left
    · (intro w hSw; (try dsimp only at hSw); go_simp; try with_reducible rfl)
    try simp only [Act.put, List.setIfInBounds_toArray, List.set_cons_zero, List.set_cons_succ]
    refine takeH 7 (v := ?_) rfl (by kernel_rfl) (by kernel_rfl) (by kernel_rfl) (fun _ _ _ h => h) (by rfl) ?_ hHeld ?_
    rotate_left
    · (intro w hSw; (try dsimp only at hSw); go_simp; try with_reducible rfl)
    try simp only [Act.put, List.setIfInBounds_toArray, List.set_cons_zero, List.set_cons_succ]
    refine takeH 8 (v := ?_) rfl (by kernel_rfl) (by kernel_rfl) (by kernel_rfl) (fun _ _ _ h => h) (by rfl) ?_ hHeld ?_
    rotate_left
    · (intro w hSw; (try dsimp only at hSw); go_simp; try with_reducible rfl)
    try simp only [Act.put, List.setIfInBounds_toArray, List.set_cons_zero, List.set_cons_succ]
    refine takeH 9 (v := ?_) rfl (by kernel_rfl) (by kernel_rfl) (by kernel_rfl) (fun _ _ _ h => h) (by rfl) ?_ hHeld ?_
    rotate_left
    · (intro w hSw; (try dsimp only at hSw); go_simp; try with_reducible rfl)
    try simp only [Act.put, List.setIfInBounds_toArray, List.set_cons_zero, List.set_cons_succ]
    refine oneH 10 (by kernel_rfl) rfl (fun K hK => ?_)
    go_simp
    go_at_call 47
    refine (HRT.out _ (HB7.out.trans ((HB11.out.trans (((Below.refl w11.heap.size w11).drewN' 1).mono HB11.out.size)).mono HB7.out.size))).mono ?_
    rintro e w12 ⟨rv12, g12, rfl, hg12, hr12, hb12⟩
    have hb12' : Below W7.heap.size W7 w12 := HB11.out.trans ((((Below.refl w11.heap.size w11).drewN' 1).trans (by exact hb12)).mono HB11.out.size)
    dsimp only
    refine hK.out _ _ (HS7.out _ hb12') (fun hHeld => ?_)
    clear hK K
    try simp only [Act.put, List.setIfInBounds_toArray, List.set_cons_zero, List.set_cons_succ]
    refine oneH 11 (by kernel_rfl) rfl (fun K hK => ?_)
    go_simp
    go_at_call 16
    have hsame : gt = g12 := isGraphN_turn HG.out (Eqv.red (bts T0)).symm hg12 HGT.out
    rw [← hsame] at hr12
    have hst := same_true w12 kk _ _ _ rv12 gt _ _ (HR7.out.keep hb12') hr12
    refine hst.mono ?_
    rintro e w13 ⟨rfl, hb13⟩
    have hb13' : Below W7.heap.size W7 w13 := hb12'.trans (hb13.mono hb12'.size)
    dsimp only
    refine hK.out _ _ (HS7.out _ hb13') (fun hHeld => ?_)
    clear hK K
    try simp only [Act.put, List.setIfInBounds_toArray, List.set_cons_zero, List.set_cons_succ]
    refine takeH 12 (v := ?_) rfl (by kernel_rfl) (by kernel_rfl) (by kernel_rfl) (fun _ _ _ h => h) (by rfl) ?_ hHeld ?_
    rotate_left
    · (intro w hSw; (try dsimp only at hSw); go_simp; try with_reducible rfl)
    try simp only [Act.put, List.setIfInBounds_toArray, List.set_cons_zero, List.set_cons_succ]
    refine takeH 13 (v := ?_) rfl (by kernel_rfl) (by kernel_rfl) (by kernel_rfl) (fun _ _ _ h => h) (by rfl) ?_ hHeld ?_
    rotate_left
    · (intro w hSw; (try dsimp only at hSw); go_simp; try with_reducible rfl)
    try simp only [Act.put, List.setIfInBounds_toArray, List.set_cons_zero, List.set_cons_succ]
    refine takeH 14 (v := ?_) rfl (by kernel_rfl) (by kernel_rfl) (by kernel_rfl) (fun _ _ _ h => h) (by rfl) ?_ hHeld ?_
    rotate_left
    · (intro w hSw; (try dsimp only at hSw); go_simp; try with_reducible rfl)
    try simp only [Act.put, List.setIfInBounds_toArray, List.set_cons_zero, List.set_cons_succ]
    refine takeH 15 (v := ?_) rfl (by kernel_rfl) (by kernel_rfl) (by kernel_rfl) (fun _ _ _ h => h) (by rfl) ?_ hHeld ?_
    rotate_left
    · (intro w hSw; (try dsimp only at hSw); go_simp; try with_reducible rfl)
    try simp only [Act.put, List.setIfInBounds_toArray, List.set_cons_zero, List.set_cons_succ]
    refine takeH 16 (v := ?_) rfl (by kernel_rfl) (by kernel_rfl) (by kernel_rfl) (fun _ _ _ h => h) (by rfl) ?_ hHeld ?_
    rotate_left
    · (intro w hSw; (try dsimp only at hSw); go_simp; try with_reducible rfl)
    try simp only [Act.put, List.setIfInBounds_toArray, List.set_cons_zero, List.set_cons_succ]
    refine oneH 17 (by kernel_rfl) rfl (fun K hK => ?_)
    go_simp
    go_at_call 48
    refine (HRN.out _ (HB7.out.trans (hb13'.mono HB7.out.size))).mono ?_
    rintro e w14 ⟨rfl, hb14⟩
    have hb14' : Below W7.heap.size W7 w14 := hb13'.trans (hb14.mono hb13'.size)
    dsimp only
    refine hK.out _ _ (HS7.out _ hb14') (fun hHeld => ?_)
    clear hK K
    try simp only [Act.put, List.setIfInBounds_toArray, List.set_cons_zero, List.set_cons_succ]
    refine takeH 18 (v := ?_) rfl (by kernel_rfl) (by kernel_rfl) (by kernel_rfl) (fun _ _ _ h => h) (by rfl) ?_ hHeld ?_
    rotate_left
    · (intro w hSw; (try dsimp only at hSw); go_simp; try with_reducible rfl)
    try simp only [Act.put, List.setIfInBounds_toArray, List.set_cons_zero, List.set_cons_succ]
    refine takeH 19 (v := ?_) rfl (by kernel_rfl) (by kernel_rfl) (by kernel_rfl) (fun _ _ _ h => h) (by rfl) ?_ hHeld ?_
    rotate_left
    · (intro w hSw; (try dsimp only at hSw); go_simp; try with_reducible rfl)
    try simp only [Act.put, List.setIfInBounds_toArray, List.set_cons_zero, List.set_cons_succ]
    refine wpAnyH_done (by kernel_rfl) ?_ _
    have HB14 := Lib.hid hb14'
    have HBX : Hid (Below w11.heap.size w11 w14) := Lib.hid (((((Below.refl w11.heap.size w11).drewN' 1).trans (by exact hb12)).trans (hb13.mono (Nat.le_trans (by simp) hb12.size))).trans (hb14.mono (Nat.le_trans (Nat.le_trans (by simp) hb12.size) hb13.size)))
    obtain ⟨c0, c1, c2, c3⟩ := HS7.out _ HB14.out
    clear hst hg12 hr12 hb12 hb12' hb13 hb13' hb14 hb14' hHeld
    cases NB
    all_goals
      go_wp2_with (first
        | (go_at_call 27; refine (HRI.out _ (HB7.out.trans (HB14.out.mono HB7.out.size))).mono ?_; rintro e w15 ⟨rfl, hb15⟩; have HB15 : Hid (Below W7.heap.size W7 w15) := Lib.hid (HB14.out.trans (hb15.mono HB14.out.size)); clear hb15)
        | (go_at_call 20; refine (awake_any _).mono ?_; rintro e w16 ⟨rfl, hb16⟩; have HB16 : Hid (Below W7.heap.size W7 w16) := Lib.hid (HB15.out.trans (hb16.mono HB15.out.size)); clear hb16))
      go_ret
      exact ⟨rfl, HB3.out.trans ((HB7.out.trans (HB16.out.mono HB7.out.size)).mono HB3.out.size)⟩
  | true =>
    have HCF : Hid (∀ wx, Below W3.heap.size W3 wx → Calls Try.prog 46 #[.agg #[.int .i64 kk, .slice rva N rvc], .string T0] wx fun e w' => ∃ v, e = .returned (.tuple #[v, .int .i64 0]) ∧ IntsR w' v (cosL kk g (bts T0) N) ∧ Below wx.heap.size wx w') := Lib.hid (fun wx hb => by
      refine (HCO.out wx hb).mono ?_
      rintro e w' ⟨⟨h1, -⟩ | ⟨h1, v, rfl, hv⟩, h2⟩
      · rw [hwg] at h1; cases h1
      · refine ⟨v, rfl, ?_, h2⟩
        have e : cosL kk g (redW (bts T0)) g.length = cosL kk g (bts T0) N := by
          unfold cosL
          rw [HN.out]
          refine List.map_congr_left fun i hi => ?_
          exact cos_red HG.out hwg HTW.out HTF.out (by rw [HN.out]; exact List.mem_range.1 hi)
        rwa [e] at hv)
    have hri := HRI.out
    rw [hwg] at hri
    replace HRI := Lib.hid hri
    clear hri HCO
    have hcl := cosL_len kk g (bts T0) N
    go_upto_region 7 with (first
      | (go_at_call 22; refine (give_any _ _ _ _ _).mono ?_; rintro e w10 ⟨rfl, hb10⟩; have HB10 : Hid (Below W7.heap.size W7 w10) := Lib.hid (HB9.out.trans (hb10.mono HB9.out.size)); clear hb10)
      | (go_at_call 46; refine (HCF.out _ (HB7.out.trans (HB10.out.mono HB7.out.size))).mono ?_; rintro e w11 ⟨cv, rfl, hcv, hb11⟩; obtain ⟨ca, cc, rfl, -, -⟩ := hcv.shape hcl; have HCV := Lib.hid hcv; have HB11 : Hid (Below W7.heap.size W7 w11) := Lib.hid (HB10.out.trans (hb11.mono HB10.out.size)); clear hb11 hcv))
    have hCC : ∀ i, i < N → (cosL kk g (bts T0) N)[i]? = some (optI (runS (stepL kk (nxT g)) i (bts T0))) := fun i hi => by
      unfold cosL
      rw [List.getElem?_map, List.getElem?_range hi]; rfl
    have HCC := Lib.hid hCC
    clear c0 c1 c2 c3 HB9 HB10 HCF hcl hCC
    refine wp_region_held_drew (S := fun w' => w'.cell? ⟨gb, 0, none⟩ = some (.int .i64 kk) ∧ w'.cell? ⟨gb, 1, none⟩ = some (.slice rva N rvc) ∧ w'.cell? ⟨tb, 0, none⟩ = some (.int .i64 kk) ∧ w'.cell? ⟨tb, 1, none⟩ = some (.slice ta GT tc)) (by kernel_rfl) (HS7.out _ (HB11.out.trans (((Below.refl w11.heap.size w11).drewN' 1).mono HB11.out.size))) (fun hHeld => ?_)
    refine takeH 0 (v := ?_) rfl (by kernel_rfl) (by kernel_rfl) (by kernel_rfl) (fun _ _ _ h => h) (by rfl) ?_ hHeld ?_
    rotate_left
    · (intro w hSw; (try dsimp only at hSw); go_simp; try with_reducible rfl)
    try simp only [Act.put, List.setIfInBounds_toArray, List.set_cons_zero, List.set_cons_succ]
    refine takeH 1 (v := ?_) rfl (by kernel_rfl) (by kernel_rfl) (by kernel_rfl) (fun _ _ _ h => h) (by rfl) ?_ hHeld ?_
    rotate_left
    · (intro w hSw; (try dsimp only at hSw); go_simp; try with_reducible rfl)
    try simp only [Act.put, List.setIfInBounds_toArray, List.set_cons_zero, List.set_cons_succ]
    refine takeH 2 (v := ?_) rfl (by kernel_rfl) (by kernel_rfl) (by kernel_rfl) (fun _ _ _ h => h) (by rfl) ?_ hHeld ?_
    rotate_left
    · (intro w hSw; (try dsimp only at hSw); go_simp; try with_reducible rfl)
    try simp only [Act.put, List.setIfInBounds_toArray, List.set_cons_zero, List.set_cons_succ]
    refine takeH 3 (v := ?_) rfl (by kernel_rfl) (by kernel_rfl) (by kernel_rfl) (fun _ _ _ h => h) (by rfl) ?_ hHeld ?_
    rotate_left
    · (intro w hSw; (try dsimp only at hSw); go_simp; try with_reducible rfl)
    try simp only [Act.put, List.setIfInBounds_toArray, List.set_cons_zero, List.set_cons_succ]
    refine takeH 4 (v := ?_) rfl (by kernel_rfl) (by kernel_rfl) (by kernel_rfl) (fun _ _ _ h => h) (by rfl) ?_ hHeld ?_
    rotate_left
    · (intro w hSw; (try dsimp only at hSw); go_simp; try with_reducible rfl)
    try simp only [Act.put, List.setIfInBounds_toArray, List.set_cons_zero, List.set_cons_succ]
    refine takeH 5 (v := ?_) rfl (by kernel_rfl) (by kernel_rfl) (by kernel_rfl) (fun _ _ _ h => h) (by rfl) ?_ hHeld ?_
    rotate_left
    · (intro w hSw; (try dsimp only at hSw); go_simp; try with_reducible rfl)
    try simp only [Act.put, List.setIfInBounds_toArray, List.set_cons_zero, List.set_cons_succ]
    refine takeH 6 (v := ?_) rfl (by kernel_rfl) (by kernel_rfl) (by kernel_rfl) (fun _ _ _ h => h) (by rfl) ?_ hHeld ?_
    rotate_left
    · (intro w hSw; (try dsimp only at hSw); go_simp; try with_reducible rfl)
    try simp only [Act.put, List.setIfInBounds_toArray, List.set_cons_zero, List.set_cons_succ]
    refine takeH 7 (v := ?_) rfl (by kernel_rfl) (by kernel_rfl) (by kernel_rfl) (fun _ _ _ h => h) (by rfl) ?_ hHeld ?_
    rotate_left
    · (intro w hSw; (try dsimp only at hSw); go_simp; try with_reducible rfl)
    try simp only [Act.put, List.setIfInBounds_toArray, List.set_cons_zero, List.set_cons_succ]
    refine takeH 8 (v := ?_) rfl (by kernel_rfl) (by kernel_rfl) (by kernel_rfl) (fun _ _ _ h => h) (by rfl) ?_ hHeld ?_
    rotate_left
    · (intro w hSw; (try dsimp only at hSw); go_simp; try with_reducible rfl)
    try simp only [Act.put, List.setIfInBounds_toArray, List.set_cons_zero, List.set_cons_succ]
    refine takeH 9 (v := ?_) rfl (by kernel_rfl) (by kernel_rfl) (by kernel_rfl) (fun _ _ _ h => h) (by rfl) ?_ hHeld ?_
    rotate_left
    · (intro w hSw; (try dsimp only at hSw); go_simp; try with_reducible rfl)
    try simp only [Act.put, List.setIfInBounds_toArray, List.set_cons_zero, List.set_cons_succ]
    refine oneH 10 (by kernel_rfl) rfl (fun K hK => ?_)
    go_simp
    go_at_call 47
    refine (HRT.out _ (HB7.out.trans ((HB11.out.trans (((Below.refl w11.heap.size w11).drewN' 1).mono HB11.out.size)).mono HB7.out.size))).mono ?_
    rintro e w12 ⟨rv12, g12, rfl, hg12, hr12, hb12⟩
    have hb12' : Below W7.heap.size W7 w12 := HB11.out.trans ((((Below.refl w11.heap.size w11).drewN' 1).trans (by exact hb12)).mono HB11.out.size)
    dsimp only
    refine hK.out _ _ (HS7.out _ hb12') (fun hHeld => ?_)
    clear hK K
    try simp only [Act.put, List.setIfInBounds_toArray, List.set_cons_zero, List.set_cons_succ]
    refine oneH 11 (by kernel_rfl) rfl (fun K hK => ?_)
    go_simp
    go_at_call 16
    have hsame : gt = g12 := isGraphN_turn HG.out (Eqv.red (bts T0)).symm hg12 HGT.out
    rw [← hsame] at hr12
    have hst := same_true w12 kk _ _ _ rv12 gt _ _ (HR7.out.keep hb12') hr12
    refine hst.mono ?_
    rintro e w13 ⟨rfl, hb13⟩
    have hb13' : Below W7.heap.size W7 w13 := hb12'.trans (hb13.mono hb12'.size)
    dsimp only
    refine hK.out _ _ (HS7.out _ hb13') (fun hHeld => ?_)
    clear hK K
    try simp only [Act.put, List.setIfInBounds_toArray, List.set_cons_zero, List.set_cons_succ]
    refine takeH 12 (v := ?_) rfl (by kernel_rfl) (by kernel_rfl) (by kernel_rfl) (fun _ _ _ h => h) (by rfl) ?_ hHeld ?_
    rotate_left
    · (intro w hSw; (try dsimp only at hSw); go_simp; try with_reducible rfl)
    try simp only [Act.put, List.setIfInBounds_toArray, List.set_cons_zero, List.set_cons_succ]
    refine takeH 13 (v := ?_) rfl (by kernel_rfl) (by kernel_rfl) (by kernel_rfl) (fun _ _ _ h => h) (by rfl) ?_ hHeld ?_
    rotate_left
    · (intro w hSw; (try dsimp only at hSw); go_simp; try with_reducible rfl)
    try simp only [Act.put, List.setIfInBounds_toArray, List.set_cons_zero, List.set_cons_succ]
    refine takeH 14 (v := ?_) rfl (by kernel_rfl) (by kernel_rfl) (by kernel_rfl) (fun _ _ _ h => h) (by rfl) ?_ hHeld ?_
    rotate_left
    · (intro w hSw; (try dsimp only at hSw); go_simp; try with_reducible rfl)
    try simp only [Act.put, List.setIfInBounds_toArray, List.set_cons_zero, List.set_cons_succ]
    refine takeH 15 (v := ?_) rfl (by kernel_rfl) (by kernel_rfl) (by kernel_rfl) (fun _ _ _ h => h) (by rfl) ?_ hHeld ?_
    rotate_left
    · (intro w hSw; (try dsimp only at hSw); go_simp; try with_reducible rfl)
    try simp only [Act.put, List.setIfInBounds_toArray, List.set_cons_zero, List.set_cons_succ]
    refine takeH 16 (v := ?_) rfl (by kernel_rfl) (by kernel_rfl) (by kernel_rfl) (fun _ _ _ h => h) (by rfl) ?_ hHeld ?_
    rotate_left
    · (intro w hSw; (try dsimp only at hSw); go_simp; try with_reducible rfl)
    try simp only [Act.put, List.setIfInBounds_toArray, List.set_cons_zero, List.set_cons_succ]
    refine oneH 17 (by kernel_rfl) rfl (fun K hK => ?_)
    go_simp
    go_at_call 48
    refine (HRN.out _ (HB7.out.trans (hb13'.mono HB7.out.size))).mono ?_
    rintro e w14 ⟨rfl, hb14⟩
    have hb14' : Below W7.heap.size W7 w14 := hb13'.trans (hb14.mono hb13'.size)
    dsimp only
    refine hK.out _ _ (HS7.out _ hb14') (fun hHeld => ?_)
    clear hK K
    try simp only [Act.put, List.setIfInBounds_toArray, List.set_cons_zero, List.set_cons_succ]
    refine takeH 18 (v := ?_) rfl (by kernel_rfl) (by kernel_rfl) (by kernel_rfl) (fun _ _ _ h => h) (by rfl) ?_ hHeld ?_
    rotate_left
    · (intro w hSw; (try dsimp only at hSw); go_simp; try with_reducible rfl)
    try simp only [Act.put, List.setIfInBounds_toArray, List.set_cons_zero, List.set_cons_succ]
    refine takeH 19 (v := ?_) rfl (by kernel_rfl) (by kernel_rfl) (by kernel_rfl) (fun _ _ _ h => h) (by rfl) ?_ hHeld ?_
    rotate_left
    · (intro w hSw; (try dsimp only at hSw); go_simp; try with_reducible rfl)
    try simp only [Act.put, List.setIfInBounds_toArray, List.set_cons_zero, List.set_cons_succ]
    refine wpAnyH_done (by kernel_rfl) ?_ _
    have HB14 := Lib.hid hb14'
    have HBX : Hid (Below w11.heap.size w11 w14) := Lib.hid (((((Below.refl w11.heap.size w11).drewN' 1).trans (by exact hb12)).trans (hb13.mono (Nat.le_trans (by simp) hb12.size))).trans (hb14.mono (Nat.le_trans (Nat.le_trans (by simp) hb12.size) hb13.size)))
    obtain ⟨c0, c1, c2, c3⟩ := HS7.out _ HB14.out
    clear hst hg12 hr12 hb12 hb12' hb13 hb13' hb14 hb14' hHeld
    have HV14 := Lib.hid (HCV.out.keep (show Below w11.heap.size w11 w14 from HBX.out))
    cases NB
    all_goals
      go_upto_region 9 with fail
      go_upto_region 10 with (go_at_call 27; refine (HRI.out _ (HB7.out.trans (HB14.out.mono HB7.out.size))).mono ?_; rintro e w15 ⟨rfl, hb15⟩; have HB15 : Hid (Below W7.heap.size W7 w15) := Lib.hid (HB14.out.trans (hb15.mono HB14.out.size)); have HV15 := Lib.hid (HV14.out.keep hb15); clear hb15)
      clear c0 c1 c2 c3
      obtain ⟨c0, c1, c2, c3⟩ := HS7.out _ HB15.out
      have HV0 : Hid (Below w15.heap.size w15 w15) := Lib.hid (Below.refl _ _)
      go_wp2_with fail
      go_loopw [17] (fun iv wr => ∃ i : Nat, i ≤ N ∧ iv = .int .i64 i ∧ Hid (Below w15.heap.size w15 wr)) (fun iv _ => N - (intOf iv).toNat)
      case atStart => exact ⟨0, by omega, rfl, HV0⟩
      case round =>
        clear HV0 c0 c1 c2 c3
        obtain ⟨i, hi, rfl, HVW⟩ := hrel
        have HBW : Hid (Below W7.heap.size W7 wr) := Lib.hid (HB15.out.trans (HVW.out.mono HB15.out.size))
        by_cases hlt : i < N
        · obtain ⟨b, hca, hcell⟩ := HV15.out.at_ (Below.refl _ _) (HCC.out i hlt)
          subst hca
          have hrw := fun wx (hb : Below W3.heap.size W3 wx) => HRW.out wx i hb hlt
          obtain ⟨z, hz⟩ : ∃ z, optI (runS (stepL kk (nxT g)) i (bts T0)) = z := ⟨_, rfl⟩
          rw [hz] at hrw hcell
          have hSC : ∀ wx, Below w15.heap.size w15 wx → wx.cell? ⟨gb, 0, none⟩ = some (.int .i64 kk) ∧ wx.cell? ⟨gb, 1, none⟩ = some (.slice rva N rvc) ∧ wx.cell? ⟨b, i, none⟩ = some (.int .i64 z) := fun wx hb =>
            have h7 := HS7.out wx (HB15.out.trans (hb.mono HB15.out.size))
            ⟨h7.1, h7.2.1, (hb.cell (p := ⟨b, i, none⟩) (cell_lt hcell)).trans hcell⟩
          have i0 : (0 : Int) ≤ i := by omega
          have i1 : (i : Int) < N := by omega
          have HSC := Lib.hid hSC
          have HRZ := Lib.hid hrw
          have hdr : Below w15.heap.size w15 wr.drew := HVW.out.trans (((Below.refl wr.heap.size wr).drewN' 1).mono HVW.out.size)
          have HDR := Lib.hid hdr
          clear hrw hz hcell hSC hdr
          go_upto_region 17 with fail
          refine wp_region_noPanic ?_
          refine wp_region_held_drew (S := fun w' => w'.cell? ⟨gb, 0, none⟩ = some (.int .i64 kk) ∧ w'.cell? ⟨gb, 1, none⟩ = some (.slice rva N rvc) ∧ w'.cell? ⟨b, i, none⟩ = some (.int .i64 z)) (by kernel_rfl) (HSC.out _ HDR.out) (fun hHeld => ?_)
          refine takeH 0 (v := ?_) rfl (by kernel_rfl) (by kernel_rfl) (by kernel_rfl) (fun _ _ _ h => h) (by rfl) ?_ hHeld ?_
          rotate_left
          · (intro w hSw; (try dsimp only at hSw); go_simp; try with_reducible rfl)
          try simp only [Act.put, List.setIfInBounds_toArray, List.set_cons_zero, List.set_cons_succ]
          refine takeH 1 (v := ?_) rfl (by kernel_rfl) (by kernel_rfl) (by kernel_rfl) (fun _ _ _ h => h) (by rfl) ?_ hHeld ?_
          rotate_left
          · (intro w hSw; (try dsimp only at hSw); go_simp; try with_reducible rfl)
          try simp only [Act.put, List.setIfInBounds_toArray, List.set_cons_zero, List.set_cons_succ]
          refine takeH 2 (v := ?_) rfl (by kernel_rfl) (by kernel_rfl) (by kernel_rfl) (fun _ _ _ h => h) (by rfl) ?_ hHeld ?_
          rotate_left
          · (intro w hSw; (try dsimp only at hSw); go_simp; try with_reducible rfl)
          try simp only [Act.put, List.setIfInBounds_toArray, List.set_cons_zero, List.set_cons_succ]
          refine takeH 3 (v := ?_) rfl (by kernel_rfl) (by kernel_rfl) (by kernel_rfl) (fun _ _ _ h => h) (by rfl) ?_ hHeld ?_
          rotate_left
          · (intro w hSw; (try dsimp only at hSw); go_simp; try with_reducible rfl)
          try simp only [Act.put, List.setIfInBounds_toArray, List.set_cons_zero, List.set_cons_succ]
          refine takeH 4 (v := ?_) rfl (by kernel_rfl) (by kernel_rfl) (by kernel_rfl) (fun _ _ _ h => h) (by rfl) ?_ hHeld ?_
          rotate_left
          · (intro w hSw; (try dsimp only at hSw); go_simp; try with_reducible rfl)
          try simp only [Act.put, List.setIfInBounds_toArray, List.set_cons_zero, List.set_cons_succ]
          refine takeH 5 (v := ?_) rfl (by kernel_rfl) (by kernel_rfl) (by kernel_rfl) (fun _ _ _ h => h) (by rfl) ?_ hHeld ?_
          rotate_left
          · (intro w hSw; (try dsimp only at hSw); go_simp; try with_reducible rfl)
          try simp only [Act.put, List.setIfInBounds_toArray, List.set_cons_zero, List.set_cons_succ]
          refine takeH 6 (v := ?_) rfl (by kernel_rfl) (by kernel_rfl) (by kernel_rfl) (fun _ _ _ h => h) (by rfl) ?_ hHeld ?_
          rotate_left
          · (intro w hSw; (try dsimp only at hSw); go_simp; try with_reducible rfl)
          try simp only [Act.put, List.setIfInBounds_toArray, List.set_cons_zero, List.set_cons_succ]
          refine oneH 7 (by kernel_rfl) rfl (fun K hK => ?_)
          go_simp
          go_at_call 49
          refine (HRZ.out _ (HB7.out.trans ((HB15.out.trans (HDR.out.mono HB15.out.size)).mono HB7.out.size))).mono ?_
          rintro e w16 ⟨rfl, hb16⟩
          have hb16' : Below w15.heap.size w15 w16 := HDR.out.trans (hb16.mono HDR.out.size)
          dsimp only
          refine hK.out _ _ (HSC.out _ hb16') (fun hHeld => ?_)
          clear hK K
          try simp only [Act.put, List.setIfInBounds_toArray, List.set_cons_zero, List.set_cons_succ]
          refine takeH 8 (v := ?_) rfl (by kernel_rfl) (by kernel_rfl) (by kernel_rfl) (fun _ _ _ h => h) (by rfl) ?_ hHeld ?_
          rotate_left
          · (intro w hSw; (try dsimp only at hSw); go_simp; try with_reducible rfl)
          try simp only [Act.put, List.setIfInBounds_toArray, List.set_cons_zero, List.set_cons_succ]
          refine wpAnyH_done (by kernel_rfl) ?_ _
          refine NoPanic.normal ?_
          have HB16 := Lib.hid hb16'
          clear hb16 hb16' hHeld
          go_wp2_with fail
          go_roundw
          case rel => exact ⟨i + 1, by omega, by go_num, HB16⟩
          case measure => simp [intOf]; omega
        · obtain rfl : i = N := by omega
          go_wp2_with (go_at_call 20; refine (awake_any _).mono ?_; rintro e w17 ⟨rfl, hb17⟩; have HB17 : Hid (Below W7.heap.size W7 w17) := Lib.hid (HBW.out.trans (hb17.mono HBW.out.size)); clear hb17)
          go_ret
          exact ⟨rfl, HB3.out.trans ((HB7.out.trans (HB17.out.mono HB7.out.size)).mono HB3.out.size)⟩
end Go.Proofs.Ytlooclpfoeakgaa
