/- FoldGroups: the walk. -/
import Derived.Test.YtlooclpfoeakgaaMK
import Derived.Test.YtlooclpfoeakgaaKFree
namespace Go.Proofs.Ytlooclpfoeakgaa
open Go.RowKit

/-- a word of k nails, of few letters -/
structure WordK (k m : Nat) (s : ByteArray) : Prop where
  word : isWord (bts s) = true
  fit : fitW k (bts s) = true
  size : s.size ≤ m
theorem fitW_app {k : Nat} {a b : List UInt8} (ha : fitW k a = true) (hb : fitW k b = true) : fitW k (a ++ b) = true := by
  unfold fitW at *
  rw [List.all_append, ha, hb]; rfl
theorem fitW_inv {k : Nat} (hk : k ≤ 26) {l : List UInt8} (hw : isWord l = true) (h : fitW k l = true) : fitW k (invL l) = true := by
  unfold fitW at *
  rw [List.all_eq_true] at *
  intro x hx
  unfold invL at hx
  obtain ⟨y, hy, rfl⟩ := List.mem_map.1 (List.mem_reverse.1 hx)
  have hl : letter y.toNat = true := List.all_eq_true.1 (show l.all _ = true from hw) y hy
  rw [place_inv y hl]
  exact decide_eq_true (xor_one_lt k _ hk (of_decide_eq_true (h y hy)))
theorem WordK.text {k : Nat} (h1 : 1 ≤ k) (h2 : k ≤ 26) (m : Nat) (l : List UInt8) : WordK k m (strB (textL k m l)) := by
  obtain ⟨a, b, c⟩ := text_ok h1 h2 m l
  exact ⟨a, b, c⟩
theorem WordK.app {k m n : Nat} {s t : ByteArray} (hs : WordK k m s) (ht : WordK k n t) : WordK k (m + n) (s ++ t) :=
  ⟨by rw [bts_add]; exact isWord_app hs.word ht.word, by rw [bts_add]; exact fitW_app hs.fit ht.fit, by rw [ByteArray.size_append]; have := hs.size; have := ht.size; omega⟩
theorem WordK.inv {k m : Nat} (hk : k ≤ 26) {s : ByteArray} (hs : WordK k m s) : WordK k m (strB (invL (bts s))) :=
  ⟨isWord_invL hs.word, fitW_inv hk hs.word hs.fit, by rw [size_str, invL_len, bts_len]; exact hs.size⟩

theorem numbers_true (w : World) (u1 u2 : Value) (r : List Int) (h1 : IntsR w u1 r) (h2 : IntsR w u2 r) (hl : r.length < 1000000000) :
    Calls Try.prog 34 #[u1, u2] w fun e w' => e = .returned (.bool true) ∧ Below w.heap.size w w' := by
  have := numbers_any w u1 u2 r r h1 h2 hl
  rw [decide_eq_true rfl] at this
  exact this
theorem expr_fit {k : Nat} {g : List (List Int)} (hg : GoodG k g) : ∀ (w : List UInt8) (v : Nat), ∀ x ∈ exprQ k g v w, x ≠ 0 ∧ x.natAbs ≤ (basisW k g).length
  | [], _, x, hx => by cases hx
  | c :: w, v, x, hx => by
    rw [exprQ] at hx
    cases hn : nxT g v (placeB c) with
    | none => rw [hn] at hx; cases hx
    | some u =>
      rw [hn] at hx
      rcases List.mem_append.1 hx with h | h
      · unfold nzL at h
        split at h
        · cases h
        · rename_i h0
          rw [List.mem_singleton.1 h]
          exact ⟨h0, numQ_bound hg v (placeB c)⟩
      · exact expr_fit hg w u x h
set_option maxRecDepth 100000 in
set_option maxHeartbeats 4000000 in
theorem FoldGroups_any (w : World) (k0 : Int) (v1 : Value) (ss : List ByteArray) (sw : ByteArray) (hv : Strs w v1 ss) (hz : ∀ s ∈ ss, s.size ≤ 9223372036854775807) (hsw : sw.size ≤ 9223372036854775807) :
    Calls Try.prog 4 #[.int .i64 k0, v1, .string sw] w fun e w' => e = .returned (.bool true) ∧ Below w.heap.size w w' := by
  obtain ⟨a1, m, c1', rfl, HM, hm1, hm2⟩ := hv.open
  obtain ⟨kk, hkk⟩ : ∃ kk, nailsK k0 = kk := ⟨_, rfl⟩
  obtain ⟨hk1, hk4⟩ := nailsK_range k0
  rw [hkk] at hk1 hk4
  have hna := nails_any w k0
  rw [hkk] at hna
  have hgr := group_any _ ss kk w hv hz hk1 hk4
  have how := words_ok (k := kk) (many := 4) (most := 7) hk1 (by omega) (ss := ss)
  have HNA := Lib.hid hna
  have HGR := Lib.hid hgr
  have HOW := Lib.hid how
  have HV := Lib.hid hv
  have HZ := Lib.hid hz
  clear hna hgr how hkk hv hz
  go_enter Try.func4, Try.ntmps4
  go_upto_region 2 with (go_at_call 18; refine HNA.out.mono ?_; rintro e w1 ⟨rfl, hw1⟩; obtain rfl := hw1.symm)
  go_upto_region 3 with (go_at_call 21; refine HGR.out.mono ?_; rintro e w2 ⟨rva, rvc, g, rfl, hg2, hr2, hb2⟩)
  have hgood : GoodG kk g := hg2.good hk1 hk4
  obtain ⟨N, hN⟩ : ∃ N, g.length = N := ⟨_, rfl⟩
  have hNs : N ≤ 25 := by
    have h1 := graph_small (by omega) hg2 (M := 6) (fun s hs => (HOW.out.2 s hs).2.1)
    have h2 := HOW.out.1
    have h3 : (wordsL kk 4 7 ss).length * 6 ≤ 4 * 6 := Nat.mul_le_mul_right 6 h2
    omega
  have hwc := words_count hgood
  obtain ⟨M, hM⟩ : ∃ M, (basisW kk g).length = M := ⟨_, rfl⟩
  have hbl := basis_len hgood
  rw [hM] at hwc hbl
  rw [hN] at hwc hr2
  obtain ⟨W3, hW3⟩ : ∃ W3, W3 = w2.alloc (.cells #[.int .i64 kk, .slice rva N rvc] 32) := ⟨_, rfl⟩
  have hbA : Below w.heap.size w W3 := by rw [hW3]; exact hb2.alloc hb2.size _
  have hxA : Blk W3 w2.heap.size 32 [.int .i64 kk, .slice rva N rvc] := by rw [hW3]; exact Blk.new w2 32 [.int .i64 kk, .slice rva N rvc]
  have hrA : RowsR W3 (.slice rva N rvc) g := by rw [hW3]; exact hr2.keep ((Below.refl _ _).alloc (Nat.le_refl _) _)
  obtain ⟨gb, hgb⟩ : ∃ gb, w2.heap.size = gb := ⟨_, rfl⟩
  rw [hgb] at hxA
  have c0 := hxA.cell (j := 0) rfl
  have c1 := hxA.cell (j := 1) rfl
  have HG := Lib.hid hgood
  have HX := Lib.hid hxA
  have HB3 := Lib.hid hbA
  have HRA := Lib.hid hrA
  have HN := Lib.hid hN
  have HMM := Lib.hid hM
  have HWC := Lib.hid hwc
  change Code.wp _ _ _ _ (w2.alloc (.cells #[.int .i64 kk, .slice rva g.length rvc] 32))
  rw [hN, ← hW3, hgb]
  clear hgood hW3 hbA hxA hrA hgb hN hM hwc hg2 hr2 hb2 HNA HGR
  go_upto_region 4 with (go_at_call 22; refine (give_any _ _ _ _ _).mono ?_; rintro e w4 ⟨rfl, hb4⟩)
  obtain ⟨W4, hW4⟩ : ∃ W4, W4 = w4.alloc (.cells #[.int .i64 kk, .slice rva N rvc] 25) := ⟨_, rfl⟩
  have hb34 : Below W3.heap.size W3 W4 := by rw [hW4]; exact hb4.alloc hb4.size _
  have hxB : Blk W4 w4.heap.size 25 [.int .i64 kk, .slice rva N rvc] := by rw [hW4]; exact Blk.new w4 25 [.int .i64 kk, .slice rva N rvc]
  obtain ⟨xb, hxb⟩ : ∃ xb, w4.heap.size = xb := ⟨_, rfl⟩
  rw [hxb] at hxB
  have hcells : ∀ wx, Below W4.heap.size W4 wx → wx.cell? ⟨gb, 0, none⟩ = some (.int .i64 kk) ∧ wx.cell? ⟨gb, 1, none⟩ = some (.slice rva N rvc) ∧ wx.cell? ⟨xb, 0, none⟩ = some (.int .i64 kk) ∧ wx.cell? ⟨xb, 1, none⟩ = some (.slice rva N rvc) := fun wx hb =>
    ⟨((HX.out.keep hb34).keep hb).cell (j := 0) rfl, ((HX.out.keep hb34).keep hb).cell (j := 1) rfl, (hxB.keep hb).cell (j := 0) rfl, (hxB.keep hb).cell (j := 1) rfl⟩
  have hrB : RowsR W4 (.slice rva N rvc) g := HRA.out.keep hb34
  have HR := Lib.hid hrB
  have HC := Lib.hid hcells
  have HB4 := Lib.hid (HB3.out.trans (hb34.mono HB3.out.size))
  have HV4 := Lib.hid (HV.out.keep HB4.out)
  change Code.wp _ _ _ _ (w4.alloc (.cells #[.int .i64 kk, .slice rva N rvc] 25))
  rw [← hW4, hxb]
  clear hW4 hb34 hxB hxb hcells hrB hb4 HX HB3 HRA HV c0 c1
  -- the contracts
  have hrz : 1 - (g.length : Int) + (edgesTo kk g g.length 0).length = M := by
    have h1 := HWC.out
    rw [HN.out]
    change (M : Nat) + N = (edgesTo kk g g.length 0).length + 1 at h1
    rw [HN.out] at h1
    omega
  have hrk := fun wx (hb : Below W4.heap.size W4 wx) => Rank_good wx kk _ g (HR.out.keep hb) HG.out
  have hrr := fun wx (hb : Below W4.heap.size W4 wx) => rRank_any wx kk _ g (HR.out.keep hb) HG.out
  rw [hrz] at hrk hrr
  have hix := fun wx (hb : Below W4.heap.size W4 wx) => Index_good wx kk _ g (HR.out.keep hb) HG.out
  have hri := fun wx (hb : Below W4.heap.size W4 wx) => rIndex_any wx kk _ g (HR.out.keep hb) HG.out
  obtain ⟨wh, hwh⟩ : ∃ b, wholeG g = b := ⟨_, rfl⟩
  obtain ⟨ix, hixe⟩ : ∃ i : Int, (if wh = true then (g.length : Int) else 0) = i := ⟨_, rfl⟩
  rw [hwh, hixe] at hix hri
  have HRK := Lib.hid hrk
  have HRR := Lib.hid hrr
  have HIX := Lib.hid hix
  have HRI := Lib.hid hri
  have hbs := fun wx (hb : Below W4.heap.size W4 wx) => Basis_good wx kk _ g (HR.out.keep hb) HG.out
  have hrb := fun wx (hb : Below W4.heap.size W4 wx) => rBasis_any wx kk _ g (HR.out.keep hb) HG.out
  have HBS := Lib.hid hbs
  have HRB := Lib.hid hrb
  clear hrz hrk hrr hix hri hwh hixe hbs hrb
  obtain ⟨c0, c1, c2, c3⟩ := HC.out W4 (Below.refl _ _)
  go_upto_region 5 with (go_at_call 23; refine (HRK.out W4 (Below.refl _ _)).mono ?_; rintro e w5 ⟨rfl, hb5⟩)
  have HB5 := Lib.hid hb5
  clear c0 c1 c2 c3 hb5 HRK
  obtain ⟨c0, c1, c2, c3⟩ := HC.out w5 HB5.out
  go_upto_region 6 with (go_at_call 24; refine (HIX.out w5 HB5.out).mono ?_; rintro e w6 ⟨rfl, hb6⟩)
  have HB6 : Hid (Below W4.heap.size W4 w6) := Lib.hid (HB5.out.trans (hb6.mono HB5.out.size))
  clear c0 c1 c2 c3 hb6 HIX HB5
  obtain ⟨c0, c1, c2, c3⟩ := HC.out w6 HB6.out
  go_upto_region 7 with (go_at_call 25; refine (HBS.out w6 HB6.out).mono ?_; rintro e w7 ⟨bv, rfl, ho7, hb7⟩)
  have HB7 : Hid (Below W4.heap.size W4 w7) := Lib.hid (HB6.out.trans (hb7.mono HB6.out.size))
  have HS7 := Lib.hid (strs_of_words ho7)
  clear c0 c1 c2 c3 hb7 ho7 HBS HB6
  obtain ⟨c0, c1, c2, c3⟩ := HC.out w7 HB7.out
  go_upto_region 8 with (go_at_call 26; refine (HRB.out w7 HB7.out).mono ?_; rintro e w8 ⟨bv2, nv2, rfl, ho8, -, hb8⟩)
  have HB8 : Hid (Below W4.heap.size W4 w8) := Lib.hid (HB7.out.trans (hb8.mono HB7.out.size))
  have HS8 := Lib.hid (strs_of_words ho8)
  have HS78 := Lib.hid (HS7.out.keep hb8)
  clear c0 c1 c2 c3 hb8 ho8 HRB HB7 HS7
  obtain ⟨c0, c1, c2, c3⟩ := HC.out w8 HB8.out
  go_upto_region 9 with (go_at_call 27; refine (HRI.out w8 HB8.out).mono ?_; rintro e w9 ⟨rfl, hb9⟩)
  have HB9 : Hid (Below W4.heap.size W4 w9) := Lib.hid (HB8.out.trans (hb9.mono HB8.out.size))
  have HS9 := Lib.hid (HS8.out.keep hb9)
  have HS79 := Lib.hid (HS78.out.keep hb9)
  clear c0 c1 c2 c3 hb9 HRI HB8 HS8 HS78
  obtain ⟨c0, c1, c2, c3⟩ := HC.out w9 HB9.out
  have hRR9 := HRR.out w9 HB9.out
  have HRR9 := Lib.hid hRR9
  clear hRR9 HRR
  go_upto_region 11 with (first
    | (go_at_call 28; refine HRR9.out.mono ?_; rintro e w10 ⟨rfl, hb10⟩; have HB10 : Hid (Below w9.heap.size w9 w10) := Lib.hid hb10; have HTX := Lib.hid (texts_true w10 _ _ _ (HS79.out.keep hb10) (HS9.out.keep hb10) (by rw [List.length_map, HMM.out]; omega)); clear hb10)
    | (go_at_call 29; refine HTX.out.mono ?_; rintro e w11 ⟨rfl, hb11⟩; have HB11 : Hid (Below w9.heap.size w9 w11) := Lib.hid (HB10.out.trans (hb11.mono HB10.out.size)); clear hb11))
  have HB11' : Hid (Below W4.heap.size W4 w11) := Lib.hid (HB9.out.trans (HB11.out.mono HB9.out.size))
  have HS11 := Lib.hid (HS9.out.keep HB11.out)
  have htx := text_any sw kk 20 w11 hsw hk1 (by omega) (by omega)
  have HTT := Lib.hid htx
  clear c0 c1 c2 c3 htx HRR9 HS9 HS79 HB9 HB11
  have HWK := WordK.text hk1 (show kk ≤ 26 by omega) 20 (bts sw)
  obtain ⟨T0, hT0⟩ : ∃ T0, strB (textL kk 20 (bts sw)) = T0 := ⟨_, rfl⟩
  rw [hT0] at HWK HTT
  have HWK0 : Hid (WordK kk 40 T0) := Lib.hid ⟨HWK.word, HWK.fit, by have := HWK.size; omega⟩
  clear HWK hT0
  go_upto_region 12 with (go_at_call 30; refine HTT.out.mono ?_; rintro e w12 ⟨rfl, hb12⟩)
  have HB12 : Hid (Below W4.heap.size W4 w12) := Lib.hid (HB11'.out.trans (hb12.mono HB11'.out.size))
  have HS12 := Lib.hid (HS11.out.keep hb12)
  have HV0 : Hid (Below w12.heap.size w12 w12) := Lib.hid (Below.refl _ _)
  clear hb12 HTT HS11 HB11'
  go_wp2_with fail
  go_loopw [21, 20] (fun jv sv wr => ∃ (j : Nat) (s : ByteArray), j ≤ 2 ∧ jv = .int .i64 j ∧ sv = .string s ∧ Hid (WordK kk 40 s) ∧ Hid (Below w12.heap.size w12 wr)) (fun jv _ _ => 2 - (intOf jv).toNat)
  case atStart => exact ⟨0, T0, by omega, rfl, rfl, HWK0, HV0⟩
  case round =>
    clear HWK0 HV0
    obtain ⟨j, s, hj, rfl, rfl, HW, HVW⟩ := hrel
    have HBW : Hid (Below W4.heap.size W4 wr) := Lib.hid (HB12.out.trans (HVW.out.mono HB12.out.size))
    by_cases hlt : j < 2
    · obtain ⟨c0, c1, c2, c3⟩ := HC.out wr HBW.out
      have hsz := HW.out.size
      have h0 : cwErr kk s = 0 := cwErr_ok HW.out.word (by omega) HW.out.fit
      have hha := Has_good wr kk _ g (HR.out.keep HBW.out) HG.out s (by omega) h0
      have hrh := fun wx (hb : Below wr.heap.size wr wx) => rHas_any wx kk _ g (HR.out.keep (HBW.out.trans (hb.mono HBW.out.size))) HG.out s (by omega) HW.out.word HW.out.fit
      obtain ⟨ib, hib⟩ : ∃ b, inG kk g (bts s) = b := ⟨_, rfl⟩
      rw [hib] at hha hrh
      have HHA := Lib.hid hha
      have HRH := Lib.hid hrh
      have HH0 := Lib.hid h0
      have HIB := Lib.hid hib
      clear hha hrh h0 hib
      go_upto_region 16 with (go_at_call 31; refine HHA.out.mono ?_; rintro e w13 ⟨rfl, hb13⟩)
      have HB13 := Lib.hid hb13
      have HBW3 : Hid (Below W4.heap.size W4 w13) := Lib.hid (HBW.out.trans (hb13.mono HBW.out.size))
      clear hb13 HHA c0 c1 c2 c3
      obtain ⟨c0, c1, c2, c3⟩ := HC.out w13 HBW3.out
      cases ib
      · have HEO := Lib.hid (Express_out w13 kk _ g (HR.out.keep HBW3.out) HG.out s (by omega) HH0.out HIB.out)
        go_upto_region 17 with (go_at_call 32; refine HEO.out.mono ?_; rintro e w14 ⟨rfl, hb14⟩)
        have HB14 : Hid (Below wr.heap.size wr w14) := Lib.hid (HB13.out.trans (hb14.mono HB13.out.size))
        have HBW4 : Hid (Below W4.heap.size W4 w14) := Lib.hid (HBW3.out.trans (hb14.mono HBW3.out.size))
        clear hb14 HEO c0 c1 c2 c3
        obtain ⟨c0, c1, c2, c3⟩ := HC.out w14 HBW4.out
        go_upto_region 24 with (go_at_call 33; refine (HRH.out _ HB14.out).mono ?_; rintro e w15 ⟨rfl, hb15⟩; have HB15 : Hid (Below w12.heap.size w12 w15) := Lib.hid (HVW.out.trans ((HB14.out.trans (hb15.mono HB14.out.size)).mono HVW.out.size)); clear hb15)
        clear c0 c1 c2 c3 HRH HH0 HIB HBW3 HBW4 HB13 HB14 HBW HVW HW
        obtain ⟨W9, hW9⟩ : ∃ W9, w15 = W9 := ⟨_, rfl⟩
        rw [hW9] at HB15 ⊢
        clear hW9
        have HE0 : Hid (WordK kk (7 * 0) ⟨#[]⟩) := Lib.hid ⟨rfl, rfl, Nat.le_refl _⟩
        go_wp2_with fail
        go_loopw [26, 20] (fun cv sv wr => ∃ (c : Nat) (s : ByteArray), c ≤ 5 ∧ cv = .int .i64 c ∧ sv = .string s ∧ Hid (WordK kk (7 * c) s) ∧ Hid (Below w12.heap.size w12 wr)) (fun cv _ _ => 5 - (intOf cv).toNat)
        case atStart => exact ⟨0, ⟨#[]⟩, by omega, rfl, rfl, HE0, HB15⟩
        case round =>
          clear HE0 HB15
          obtain ⟨c, s, hc, rfl, rfl, HWS, HVW⟩ := hrel
          have HBW : Hid (Below W4.heap.size W4 wr) := Lib.hid (HB12.out.trans (HVW.out.mono HB12.out.size))
          by_cases hlt : c < sw.size ∧ c < 5 ∧ 0 < m
          · obtain ⟨hcs, hc5, hm0⟩ := hlt
            obtain ⟨m4, hm4, hm41, hm42⟩ : ∃ m4 : Nat, min (m : Int) 4 = (m4 : Int) ∧ 1 ≤ m4 ∧ m4 ≤ m := ⟨min m 4, by omega, by omega, by omega⟩
            obtain ⟨b, hbb⟩ : ∃ b, sw[c]'hcs = b := ⟨_, rfl⟩
            have hb0 : (0 : Int) ≤ (b.toNat : Int) := by omega
            have hb9 : (b.toNat : Int) ≤ 255 := by have := b.toNat_lt; omega
            have hm4n : (m4 : Int) ≠ 0 := by omega
            obtain ⟨r, hr, hrm⟩ : ∃ r : Nat, Int.tmod (b.toNat : Int) m4 = r ∧ r < m4 := by
              have h1 : Int.tmod (b.toNat : Int) m4 = (b.toNat : Int) % m4 := Int.tmod_eq_emod_of_nonneg hb0
              have h2 := Int.emod_nonneg (b.toNat : Int) hm4n
              have h3 := Int.emod_lt_of_pos (b.toNat : Int) (show (0 : Int) < m4 by omega)
              exact ⟨((b.toNat : Int) % m4).toNat, by rw [h1]; omega, by omega⟩
            obtain ⟨p, hp, hp01⟩ : ∃ p : Int, Int.tmod (b.toNat : Int) 2 = p ∧ (p = 0 ∨ p = 1) := by
              have h1 : Int.tmod (b.toNat : Int) 2 = (b.toNat : Int) % 2 := Int.tmod_eq_emod_of_nonneg hb0
              exact ⟨(b.toNat : Int) % 2, h1, by omega⟩
            have hwr : IntKind.i64.wrap (r : Int) = r := by rw [IntKind.wrap_i64]; omega
            obtain ⟨xb', xo, x, rfl, hxl, hxs, hcx⟩ := (HV4.out.keep HBW.out).at_ (show r < m by omega)
            have hxz := HZ.out x (List.mem_of_getElem? hxs.out)
            have htx := text_any x kk 7 wr hxz hk1 (by omega) (by omega)
            have hwk := WordK.text hk1 (show kk ≤ 26 by omega) 7 (bts x)
            obtain ⟨U, hU⟩ : ∃ U, strB (textL kk 7 (bts x)) = U := ⟨_, rfl⟩
            rw [hU] at htx hwk
            have hUs := hwk.size
            have hss := HWS.out.size
            have HTX := Lib.hid htx
            have HWK := Lib.hid hwk
            have r0 : (0 : Int) ≤ r := by omega
            have r1 : (r : Int) < m := by omega
            have c0 : (0 : Int) ≤ c := by omega
            have c1 : (c : Int) < sw.size := by omega
            have c2 : (c : Int) < 5 := by omega
            have m0 : (0 : Int) < m := by omega
            have hno : ¬ 9223372036854775807 < s.size + U.size := by omega
            clear hU htx hwk hxz hrm hm41 hm42
            rcases hp01 with rfl | rfl
            · have hfin := HWS.out.app HWK.out
              have G1 : Hid (WordK kk (7 * (c + 1)) (s ++ U)) := Lib.hid ⟨hfin.word, hfin.fit, by have := hfin.size; omega⟩
              clear hfin
              go_wp2_with (go_at_call 30; refine HTX.out.mono ?_; rintro e w21 ⟨rfl, hb21⟩; have HB21 : Hid (Below w12.heap.size w12 w21) := Lib.hid (HVW.out.trans (hb21.mono HVW.out.size)); clear hb21)
              go_roundw
              case rel => exact ⟨c + 1, _, by omega, by go_num, rfl, G1, HB21⟩
              case measure => simp [intOf]; omega
            · have hinv := fun wx => rInverse_any U wx HWK.out.word (by omega)
              have hwi := HWK.out.inv (show kk ≤ 26 by omega)
              obtain ⟨U2, hU2⟩ : ∃ U2, strB (invL (bts U)) = U2 := ⟨_, rfl⟩
              rw [hU2] at hinv hwi
              have hU2s := hwi.size
              have hno2 : ¬ 9223372036854775807 < s.size + U2.size := by omega
              have hfin := HWS.out.app hwi
              have G1 : Hid (WordK kk (7 * (c + 1)) (s ++ U2)) := Lib.hid ⟨hfin.word, hfin.fit, by have := hfin.size; omega⟩
              have HINV := Lib.hid hinv
              clear hfin hinv hwi hU2
              go_wp2_with (first
                | (go_at_call 30; refine HTX.out.mono ?_; rintro e w21 ⟨rfl, hb21⟩; have HB21 : Hid (Below w12.heap.size w12 w21) := Lib.hid (HVW.out.trans (hb21.mono HVW.out.size)); clear hb21)
                | (go_at_call 38; refine (HINV.out _).mono ?_; rintro e w22 ⟨rfl, hb22⟩; have HB22 : Hid (Below w12.heap.size w12 w22) := Lib.hid (HB21.out.trans (hb22.mono HB21.out.size)); clear hb22))
              go_roundw
              case rel => exact ⟨c + 1, _, by omega, by go_num, rfl, G1, HB22⟩
              case measure => simp [intOf]; omega
          · have hcase : ¬ (c : Int) < sw.size ∨ ((c : Int) < sw.size ∧ ¬ (c : Int) < 5) ∨ ((c : Int) < sw.size ∧ (c : Int) < 5 ∧ ¬ (0 : Int) < m) := by omega
            have G1 : Hid (WordK kk 40 s) := Lib.hid ⟨HWS.out.word, HWS.out.fit, by have := HWS.out.size; omega⟩
            clear hlt
            rcases hcase with q1 | ⟨q1, q2⟩ | ⟨q1, q2, q3⟩
            all_goals
              go_wp2_with fail
              go_roundw
              case rel => exact ⟨j + 1, s, by omega, by go_num, rfl, G1, HVW⟩
              case measure => simp [intOf]; omega
      · have HEI := Lib.hid (Express_in w13 kk _ g (HR.out.keep HBW3.out) HG.out s (by omega) HH0.out HIB.out)
        go_upto_region 17 with (go_at_call 32; refine HEI.out.mono ?_; rintro e w14 ⟨pv, rfl, hp14, hb14⟩)
        have HB14 : Hid (Below wr.heap.size wr w14) := Lib.hid (HB13.out.trans (hb14.mono HB13.out.size))
        have HBW4 : Hid (Below W4.heap.size W4 w14) := Lib.hid (HBW3.out.trans (hb14.mono HBW3.out.size))
        have HP14 := Lib.hid hp14
        clear hb14 hp14 HEI c0 c1 c2 c3
        obtain ⟨c0, c1, c2, c3⟩ := HC.out w14 HBW4.out
        go_upto_region 22 with (go_at_call 33; refine (HRH.out _ HB14.out).mono ?_; rintro e w15 ⟨rfl, hb15⟩; have HB15' : Hid (Below w14.heap.size w14 w15) := Lib.hid hb15; have HB15 : Hid (Below w12.heap.size w12 w15) := Lib.hid (HVW.out.trans ((HB14.out.trans (hb15.mono HB14.out.size)).mono HVW.out.size)); clear hb15)
        have HBW5 : Hid (Below W4.heap.size W4 w15) := Lib.hid (HBW4.out.trans (HB15'.out.mono HBW4.out.size))
        clear c0 c1 c2 c3
        obtain ⟨c0, c1, c2, c3⟩ := HC.out w15 HBW5.out
        have hrun : runS (stG kk g) 0 (redW (bts s)) = some 0 := of_decide_eq_true HIB.out
        have hew := expr_word HG.out hrun
        have hfi := expr_fit HG.out (redW (bts s)) 0
        have hel := expr_len (k := kk) (g := g) (redW (bts s)) 0
        have hrl := redW_len (bts s)
        rw [bts_len] at hrl
        have hex := rExpress_any w15 kk _ g (HR.out.keep HBW5.out) HG.out s (by omega) HW.out.word HW.out.fit HIB.out
        obtain ⟨E, hE⟩ : ∃ E, exprQ kk g 0 (redW (bts s)) = E := ⟨_, rfl⟩
        rw [hE] at hew hfi hel hex HP14
        obtain ⟨pa, pc, rfl, -, -⟩ := HP14.out.shape rfl
        have hsp : spellL (basisW kk g) E = redW (bts s) := by
          rw [spell_prod, show redW (prodW (basisW kk g) E) = redW (redW (bts s)) from hew, redW_idem]
        have hnu := fun wx qv (hb : Below w15.heap.size w15 wx) (hq : IntsR wx qv E) => numbers_true wx _ qv E ((HP14.out.keep HB15'.out).keep hb) hq (by omega)
        have hspl := fun wx (hb : Below w15.heap.size w15 wx) => Spelled_any wx _ _ (basisW kk g) E (HS12.out.keep (HB15.out.trans (hb.mono HB15.out.size))) ((HP14.out.keep HB15'.out).keep hb) (by omega) (fun b hb => ⟨(word_ok HG.out b hb).1, by have := word_len b hb; rw [HN.out] at this; omega⟩) (by rw [HMM.out]; omega) hfi
        rw [hsp] at hspl
        have hsa := fun wx => rSameW_true wx s (strB (redW (bts s))) HW.out.word (isWord_red HW.out.word) (by omega) (by rw [size_str]; omega) (by show _ = redW (redW (bts s)); rw [redW_idem])
        obtain ⟨SP, hSP⟩ : ∃ SP, strB (redW (bts s)) = SP := ⟨_, rfl⟩
        rw [hSP] at hspl hsa
        have HEX := Lib.hid hex
        have HNU := Lib.hid hnu
        have HSPL := Lib.hid hspl
        have HSA := Lib.hid hsa
        clear hrun hew hfi hel hrl hex hE hsp hnu hspl hsa hSP
        go_upto_region 24 with (first
          | (go_at_call 35; refine HEX.out.mono ?_; rintro e w16 ⟨qv, rfl, hq16, hb16⟩; have HB16 := Lib.hid hb16; have HNQ := Lib.hid (HNU.out _ _ hb16 hq16); clear hq16 hb16)
          | (go_at_call 34; refine HNQ.out.mono ?_; rintro e w17 ⟨rfl, hb17⟩; have HB17 : Hid (Below w15.heap.size w15 w17) := Lib.hid (HB16.out.trans (hb17.mono HB16.out.size)); clear hb17)
          | (go_at_call 37; refine (HSPL.out _ HB17.out).mono ?_; rintro e w18 ⟨rfl, hb18⟩; have HB18 : Hid (Below w15.heap.size w15 w18) := Lib.hid (HB17.out.trans (hb18.mono HB17.out.size)); clear hb18)
          | (go_at_call 36; refine (HSA.out _).mono ?_; rintro e w19 ⟨rfl, hb19⟩; have HB19 : Hid (Below w15.heap.size w15 w19) := Lib.hid (HB18.out.trans (hb19.mono HB18.out.size)); clear hb19))
        have HB20 : Hid (Below w12.heap.size w12 w19) := Lib.hid (HB15.out.trans (HB19.out.mono HB15.out.size))
        clear c0 c1 c2 c3 HRH HH0 HIB HBW3 HBW4 HB13 HB14 HBW HVW HW HB15 HB15' HBW5 HB16 HB17 HB18 HB19 HP14 HEX HNU HSPL HSA HNQ
        obtain ⟨W9, hW9⟩ : ∃ W9, w19 = W9 := ⟨_, rfl⟩
        rw [hW9] at HB20 ⊢
        clear hW9
        have HB15 := HB20
        clear HB20
        have HE0 : Hid (WordK kk (7 * 0) ⟨#[]⟩) := Lib.hid ⟨rfl, rfl, Nat.le_refl _⟩
        go_wp2_with fail
        go_loopw [26, 20] (fun cv sv wr => ∃ (c : Nat) (s : ByteArray), c ≤ 5 ∧ cv = .int .i64 c ∧ sv = .string s ∧ Hid (WordK kk (7 * c) s) ∧ Hid (Below w12.heap.size w12 wr)) (fun cv _ _ => 5 - (intOf cv).toNat)
        case atStart => exact ⟨0, ⟨#[]⟩, by omega, rfl, rfl, HE0, HB15⟩
        case round =>
          clear HE0 HB15
          obtain ⟨c, s, hc, rfl, rfl, HWS, HVW⟩ := hrel
          have HBW : Hid (Below W4.heap.size W4 wr) := Lib.hid (HB12.out.trans (HVW.out.mono HB12.out.size))
          by_cases hlt : c < sw.size ∧ c < 5 ∧ 0 < m
          · obtain ⟨hcs, hc5, hm0⟩ := hlt
            obtain ⟨m4, hm4, hm41, hm42⟩ : ∃ m4 : Nat, min (m : Int) 4 = (m4 : Int) ∧ 1 ≤ m4 ∧ m4 ≤ m := ⟨min m 4, by omega, by omega, by omega⟩
            obtain ⟨b, hbb⟩ : ∃ b, sw[c]'hcs = b := ⟨_, rfl⟩
            have hb0 : (0 : Int) ≤ (b.toNat : Int) := by omega
            have hb9 : (b.toNat : Int) ≤ 255 := by have := b.toNat_lt; omega
            have hm4n : (m4 : Int) ≠ 0 := by omega
            obtain ⟨r, hr, hrm⟩ : ∃ r : Nat, Int.tmod (b.toNat : Int) m4 = r ∧ r < m4 := by
              have h1 : Int.tmod (b.toNat : Int) m4 = (b.toNat : Int) % m4 := Int.tmod_eq_emod_of_nonneg hb0
              have h2 := Int.emod_nonneg (b.toNat : Int) hm4n
              have h3 := Int.emod_lt_of_pos (b.toNat : Int) (show (0 : Int) < m4 by omega)
              exact ⟨((b.toNat : Int) % m4).toNat, by rw [h1]; omega, by omega⟩
            obtain ⟨p, hp, hp01⟩ : ∃ p : Int, Int.tmod (b.toNat : Int) 2 = p ∧ (p = 0 ∨ p = 1) := by
              have h1 : Int.tmod (b.toNat : Int) 2 = (b.toNat : Int) % 2 := Int.tmod_eq_emod_of_nonneg hb0
              exact ⟨(b.toNat : Int) % 2, h1, by omega⟩
            have hwr : IntKind.i64.wrap (r : Int) = r := by rw [IntKind.wrap_i64]; omega
            obtain ⟨xb', xo, x, rfl, hxl, hxs, hcx⟩ := (HV4.out.keep HBW.out).at_ (show r < m by omega)
            have hxz := HZ.out x (List.mem_of_getElem? hxs.out)
            have htx := text_any x kk 7 wr hxz hk1 (by omega) (by omega)
            have hwk := WordK.text hk1 (show kk ≤ 26 by omega) 7 (bts x)
            obtain ⟨U, hU⟩ : ∃ U, strB (textL kk 7 (bts x)) = U := ⟨_, rfl⟩
            rw [hU] at htx hwk
            have hUs := hwk.size
            have hss := HWS.out.size
            have HTX := Lib.hid htx
            have HWK := Lib.hid hwk
            have r0 : (0 : Int) ≤ r := by omega
            have r1 : (r : Int) < m := by omega
            have c0 : (0 : Int) ≤ c := by omega
            have c1 : (c : Int) < sw.size := by omega
            have c2 : (c : Int) < 5 := by omega
            have m0 : (0 : Int) < m := by omega
            have hno : ¬ 9223372036854775807 < s.size + U.size := by omega
            clear hU htx hwk hxz hrm hm41 hm42
            rcases hp01 with rfl | rfl
            · have hfin := HWS.out.app HWK.out
              have G1 : Hid (WordK kk (7 * (c + 1)) (s ++ U)) := Lib.hid ⟨hfin.word, hfin.fit, by have := hfin.size; omega⟩
              clear hfin
              go_wp2_with (go_at_call 30; refine HTX.out.mono ?_; rintro e w21 ⟨rfl, hb21⟩; have HB21 : Hid (Below w12.heap.size w12 w21) := Lib.hid (HVW.out.trans (hb21.mono HVW.out.size)); clear hb21)
              go_roundw
              case rel => exact ⟨c + 1, _, by omega, by go_num, rfl, G1, HB21⟩
              case measure => simp [intOf]; omega
            · have hinv := fun wx => rInverse_any U wx HWK.out.word (by omega)
              have hwi := HWK.out.inv (show kk ≤ 26 by omega)
              obtain ⟨U2, hU2⟩ : ∃ U2, strB (invL (bts U)) = U2 := ⟨_, rfl⟩
              rw [hU2] at hinv hwi
              have hU2s := hwi.size
              have hno2 : ¬ 9223372036854775807 < s.size + U2.size := by omega
              have hfin := HWS.out.app hwi
              have G1 : Hid (WordK kk (7 * (c + 1)) (s ++ U2)) := Lib.hid ⟨hfin.word, hfin.fit, by have := hfin.size; omega⟩
              have HINV := Lib.hid hinv
              clear hfin hinv hwi hU2
              go_wp2_with (first
                | (go_at_call 30; refine HTX.out.mono ?_; rintro e w21 ⟨rfl, hb21⟩; have HB21 : Hid (Below w12.heap.size w12 w21) := Lib.hid (HVW.out.trans (hb21.mono HVW.out.size)); clear hb21)
                | (go_at_call 38; refine (HINV.out _).mono ?_; rintro e w22 ⟨rfl, hb22⟩; have HB22 : Hid (Below w12.heap.size w12 w22) := Lib.hid (HB21.out.trans (hb22.mono HB21.out.size)); clear hb22))
              go_roundw
              case rel => exact ⟨c + 1, _, by omega, by go_num, rfl, G1, HB22⟩
              case measure => simp [intOf]; omega
          · have hcase : ¬ (c : Int) < sw.size ∨ ((c : Int) < sw.size ∧ ¬ (c : Int) < 5) ∨ ((c : Int) < sw.size ∧ (c : Int) < 5 ∧ ¬ (0 : Int) < m) := by omega
            have G1 : Hid (WordK kk 40 s) := Lib.hid ⟨HWS.out.word, HWS.out.fit, by have := HWS.out.size; omega⟩
            clear hlt
            rcases hcase with q1 | ⟨q1, q2⟩ | ⟨q1, q2, q3⟩
            all_goals
              go_wp2_with fail
              go_roundw
              case rel => exact ⟨j + 1, s, by omega, by go_num, rfl, G1, HVW⟩
              case measure => simp [intOf]; omega
    · obtain rfl : j = 2 := by omega
      have HAW := Lib.hid (awake_any wr)
      have HB9 := Lib.hid (HB4.out.trans (HBW.out.mono HB4.out.size))
      go_wp2_with (go_at_call 20; refine HAW.out.mono ?_; rintro e w20 ⟨rfl, hb20⟩; have HB20 := Lib.hid (HB9.out.trans (hb20.mono HB9.out.size)); clear hb20)
      go_ret
      exact ⟨rfl, HB20.out⟩
end Go.Proofs.Ytlooclpfoeakgaa
