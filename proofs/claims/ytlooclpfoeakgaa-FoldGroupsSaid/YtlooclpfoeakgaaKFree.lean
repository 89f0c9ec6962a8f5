/- FoldFree: the walk. -/
import Derived.Test.YtlooclpfoeakgaaMJ
import Derived.Test.YtlooclpfoeakgaaMA
namespace Go.Proofs.Ytlooclpfoeakgaa
open Go.RowKit

theorem RdI.snoc {y x : Int} : ∀ {l : List Int}, RdI (l ++ [y]) → y ≠ -x → RdI (l ++ [y, x])
  | [], _, h => .cons _ _ _ h (.one _)
  | [a], h, h2 => .cons a y [x] h.ne (.cons y x [] h2 (.one _))
  | a :: b :: l, h, h2 => .cons a b _ h.ne (RdI.snoc (l := b :: l) h.tail h2)
theorem strs_of_words {w : World} {base : Nat} {v : Value} {l : List (List UInt8)} (h : w.ownsRow base 9 1 v l.length (strsV l)) : Strs w v (l.map strB) := by
  refine Strs.of_row (base := base) ?_
  rw [List.length_map, List.map_map]
  exact h
/-- what the loop keeps -/
structure FrI (w : World) (base M : Nat) (lw : Value) (O : List Int) (c : Nat) : Prop where
  own : Own w base 3 lw O
  red : RdI O
  fit : ∀ x ∈ O, x ≠ 0 ∧ x.natAbs ≤ M
  len : O.length ≤ c
def SomeS (P : ByteArray → Prop) : Prop := ∃ s, P s

set_option maxRecDepth 100000 in
set_option maxHeartbeats 4000000 in
theorem FoldFree_any (w : World) (k0 : Int) (v1 v2 : Value) (ss : List ByteArray) (zs : List Int) (hv : Strs w v1 ss) (hz : ∀ s ∈ ss, s.size ≤ 9223372036854775807) (hb : Ints w v2 zs) (hwf : ∀ z ∈ zs, -9223372036854775808 ≤ z ∧ z ≤ 9223372036854775807) :
    Calls Try.prog 5 #[.int .i64 k0, v1, v2] w fun e w' => e = .returned (.bool true) ∧ Below w.heap.size w w' := by
  obtain ⟨a2, m, c2, rfl, HM, hm1⟩ := hb.open
  obtain ⟨kk, hkk⟩ : ∃ kk, nailsK k0 = kk := ⟨_, rfl⟩
  obtain ⟨hk1, hk4⟩ := nailsK_range k0
  rw [hkk] at hk1 hk4
  have hna := nails_any w k0
  rw [hkk] at hna
  have hwo := words_any v1 ss kk 4 7 w hv hz hk1 (by omega) (by omega) (by omega)
  obtain ⟨O4, hO4⟩ : ∃ l, wordsL kk 4 7 ss = l := ⟨_, rfl⟩
  have how := words_ok (k := kk) (many := 4) (most := 7) hk1 (by omega) (ss := ss)
  rw [hO4] at hwo how
  have HNA := Lib.hid hna
  have HWO := Lib.hid hwo
  have HOW := Lib.hid how
  have HB := Lib.hid hb
  have HWF := Lib.hid hwf
  have hmm := hb.cap_
  clear hna hwo how hO4 hkk hv hz hb hwf
  go_enter Try.func5, Try.ntmps5
  go_upto_region 2 with (go_at_call 18; refine HNA.out.mono ?_; rintro e w1 ⟨rfl, hw1⟩; obtain rfl := hw1.symm)
  go_upto_region 3 with (first
    | (go_at_call 19; refine HWO.out.mono ?_; rintro e w2 ⟨rv, rfl, hs2, hb2⟩; have HS2 := Lib.hid hs2; have HB2 := Lib.hid hb2; clear hs2 hb2)
    | (go_at_call 13; refine (Fold_ok kk _ O4 _ HS2.out hk1 hk4 (by have := HOW.out.1; omega) (fun s hs => by obtain ⟨a, b, c⟩ := HOW.out.2 s hs; exact ⟨a, by omega, c⟩)).mono ?_; rintro e w3 ⟨rva, rvc, g, rfl, hg3, hr3, hb3⟩))
  have hgood : GoodG kk g := hg3.good hk1 hk4
  obtain ⟨N, hN⟩ : ∃ N, g.length = N := ⟨_, rfl⟩
  have hNs : N ≤ 25 := by
    have h1 := graph_small (by omega) hg3 (M := 6) (fun s hs => (HOW.out.2 s hs).2.1)
    have h2 := HOW.out.1
    have h3 : O4.length * 6 ≤ 4 * 6 := Nat.mul_le_mul_right 6 h2
    omega
  have hwc := words_count hgood
  obtain ⟨M, hM⟩ : ∃ M, (basisW kk g).length = M := ⟨_, rfl⟩
  have hbl := basis_len hgood
  rw [hM] at hwc hbl
  rw [hN] at hwc hr3
  obtain ⟨W3, hW3⟩ : ∃ W3, W3 = w3.alloc (.cells #[.int .i64 kk, .slice rva N rvc] 25) := ⟨_, rfl⟩
  have hb13 : Below w.heap.size w w3 := HB2.out.trans (hb3.mono HB2.out.size)
  have hbA : Below w.heap.size w W3 := by rw [hW3]; exact hb13.alloc hb13.size _
  have hxA : Blk W3 w3.heap.size 25 [.int .i64 kk, .slice rva N rvc] := by rw [hW3]; exact Blk.new w3 25 [.int .i64 kk, .slice rva N rvc]
  have hrA : RowsR W3 (.slice rva N rvc) g := by rw [hW3]; exact hr3.toR.keep ((Below.refl _ _).alloc (Nat.le_refl _) _)
  obtain ⟨gb, hgb⟩ : ∃ gb, w3.heap.size = gb := ⟨_, rfl⟩
  rw [hgb] at hxA
  have c0 := hxA.cell (j := 0) rfl
  have c1 := hxA.cell (j := 1) rfl
  have hba := Basis_good W3 kk _ g hrA hgood
  have hrk := fun wx (hb : Below W3.heap.size W3 wx) => Rank_good wx kk _ g (hrA.keep hb) hgood
  have hix := fun wx (hb : Below W3.heap.size W3 wx) => Index_good wx kk _ g (hrA.keep hb) hgood
  have hrz : 1 - (g.length : Int) + (edgesTo kk g g.length 0).length = M := by
    change (M : Nat) + N = (edgesTo kk g g.length 0).length + 1 at hwc
    omega
  rw [hrz] at hrk
  rw [hN] at hix
  have hwh : wholeG g = true → M = N * (kk - 1) + 1 := fun hw => by
    have h1 := (whole_count hgood).1 hw
    rw [hN] at h1
    change (M : Nat) + N = (edgesE kk g).length + 1 at hwc
    have h2 : N * (kk - 1) + N = N * kk := by
      obtain ⟨j, rfl⟩ : ∃ j, kk = j + 1 := ⟨kk - 1, by omega⟩
      rw [Nat.add_sub_cancel, Nat.mul_succ]
    omega
  have HG := Lib.hid hgood
  have HX := Lib.hid hxA
  have HBA := Lib.hid hba
  have HRK := Lib.hid hrk
  have HIX := Lib.hid hix
  have HWH := Lib.hid hwh
  have HB3 := Lib.hid hbA
  have HRA := Lib.hid hrA
  have HN := Lib.hid hN
  have HMM := Lib.hid hM
  change Code.wp _ _ _ _ (w3.alloc (.cells #[.int .i64 kk, .slice rva g.length rvc] 25))
  rw [hN, ← hW3, hgb]
  clear hgood hW3 hb13 hbA hxA hrA hgb hba hrk hix hrz hwh hN hM hwc hg3 hr3 hb3 HNA HWO
  go_upto_region 4 with (go_at_call 25; refine HBA.out.mono ?_; rintro e w4 ⟨bv, rfl, ho4, hb4⟩)
  obtain ⟨ba, bc, rfl, hbc1, hbc2⟩ := row_shapeV ho4
  rw [HMM.out] at hbc1
  have hS4 : Strs w4 (.slice ba M bc) ((basisW kk g).map strB) := by rw [← HMM.out]; exact strs_of_words ho4
  have HS4 := Lib.hid hS4
  have HB4 := Lib.hid hb4
  have d0 := (HX.out.keep hb4).cell (j := 0) rfl
  have d1 := (HX.out.keep hb4).cell (j := 1) rfl
  have HR4 := Lib.hid (HRK.out w4 hb4)
  have hMe := HMM.out
  rw [hMe]
  clear ho4 hb4 hS4 c0 c1 HBA HRK hMe
  go_upto_region 5 with (go_at_call 23; refine HR4.out.mono ?_; rintro e w5 ⟨rfl, hb5⟩)
  have HB5 : Hid (Below W3.heap.size W3 w5) := Lib.hid (HB4.out.trans (hb5.mono HB4.out.size))
  have HB45 : Hid (Below w4.heap.size w4 w5) := Lib.hid hb5
  have e0 := (HX.out.keep HB5.out).cell (j := 0) rfl
  have e1 := (HX.out.keep HB5.out).cell (j := 1) rfl
  have HI5 := Lib.hid (HIX.out w5 HB5.out)
  clear hb5 HIX HR4 d0 d1
  obtain ⟨wh, hwh⟩ : ∃ b, wholeG g = b := ⟨_, rfl⟩
  rw [hwh] at HI5 HWH
  clear hwh
  obtain ⟨X, hX, hX2⟩ : ∃ X : Int, IntKind.i64.wrap ((N : Int) * ((kk : Int) - 1)) = X ∧ (wh = true → (M : Int) - 1 = X) := by
    refine ⟨_, rfl, fun h => ?_⟩
    have h1 := HWH.out h
    have h2 : (N * (kk - 1) : Nat) ≤ 25 * 3 := Nat.mul_le_mul hNs (by omega)
    have h3 : ((N * (kk - 1) : Nat) : Int) = (N : Int) * ((kk : Int) - 1) := by
      rw [Int.natCast_mul]
      congr 1
      omega
    rw [← h3, IntKind.wrap_i64]
    omega
  have hk0 : (1 : Int) ≤ kk := by omega
  have hk5 : (kk : Int) ≤ 4 := by omega
  have hM0 : (0 : Int) ≤ M := by omega
  have hM9 : (M : Int) ≤ 20000 := by omega
  cases wh
  all_goals
    first | (have hX3 : (M : Int) - 1 = X := hX2 rfl) | skip
    clear hX2
    go_upto_region 6 with (go_at_call 24; refine HI5.out.mono ?_; rintro e w6 ⟨rfl, hb6⟩)
    have HB6 : Hid (Below w4.heap.size w4 w6) := Lib.hid (HB45.out.trans (hb6.mono HB45.out.size))
    have HF6 : Hid (FrI w6 w6.heap.size M (.slice none 0 0) [] 0) := Lib.hid ⟨Own.nil _ _ _, .nil, by simp, by simp⟩
    have HV6 : Hid (Below w6.heap.size w6 w6) := Lib.hid (Below.refl _ _)
    clear hb6 HI5 e0 e1
    go_wp2_with fail
    go_loopw [17, 16] (fun cv ov wr => ∃ (c : Nat) (O : List Int) (lw : Value), c ≤ m ∧ c ≤ 8 ∧ cv = .int .i64 c ∧ lw = ov ∧ Hid (FrI wr w6.heap.size M lw O c) ∧ Hid (Below w6.heap.size w6 wr)) (fun cv _ _ => m - (intOf cv).toNat)
    case atStart => exact ⟨0, [], _, by omega, by omega, rfl, rfl, HF6, HV6⟩
    case round =>
      clear HF6 HV6
      obtain ⟨c, O, lw, hc, hc8, rfl, rfl, HF, HV⟩ := hrel
      have hbw : Below w.heap.size w wr := HB3.out.trans ((HB4.out.trans ((HB6.out.trans (HV.out.mono HB6.out.size)).mono HB4.out.size)).mono HB3.out.size)
      have HBW := Lib.hid hbw
      clear hbw
      by_cases hlt : c < m ∧ c < 8 ∧ 0 < M
      · obtain ⟨hcm, hc7, hM1⟩ := hlt
        obtain ⟨zb, zo, z, rfl, hzs, hcz⟩ := (HB.out.below HBW.out (Nat.le_refl _)).at_ hcm
        have hzw := HWF.out z (List.mem_of_getElem? hzs.out)
        obtain ⟨C, hC⟩ : ∃ C, IntKind.u64.wrap z = C := ⟨_, rfl⟩
        have hC2 : 0 ≤ C ∧ C < 18446744073709551616 := by
          have : C = z % 18446744073709551616 := by rw [← hC]; simp [IntKind.wrap, IntKind.signed, IntKind.bits]
          omega
        have hwM : IntKind.u64.wrap (M : Int) = M := by simp [IntKind.wrap, IntKind.signed, IntKind.bits]; omega
        have hMne : (M : Int) ≠ 0 := by omega
        obtain ⟨r, hr, hrM⟩ : ∃ r : Nat, Int.tmod C M = r ∧ r < M := by
          have h1 : Int.tmod C M = C % M := Int.tmod_eq_emod_of_nonneg hC2.1
          have h2 := Int.emod_nonneg C hMne
          have h3 := Int.emod_lt_of_pos C (show (0 : Int) < M by omega)
          exact ⟨(C % M).toNat, by rw [h1]; omega, by omega⟩
        obtain ⟨q, hq⟩ : ∃ q, Int.tdiv C M = q := ⟨_, rfl⟩
        have hq2 : 0 ≤ q ∧ q ≤ C := by
          have h1 : Int.tdiv C M = C / M := Int.tdiv_eq_ediv_of_nonneg hC2.1
          rw [hq] at h1
          rw [h1]
          exact ⟨Int.ediv_nonneg hC2.1 (by omega), Int.ediv_le_self _ hC2.1⟩
        have hwq : IntKind.u64.wrap q = q := by simp [IntKind.wrap, IntKind.signed, IntKind.bits]; omega
        obtain ⟨pp, hp, hp01⟩ : ∃ pp, Int.tmod q 2 = pp ∧ (pp = 0 ∨ pp = 1) := by
          have h1 : Int.tmod q 2 = q % 2 := Int.tmod_eq_emod_of_nonneg hq2.1
          exact ⟨q % 2, h1, by omega⟩
        have hwr : IntKind.i64.wrap (r : Int) = r := by rw [IntKind.wrap_i64]; omega
        have hwu : IntKind.u64.wrap (r : Int) = r := by simp [IntKind.wrap, IntKind.signed, IntKind.bits]; omega
        have hw1 : IntKind.i64.wrap (1 + (r : Int)) = 1 + r := by rw [IntKind.wrap_i64]; omega
        obtain ⟨y, hyA, hyB, hy0, hyM⟩ : ∃ y : Int, (pp = 0 → 1 + (r : Int) = y) ∧ (pp = 1 → IntKind.i64.wrap (-(1 + (r : Int))) = y) ∧ y ≠ 0 ∧ y.natAbs ≤ M := by
          rcases hp01 with e | e
          · exact ⟨1 + r, fun _ => rfl, fun h => by omega, by omega, by omega⟩
          · exact ⟨-(1 + r), fun h => by omega, fun _ => by rw [IntKind.wrap_i64]; omega, by omega, by omega⟩
        have HYM := Lib.hid hyM
        have yl0 : -20001 ≤ y := by omega
        have yl1 : y ≤ 20001 := by omega
        have hwy : IntKind.i64.wrap y = y := by rw [IntKind.wrap_i64]; omega
        have HY0 := Lib.hid hy0
        obtain ⟨ny, hny, hny2⟩ : ∃ ny : Int, IntKind.i64.wrap (-y) = ny ∧ ny = -y := ⟨-y, by rw [IntKind.wrap_i64]; omega, rfl⟩
        have HNY := Lib.hid hny2
        have c0' : (0 : Int) ≤ c := by omega
        have c1' : (c : Int) < m := by omega
        have c2' : (c : Int) < 8 := by omega
        have m1' : (0 : Int) < M := by omega
        clear hzw hC2 hrM hq2 hyM hy0 hny2
        rcases hp01 with rfl | rfl
        all_goals
          first | (have hy1 := hyA rfl) | (have hy1 := hyB rfl)
          clear hyA hyB
          go_upto_region 15 with fail
          clear hy1 hr hq hp hwr hwu hw1 hwq hwM hC hcz
          have HBS : Hid (w6.heap.size ≤ wr.heap.size) := Lib.hid HV.out.size
          have hOl := HF.out.len
          rcases List.eq_nil_or_concat O with rfl | ⟨O2, t, rfl⟩
          · obtain ⟨la, lc, rfl, -, -⟩ := row_shapeV HF.out.own
            go_upto_region 11 with (at_builtin; refine wpList_app1 Try.info3 Try.underlying54 HF.out.own HBS.out (by simp) rfl (.tmp 130) (.tmp 132) rfl (z := y) (by simp [Act.eval]) (by simp [Act.eval]) ?_; intro v7 w7 hown7 hgrow7 hbel7 hsh7)
            have G1 : Hid (FrI w7 w6.heap.size M v7 ([] ++ [y]) (c + 1)) := Lib.hid ⟨hown7, .one y, fun x hx => by rw [List.mem_singleton.1 hx]; exact ⟨HY0.out, HYM.out⟩, by simp⟩
            have G2 : Hid (Below w6.heap.size w6 w7) := Lib.hid (HV.out.trans hbel7)
            obtain ⟨g7, c7, rfl⟩ := hsh7
            clear hown7 hgrow7 hbel7
            go_wp2_with fail
            go_roundw
            case rel => exact ⟨c + 1, _, _, by omega, by omega, by go_num, rfl, G1, G2⟩
            case measure => simp [intOf]; omega
          · rw [List.concat_eq_append] at HF hOl
            obtain ⟨j, hj⟩ : ∃ j, O2.length = j := ⟨_, rfl⟩
            have hl2 : (O2 ++ [t]).length = j + 1 := by simp [hj]
            have ho := HF.out.own
            obtain ⟨lb, lc, rfl, -, -, -, hcells⟩ := ho.open hl2 (by omega)
            have hct := hcells j t (by rw [List.getElem?_append_right (by omega)]; simp [hj])
            have HOO := Lib.hid ho
            have HL2 := Lib.hid hl2
            have hjj : IntKind.i64.wrap (((j + 1 : Nat) : Int) - 1) = j := by rw [IntKind.wrap_i64]; omega
            rw [hl2] at hOl
            have hjc : ((j + 1 : Nat) : Int) = (j : Int) + 1 := by omega
            have hja : (0 : Int) ≤ j := by omega
            clear hcells ho hl2 hj
            by_cases hty : t = ny
            · subst hty
              have G1 : Hid (FrI wr w6.heap.size M (.slice (some ⟨lb, 0, none⟩) (j + 1) lc) (O2 ++ [t]) (c + 1)) := Lib.hid ⟨HF.out.own, HF.out.red, HF.out.fit, by have := HF.out.len; omega⟩
              go_wp2_with fail
              go_roundw
              case rel => exact ⟨c + 1, _, _, by omega, by omega, by go_num, rfl, G1, HV⟩
              case measure => simp [intOf]; omega
            · go_upto_region 11 with (at_builtin; refine wpList_app1 Try.info3 Try.underlying54 HOO.out HBS.out (by rw [HL2.out]; omega) rfl (.tmp 130) (.tmp 132) rfl (z := y) (by simp [Act.eval]) (by simp [Act.eval]) ?_; intro v7 w7 hown7 hgrow7 hbel7 hsh7)
              have G1 : Hid (FrI w7 w6.heap.size M v7 (O2 ++ [t] ++ [y]) (c + 1)) := Lib.hid ⟨hown7, by rw [List.append_assoc]; exact RdI.snoc HF.out.red (by rw [← HNY.out]; exact hty), fun x hx => by
                rcases List.mem_append.1 hx with hx | hx
                · exact HF.out.fit x hx
                · rw [List.mem_singleton.1 hx]; exact ⟨HY0.out, HYM.out⟩, by have := HF.out.len; rw [List.length_append, List.length_singleton]; omega⟩
              have G2 : Hid (Below w6.heap.size w6 w7) := Lib.hid (HV.out.trans hbel7)
              obtain ⟨g7, c7, rfl⟩ := hsh7
              clear hown7 hgrow7 hbel7
              go_wp2_with fail
              go_roundw
              case rel => exact ⟨c + 1, _, _, by omega, by omega, by go_num, rfl, G1, G2⟩
              case measure => simp [intOf]; omega
      · have hfree := expr_free HG.out HF.out.red (fun x hx => by rw [HMM.out]; exact HF.out.fit x hx)
        obtain ⟨S, hS⟩ : ∃ S, redW (prodW (basisW kk g) O) = S := ⟨_, rfl⟩
        rw [hS] at hfree
        obtain ⟨la, lc, rfl, -, -⟩ := row_shapeV HF.out.own
        have hOl : O.length ≤ 8 := by have := HF.out.len; omega
        have hSl : S.length ≤ 8 * 51 := by
          rw [← hS]
          refine Nat.le_trans (redW_len _) (Nat.le_trans (prod_len (M := 51) (fun x hx => by have := word_len x hx; rw [HN.out] at this; omega) O) (Nat.mul_le_mul_right _ hOl))
        have h4r : Below w4.heap.size w4 wr := HB6.out.trans (HV.out.mono HB6.out.size)
        have hW3r : Below W3.heap.size W3 wr := HB4.out.trans (h4r.mono HB4.out.size)
        have hsp := Spelled_any wr _ _ (basisW kk g) O (HS4.out.keep h4r) HF.out.own.toR (by omega) (fun b hb => ⟨(word_ok HG.out b hb).1, by have := word_len b hb; rw [HN.out] at this; omega⟩) (by rw [HMM.out]; omega) (fun x hx => by rw [HMM.out]; exact HF.out.fit x hx)
        rw [spell_prod, hS] at hsp
        obtain ⟨B, hB⟩ : ∃ B, strB S = B := ⟨_, rfl⟩
        have hBb : bts B = S := by rw [← hB]
        have hBs : B.size ≤ 8 * 51 := by rw [← bts_len, hBb]; exact hSl
        rw [hB] at hsp
        have hSr : redW S = S := by rw [← hS, redW_idem]
        have hlet := run_letters hfree.1
        have hex := fun wx (hb : Below W3.heap.size W3 wx) => Express_in wx kk _ g (HRA.out.keep hb) HG.out B (by omega) (cwErr_ok (by rw [hBb]; exact hlet.1) (by omega) (by rw [hBb]; exact hlet.2)) (decide_eq_true (by rw [hBb, hSr]; exact hfree.1))
        rw [hBb, hSr, hfree.2] at hex
        have hrO := HF.out.own.toR
        have HRO : Hid (∀ wx, Below wr.heap.size wr wx → IntsR wx (.slice la O.length lc) O) := Lib.hid (fun wx hb => hrO.keep hb)
        have HSP := Lib.hid hsp
        have HEX := Lib.hid hex
        have HW3r := Lib.hid hW3r
        have HOl := Lib.hid hOl
        have hSO : O = [] ∧ S = [] ∨ ∃ o O' a S', O = o :: O' ∧ S = a :: S' := by
          cases O with
          | nil => left; refine ⟨rfl, ?_⟩; rw [← hS]; rfl
          | cons o O' =>
            right
            cases S with
            | nil =>
              have := hfree.2
              cases this
            | cons a S' => exact ⟨o, O', a, S', rfl, rfl⟩
        clear hfree hS hSl h4r hsp hBb hBs hSr hlet hex hrO hW3r hOl
        have hcase : ¬ (c : Int) < m ∨ ((c : Int) < m ∧ ¬ (c : Int) < 8) ∨ ((c : Int) < m ∧ (c : Int) < 8 ∧ ¬ (0 : Int) < M) := by omega
        clear hlt
        have hBt : B.toList = S := by rw [← hB, ByteArray.toList_eq]
        clear hB
        have hfin : (O = [] ∧ B.toList.isEmpty = true) ∨ ∃ o O', O = o :: O' ∧ B.toList.isEmpty = false ∧ (((O'.length : Nat) : Int) + 1 == 0) = false := by
          rcases hSO with ⟨e1, e2⟩ | ⟨o, O', sa, S', e1, e2⟩
          · exact .inl ⟨e1, by rw [hBt, e2]; rfl⟩
          · exact .inr ⟨o, O', e1, by rw [hBt, e2]; rfl, by simp; omega⟩
        clear hSO hBt
        rcases hfin with ⟨rfl, hBe⟩ | ⟨o, O', rfl, hBe, hOe⟩
        all_goals
          rcases hcase with q1 | ⟨q1, q2⟩ | ⟨q1, q2, q3⟩
          all_goals
            go_upto_region 18 with (go_at_call 37; refine HSP.out.mono ?_; rintro e w7 ⟨rfl, hb7⟩)
            have d0 := (HX.out.keep (HW3r.out.trans (hb7.mono HW3r.out.size))).cell (j := 0) rfl
            have d1 := (HX.out.keep (HW3r.out.trans (hb7.mono HW3r.out.size))).cell (j := 1) rfl
            have HE7 := Lib.hid (HEX.out w7 (HW3r.out.trans (hb7.mono HW3r.out.size)))
            have HB7 := Lib.hid hb7
            clear hb7
            go_upto_region 19 with (go_at_call 32; refine HE7.out.mono ?_; rintro e w8 ⟨v8, rfl, hr8, hb8⟩)
            have hbr8 : Below wr.heap.size wr w8 := HB7.out.trans (hb8.mono HB7.out.size)
            obtain ⟨a8, c8, rfl, -, -⟩ := hr8.shape rfl
            have hnu := numbers_any w8 _ _ _ _ hr8 (HRO.out w8 hbr8) (by have := HOl.out; omega)
            rw [decide_eq_true rfl] at hnu
            have HNU := Lib.hid hnu
            have HB8 := Lib.hid (HBW.out.trans (hbr8.mono HBW.out.size))
            have HAW := Lib.hid (fun wx => awake_any wx)
            clear hr8 hb8 hbr8 hnu d0 d1
            go_wp2_with (first
              | (go_at_call 34; refine HNU.out.mono ?_; rintro e w9 ⟨rfl, hb9⟩; have HB9 := Lib.hid (HB8.out.trans (hb9.mono HB8.out.size)); clear hb9)
              | (go_at_call 20; refine (HAW.out _).mono ?_; rintro e w10 ⟨rfl, hb10⟩; have HB10 := Lib.hid (HB9.out.trans (hb10.mono HB9.out.size)); clear hb10))
            go_ret
            exact ⟨rfl, HB10.out⟩
end Go.Proofs.Ytlooclpfoeakgaa
