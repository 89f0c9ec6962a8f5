/- PermCodes: the walk. (The frame of its statements: gen28.py, gen29.py; this text: gen30.py.) -/
import Derived.Test.YtgajaccnjjiiaaaW29
import Derived.Deep.CutBlock
namespace Go.Proofs.Ytgajaccnjjiiaaa
open Go.RowKit

theorem rawM_len (l : List Int) (most : Nat) : (rawM l most).length ≤ most := by unfold rawM; rw [List.length_take]; omega

set_option maxRecDepth 100000 in
set_option maxHeartbeats 8000000 in
theorem PermCodes_any (v u : Value) (l c : List Int) (n r : Int) (w : World) (hv : Ints w v l) (hu : Ints w u c) (hnil : ∀ n c, u = .slice none n c → c = 0)
    (hn : -9223372036854775808 ≤ n ∧ n ≤ 9223372036854775807) (hr : -9223372036854775808 ≤ r ∧ r ≤ 9223372036854775807) :
    Calls Try.prog 6 #[v, u, .agg #[.int .i64 n, .int .i64 r]] w fun e w' => e = .returned (.bool true) ∧ Below w.heap.size w w' := by
  have hch := tameM_check l 60 (by omega) (by omega)
  have hln : (tameM l 60).length ≤ 1000 := by rw [tameM_len]; unfold tameN; omega
  have hpr := perm_range hch
  generalize hp : tameM l 60 = p at *
  have HP := Lib.hid hp
  have HCH := Lib.hid hch
  have HLN := Lib.hid hln
  have HPR := Lib.hid hpr
  clear hch hln hp hpr
  go_enter Try.func6, Try.ntmps6
  go_upto_region 1 with fail
  have hB0 : Below w.heap.size w (w.alloc (.cells #[.int .i64 n, .int .i64 r] 49)) := (Below.refl _ _).alloc (Nat.le_refl _) _
  have hc0 := (Blk.new w 49 [.int .i64 n, .int .i64 r]).cell (j := 0) rfl
  have hc1 := (Blk.new w 49 [.int .i64 n, .int .i64 r]).cell (j := 1) rfl
  simp only [List.toArray] at hc0 hc1
  generalize (w.alloc (.cells #[.int .i64 n, .int .i64 r] 49)) = w0 at *
  go_quiet (fail)
  have hB1 := hB0.drewN' nq
  have hv1 := hv.below hB1 (Nat.le_refl _)
  have hu1 := hu.below hB1 (Nat.le_refl _)
  generalize w0.drewN nq = w1 at *
  clear hc0 hc1 hB0
  go_upto_region 9 with (first
    | (go_at_call 14; refine (tame_any _ l 60 _ hv1 (by omega)).mono ?_; rw [HP.out]; rintro e w2 ⟨u2, rfl, hown2, hb2⟩; have hB2 := hB1.trans (hb2.mono hB1.size); have hp2 := Own.ints hown2; obtain ⟨ap, np, cp, rfl, HNP, hnp⟩ := hp2.open)
    | (go_at_call 30; refine (Inverse_any _ p _ hp2 HCH.out HLN.out).mono ?_; rintro e w3 ⟨u3, rfl, ha3, hb3⟩; have hB3 := hB2.trans (hb3.mono hB2.size); have hp3 := hp2.below hb3 (Nat.le_refl _))
    | (go_at_call 31; refine (Inversions_any _ p _ hp3 HCH.out HLN.out).mono ?_; rintro e w4 ⟨rfl, hb4⟩; have hB4 := hB3.trans (hb4.mono hB3.size); have hp4 := hp3.below hb4 (Nat.le_refl _); have ha4 := ha3.below hb4 (Nat.le_refl _))
    | (go_at_call 32; refine (Code_any _ p _ hp4 HCH.out HLN.out).mono ?_; rintro e w5 ⟨u5, rfl, hd5, hb5⟩; have hB5 := hB4.trans (hb5.mono hB4.size); have hp5 := hp4.below hb5 (Nat.le_refl _); have ha5 := ha4.below hb5 (Nat.le_refl _))
    | (go_at_call 33; refine (Rank_all _ p _ hp5 HCH.out).mono ?_; rintro e w6 ⟨rfl, hb6⟩; have hB6 := hB5.trans (hb6.mono hB5.size); have hp6 := hp5.below hb6 (Nat.le_refl _); have ha6 := ha5.below hb6 (Nat.le_refl _); have hd6 := hd5.below hb6 (Nat.le_refl _))
    | (go_at_call 34; refine (rinverse_any _ p _ hp6 HPR.out HLN.out).mono ?_; rintro e w7 ⟨u7, rfl, ha7, hb7⟩; have hB7 := hB6.trans (hb7.mono hB6.size); have hp7 := hp6.below hb7 (Nat.le_refl _); have hx7 := ha6.below hb7 (Nat.le_refl _); have hd7 := hd6.below hb7 (Nat.le_refl _))
    | (go_at_call_of 17 u3; refine (same_any _ _ _ _ _ hx7 ha7).mono ?_; rw [decide_eq_true rfl]; rintro e w8 ⟨rfl, m8, rfl⟩)
    | (go_at_call 35; refine (rInversions_any _ p _ (hp7.below ((Below.refl _ _).drewN' m8) (Nat.le_refl _)) HLN.out).mono ?_; rintro e w9 ⟨rfl, hb9⟩; have hB9 := (hB7.drewN' m8).trans (hb9.mono (by exact hB7.size)); have hp9 := (hp7.below ((Below.refl _ _).drewN' m8) (Nat.le_refl _)).below hb9 (Nat.le_refl _); have hd9 := (hd7.below ((Below.refl _ _).drewN' m8) (Nat.le_refl _)).below hb9 (Nat.le_refl _))
    | (go_at_call 36; refine (rcode_any _ p _ hp9 HLN.out).mono ?_; rintro e w10 ⟨u10, rfl, hown10, hb10⟩; have hB10 := hB9.trans (hb10.mono hB9.size); have hp10 := hp9.below hb10 (Nat.le_refl _); have hd10 := hd9.below hb10 (Nat.le_refl _))
    | (go_at_call_of 17 u5; refine (same_any _ _ _ _ _ hd10 (Own.ints hown10)).mono ?_; rw [decide_eq_true rfl]; rintro e w11 ⟨rfl, m11, rfl⟩))
  have hB11 := hB10.drewN' m11
  have hp11 := hp10.below ((Below.refl _ _).drewN' m11) (Nat.le_refl _)
  have hd11 := hd10.below ((Below.refl _ _).drewN' m11) (Nat.le_refl _)
  generalize w10.drewN m11 = w11 at *
  clear hb2 hb3 hb4 hb5 hb6 hB2 hB3 hB4 hB5 hp2 hp3 hp4 hp5 ha3 ha4 ha5 hd5 hown2 hv1 hp6 ha6 hd6 hB6 hb7 hB7 hp7 hx7 hd7 hb9 hB9 hp9 hd9 hown10 hb10 hB10 hp10 hd10 hu1 hv ha7 hB1
  refine PC_if9 (by assumption) hp11 ?_
  intro y16 y17 y82 y83 y84 y85 y86 y87 y88 y89 y90 y91 y92 y93 y94 y95 y96 y97 y98 wc hcut
  have hB12 := hB11.trans (hcut.mono hB11.size)
  have hd12 := hd11.below hcut (Nat.le_refl _)
  have hu12 := hu.below hB12 (Nat.le_refl _)
  have hz12 := hB12.size
  clear hp11 hd11 hB11 hcut hu
  go_wp2_with (go_at_call 38; refine (raw_any _ c 61 _ hu12 hnil (by omega)).mono ?_; rintro e w13 ⟨u13, rfl, hown13, hb13⟩; have hB13 := hB12.trans (hb13.mono hz12); have hd13 := hd12.below hb13 (Nat.le_refl _); have hr13 := Own.ints hown13)
  clear hu12 hd12 hown13 hB12 hz12
  go_loopw [7, 8, 18, 19] (fun a b s i wr => ∃ (n' r' : Int) (k : Nat) (c' : List Int), (-9223372036854775808 ≤ n' ∧ n' ≤ 9223372036854775807) ∧ (-9223372036854775808 ≤ r' ∧ r' ≤ 9223372036854775807) ∧ k ≤ 2 ∧ a = .int .i64 n' ∧ b = .int .i64 r' ∧ i = .int .i64 k ∧ Ints wr s c' ∧ Hid (c'.length ≤ 1000) ∧ Ints wr u5 (codeM p) ∧ Below w.heap.size w wr) (fun _ _ _ i _ => 2 - (intOf i).toNat)
  case atStart => exact ⟨n, r, 0, rawM c 61, hn, hr, by omega, rfl, rfl, rfl, hr13, (show (rawM c 61).length ≤ 1000 from Nat.le_trans (rawM_len c 61) (by omega)), hd13, hB13⟩
  case round =>
    clear hr13 hd13 hB13 hb13 hn hr
    obtain ⟨n', r', k, c', hn, hr, hk, rfl, rfl, rfl, hs, HCL, hd, hB⟩ := hrel
    have hz := hB.size
    by_cases hlt : k < 2
    · go_upto_block 1 with fail
      refine PC_round hs HCL ?_
      intro y20 y21 y22 y23 y24 y25 y105 y106 y107 y108 y109 y110 y111 y112 y113 y114 y115 y116 y117 y118 y119 y120 y121 y122 y123 y124 y125 y126 y127 y128 y129 y130 y131 y132 y133 y134 y135 y136 y137 y138 y139 y140 y141 y142 y143 y144 y145 y146 y147 y148 y149 y150 y151 y152 y153 y154 y155 y156 y157 y158 y159 y160 y161 y162 y163 y164 y165 y166 y167 y168 y169 y170 y171 y172 y173 y174 y175 y176 y177 y178 y179 y180 y181 y182 y183 y184 y185 y186 y187 y188 y189 y190 y191 y192 y193 y194 y195 y196 y197 y198 y199 y200 y201 y202 y203 y204 y205 y206 y207 y208 y209 y210 y211 y212 y213 y214 n2 r2 wx hn2 hr2 hbx
      have hd2 := hd.below hbx (Nat.le_refl _)
      have hB2 := hB.trans (hbx.mono hz)
      have hcl : (codeM p).length ≤ 1000 := by rw [codeM_length]; exact HLN.out
      have HCL2 := Lib.hid hcl
      clear hs hd hbx hB hcl HCL
      go_wp2_with fail
      go_roundw
      case rel => exact ⟨n2, r2, k + 1, codeM p, hn2, hr2, by omega, rfl, rfl, by go_num, hd2, HCL2, hd2, hB2⟩
      case measure => simp [intOf]; omega
    · obtain rfl : k = 2 := by omega
      go_wp2_with (go_at_call 22; refine (awake_any _).mono ?_; rintro e w9 ⟨rfl, hb9⟩)
      go_ret
      exact ⟨rfl, hB.trans (hb9.mono hB.size)⟩
end Go.Proofs.Ytgajaccnjjiiaaa
