/- PermCodes: a round of its loop. (Printed by gen29.py.) -/
import Derived.Test.YtgajaccnjjiiaaaW28
namespace Go.Proofs.Ytgajaccnjjiiaaa
open Go.RowKit

theorem wrap64_range (x : Int) : -9223372036854775808 ≤ wrap64 x ∧ wrap64 x ≤ 9223372036854775807 := by unfold wrap64; omega

set_option maxRecDepth 1000000 in
set_option maxHeartbeats 8000000 in
theorem PC_round {K : Act → World → Prop} {Q : Exit → Act → World → Prop} {c' : List Int} {n' r' : Int} {v14 s18 : Value} {w : World} {x0 x1 x2 x3 x4 x5 x6 x9 x10 x11 x12 x13 x15 x16 x17 x19 x20 x21 x22 x23 x24 x25 x26 x27 x28 x29 x30 x31 x32 x33 x34 x35 x36 x37 x38 x39 x40 x41 x42 x43 x44 x45 x46 x47 x48 x49 x50 x51 x52 x53 x54 x55 x56 x57 x58 x59 x60 x61 x62 x63 x64 x65 x66 x67 x68 x69 x70 x71 x72 x73 x74 x75 x76 x77 x78 x79 x80 x81 x82 x83 x84 x85 x86 x87 x88 x89 x90 x91 x92 x93 x94 x95 x96 x97 x98 x99 x100 x101 x102 x103 x104 x105 x106 x107 x108 x109 x110 x111 x112 x113 x114 x115 x116 x117 x118 x119 x120 x121 x122 x123 x124 x125 x126 x127 x128 x129 x130 x131 x132 x133 x134 x135 x136 x137 x138 x139 x140 x141 x142 x143 x144 x145 x146 x147 x148 x149 x150 x151 x152 x153 x154 x155 x156 x157 x158 x159 x160 x161 x162 x163 x164 x165 x166 x167 x168 x169 x170 x171 x172 x173 x174 x175 x176 x177 x178 x179 x180 x181 x182 x183 x184 x185 x186 x187 x188 x189 x190 x191 x192 x193 x194 x195 x196 x197 x198 x199 x200 x201 x202 x203 x204 x205 x206 x207 x208 x209 x210 x211 x212 x213 x214 x215 : Value}
    (hs : Ints w s18 c') (HCL : Hid (c'.length ≤ 1000))
    (hK : ∀ (y20 y21 y22 y23 y24 y25 y105 y106 y107 y108 y109 y110 y111 y112 y113 y114 y115 y116 y117 y118 y119 y120 y121 y122 y123 y124 y125 y126 y127 y128 y129 y130 y131 y132 y133 y134 y135 y136 y137 y138 y139 y140 y141 y142 y143 y144 y145 y146 y147 y148 y149 y150 y151 y152 y153 y154 y155 y156 y157 y158 y159 y160 y161 y162 y163 y164 y165 y166 y167 y168 y169 y170 y171 y172 y173 y174 y175 y176 y177 y178 y179 y180 y181 y182 y183 y184 y185 y186 y187 y188 y189 y190 y191 y192 y193 y194 y195 y196 y197 y198 y199 y200 y201 y202 y203 y204 y205 y206 y207 y208 y209 y210 y211 y212 y213 y214 : Value) (n2 r2 : Int) (wx : World), (-9223372036854775808 ≤ n2 ∧ n2 ≤ 9223372036854775807) → (-9223372036854775808 ≤ r2 ∧ r2 ≤ 9223372036854775807) → Below w.heap.size w wx → K { tmps := #[x0, x1, x2, x3, x4, x5, x6, (.int .i64 n2), (.int .i64 r2), x9, x10, x11, x12, x13, v14, x15, x16, x17, v14, x19, y20, y21, y22, y23, y24, y25, x26, x27, x28, x29, x30, x31, x32, x33, x34, x35, x36, x37, x38, x39, x40, x41, x42, x43, x44, x45, x46, x47, x48, x49, x50, x51, x52, x53, x54, x55, x56, x57, x58, x59, x60, x61, x62, x63, x64, x65, x66, x67, x68, x69, x70, x71, x72, x73, x74, x75, x76, x77, x78, x79, x80, x81, x82, x83, x84, x85, x86, x87, x88, x89, x90, x91, x92, x93, x94, x95, x96, x97, x98, x99, x100, x101, x102, x103, x104, y105, y106, y107, y108, y109, y110, y111, y112, y113, y114, y115, y116, y117, y118, y119, y120, y121, y122, y123, y124, y125, y126, y127, y128, y129, y130, y131, y132, y133, y134, y135, y136, y137, y138, y139, y140, y141, y142, y143, y144, y145, y146, y147, y148, y149, y150, y151, y152, y153, y154, y155, y156, y157, y158, y159, y160, y161, y162, y163, y164, y165, y166, y167, y168, y169, y170, y171, y172, y173, y174, y175, y176, y177, y178, y179, y180, y181, y182, y183, y184, y185, y186, y187, y188, y189, y190, y191, y192, y193, y194, y195, y196, y197, y198, y199, y200, y201, y202, y203, y204, y205, y206, y207, y208, y209, y210, y211, y212, y213, y214, x215], defers := [] } wx) :
    Code.wp Try.prog (block6 1) (Exit.then K Q) { tmps := #[x0, x1, x2, x3, x4, x5, x6, (.int .i64 n'), (.int .i64 r'), x9, x10, x11, x12, x13, v14, x15, x16, x17, s18, x19, x20, x21, x22, x23, x24, x25, x26, x27, x28, x29, x30, x31, x32, x33, x34, x35, x36, x37, x38, x39, x40, x41, x42, x43, x44, x45, x46, x47, x48, x49, x50, x51, x52, x53, x54, x55, x56, x57, x58, x59, x60, x61, x62, x63, x64, x65, x66, x67, x68, x69, x70, x71, x72, x73, x74, x75, x76, x77, x78, x79, x80, x81, x82, x83, x84, x85, x86, x87, x88, x89, x90, x91, x92, x93, x94, x95, x96, x97, x98, x99, x100, x101, x102, x103, x104, x105, x106, x107, x108, x109, x110, x111, x112, x113, x114, x115, x116, x117, x118, x119, x120, x121, x122, x123, x124, x125, x126, x127, x128, x129, x130, x131, x132, x133, x134, x135, x136, x137, x138, x139, x140, x141, x142, x143, x144, x145, x146, x147, x148, x149, x150, x151, x152, x153, x154, x155, x156, x157, x158, x159, x160, x161, x162, x163, x164, x165, x166, x167, x168, x169, x170, x171, x172, x173, x174, x175, x176, x177, x178, x179, x180, x181, x182, x183, x184, x185, x186, x187, x188, x189, x190, x191, x192, x193, x194, x195, x196, x197, x198, x199, x200, x201, x202, x203, x204, x205, x206, x207, x208, x209, x210, x211, x212, x213, x214, x215], defers := [] } w := by
  conv => arg 2; whnf
  have HK := Lib.hid hK
  clear hK
  obtain ⟨sa, ns, cs, rfl, HNS, hns⟩ := hs.open
  have hns2 : ns ≤ 1000 := by have h1 := HNS.out; have h2 := HCL.out; omega
  go_wp2_with (go_at_call 39; refine (FromCode_all _ c' _ hs).mono ?_; rintro e w14 ⟨q14, rfl, hq14, hb14⟩; have hs14 := hs.below hb14 (Nat.le_refl _))
  have HQ := Lib.hid hq14
  clear hq14 hs
  go_loop [22, 23] (fun t j => ∃ m : Nat, m ≤ ns ∧ j = .int .i64 m ∧ t = .int .i64 (wantTo c' m)) (fun _ j => ns - (intOf j).toNat)
  case atStart => exact ⟨0, by omega, rfl, rfl⟩
  case round =>
    obtain ⟨m, hm, rfl, rfl⟩ := hrel
    by_cases hlm : m < ns
    · obtain ⟨b, o, x, rfl, hx, hc⟩ := hs14.at_ hlm
      have hst : wantTo c' (m + 1) = if x < 0 ∨ ((ns : Nat) : Int) - m ≤ x then 1 else wantTo c' m := by rw [wantTo, hx.out, HNS.out]; rfl
      generalize wantTo c' m = t at *
      have HST := Lib.hid hst
      clear hst hx
      by_cases hx0 : x < 0
      · go_wp2_with fail
        go_round
        case rel => exact ⟨m + 1, by omega, by go_num, by rw [HST.out, if_pos (.inl hx0)]⟩
        case measure => simp [intOf]; omega
      · by_cases hx1 : ((ns : Nat) : Int) - m ≤ x
        · go_wp2_with fail
          go_round
          case rel => exact ⟨m + 1, by omega, by go_num, by rw [HST.out, if_pos (.inr hx1)]⟩
          case measure => simp [intOf]; omega
        · go_wp2_with fail
          go_round
          case rel => exact ⟨m + 1, by omega, by go_num, by rw [HST.out, if_neg (by omega)]⟩
          case measure => simp [intOf]; omega
    · obtain rfl : m = ns := by omega
      go_upto_region 25 with fail
      refine PC_if25 (by assumption) HNS ?_
      rintro y132 y133 y134 y135 y136 y137 y138 y139 wx rfl
      go_upto_region 27 with fail
      refine PC_if27 (by assumption) hs14 HQ.out ?_
      intro y20 y21 y22 y140 y141 y142 y143 y144 y145 y146 y147 y148 y149 y150 y151 y152 y153 y154 y155 y156 y157 y158 y159 y160 y161 y162 w16 hb16
      have hB16 := hb14.trans (hb16.mono hb14.size)
      have hz16 := hB16.size
      clear hb16 hb14 hs14 HQ
      go_upto_region 31 with (go_at_call 41; refine (Unrank_all n' r' _).mono ?_; rintro e w17 ⟨s17, j17, rfl, hun, hb17⟩; have hB17 := hB16.trans (hb17.mono hz16))
      refine PC_if31 (by assumption) hun ?_
      intro y24 y25 y170 y171 y172 y173 y174 y175 y176 y177 y178 y179 y180 y181 y182 y183 y184 y185 y186 y187 y188 y189 y190 y191 y192 y193 y194 y195 y196 y197 y198 y199 y200 y201 y202 w19 hb19
      have hB19 := hB17.trans (hb19.mono hB17.size)
      clear hb19 hB17 hun hb17 hB16 hz16
      go_upto_region 37 with fail
      have hk := kidx_lt n' (n := 20) (by omega)
      have hw : wrap64 ((IntKind.u64.wrap n').tmod 20) = ((kidx n' 20 : Nat) : Int) := kidx_wrap n' (n := 20) (by omega) (by omega)
      have hw2 : wrap64 (1 + ((kidx n' 20 : Nat) : Int)) = ((kidx n' 20 + 1 : Nat) : Int) := by rw [IntWalk.wrap64_in _ (by omega)]; omega
      rw [hw, hw2]
      generalize kidx n' 20 = k2 at *
      clear hw hw2
      have hfa := fun W => Factorial_any (k2 + 1) W (by omega)
      have hfl := fct_le (k2 + 1) (by omega)
      have hfp := fct_pos (k2 + 1)
      generalize fct (k2 + 1) = f at *
      have hf1 : IntKind.u64.wrap (f : Int) = (f : Int) := by rw [IntKind.wrap_u64]; omega
      have hf0 : (f : Int) ≠ 0 := by omega
      go_wp2_with (go_at_call 42; refine (hfa _).mono ?_; rintro e w20 ⟨rfl, rfl⟩)
      exact HK.out _ _ _ _ _ _ _ _ _ _ _ _ _ _ _ _ _ _ _ _ _ _ _ _ _ _ _ _ _ _ _ _ _ _ _ _ _ _ _ _ _ _ _ _ _ _ _ _ _ _ _ _ _ _ _ _ _ _ _ _ _ _ _ _ _ _ _ _ _ _ _ _ _ _ _ _ _ _ _ _ _ _ _ _ _ _ _ _ _ _ _ _ _ _ _ _ _ _ _ _ _ _ _ _ _ _ _ _ _ _ _ _ _ _ _ _ _ _ _ (by omega) (wrap64_range _) hB19
end Go.Proofs.Ytgajaccnjjiiaaa
