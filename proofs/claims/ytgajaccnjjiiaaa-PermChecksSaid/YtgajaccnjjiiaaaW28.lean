/- PermCodes: the statements with several ways, each by itself. (Printed by gen28.py.) -/
import Derived.Test.YtgajaccnjjiiaaaW27
import Derived.Test.YtgajaccnjjiiaaaW18
import Derived.Deep.CutRange
namespace Go.Proofs.Ytgajaccnjjiiaaa
open Go.RowKit

/-- the region n, and the test behind it -/
def regAt (n : Nat) : Code → Option (Code × Code)
  | .seq (.region m x y) b => if m = n then some (.region m x y, b) else regAt n b
  | .seq a b => match regAt n a with
    | some c => some c
    | none => regAt n b
  | .loop c => regAt n c
  | .block _ c => regAt n c
  | .scope c => regAt n c
  | .cond _ a b => match regAt n a with
    | some c => some c
    | none => regAt n b
  | _ => none
/-- the block n -/
def blockAt (n : Nat) : Code → Option Code
  | .block m c => if m = n then some (.block m c) else blockAt n c
  | .seq a b => match blockAt n a with
    | some c => some c
    | none => blockAt n b
  | .loop c => blockAt n c
  | .scope c => blockAt n c
  | .cond _ a b => match blockAt n a with
    | some c => some c
    | none => blockAt n b
  | _ => none
noncomputable def reg6 (n : Nat) : Code := ((Try.f6.body.bind (regAt n)).getD (.skip, .skip)).1
noncomputable def cnd6 (n : Nat) : Code := ((Try.f6.body.bind (regAt n)).getD (.skip, .skip)).2
noncomputable def block6 (n : Nat) : Code := ((Try.f6.body.bind (blockAt n)).getD .skip)

set_option maxRecDepth 1000000 in
set_option maxHeartbeats 4000000 in
theorem PC_if9 {K' K : Act → World → Prop} {Q : Exit → Act → World → Prop} {p : List Int} {ap : Option Addr} {np cp : Nat} {w : World} {x0 x1 x2 x3 x4 x5 x7 x8 x10 x11 x12 x13 x14 x15 x18 x19 x20 x21 x22 x23 x24 x25 x26 x27 x28 x29 x30 x31 x32 x33 x34 x35 x36 x37 x38 x39 x40 x41 x42 x43 x44 x45 x46 x47 x48 x49 x50 x51 x52 x53 x54 x55 x56 x57 x58 x59 x60 x61 x62 x63 x64 x65 x66 x67 x68 x69 x70 x71 x72 x73 x74 x75 x76 x77 x78 x79 x80 x81 x82 x83 x84 x85 x86 x87 x88 x89 x90 x91 x92 x93 x94 x95 x96 x97 x98 x99 x100 x101 x102 x103 x104 x105 x106 x107 x108 x109 x110 x111 x112 x113 x114 x115 x116 x117 x118 x119 x120 x121 x122 x123 x124 x125 x126 x127 x128 x129 x130 x131 x132 x133 x134 x135 x136 x137 x138 x139 x140 x141 x142 x143 x144 x145 x146 x147 x148 x149 x150 x151 x152 x153 x154 x155 x156 x157 x158 x159 x160 x161 x162 x163 x164 x165 x166 x167 x168 x169 x170 x171 x172 x173 x174 x175 x176 x177 x178 x179 x180 x181 x182 x183 x184 x185 x186 x187 x188 x189 x190 x191 x192 x193 x194 x195 x196 x197 x198 x199 x200 x201 x202 x203 x204 x205 x206 x207 x208 x209 x210 x211 x212 x213 x214 x215 : Value}
    (hc : ∀ a w, Code.wp Try.prog (cnd6 9) (Exit.then K Q) a w → K' a w) (hp : Ints w (.slice ap np cp) p)
    (hK : ∀ (y16 y17 y82 y83 y84 y85 y86 y87 y88 y89 y90 y91 y92 y93 y94 y95 y96 y97 y98 : Value) (wx : World), Below w.heap.size w wx → K { tmps := #[x0, x1, x2, x3, x4, x5, (.bool false), x7, x8, (.slice ap np cp), x10, x11, x12, x13, x14, x15, y16, y17, x18, x19, x20, x21, x22, x23, x24, x25, x26, x27, x28, x29, x30, x31, x32, x33, x34, x35, x36, x37, x38, x39, x40, x41, x42, x43, x44, x45, x46, x47, x48, x49, x50, x51, x52, x53, x54, x55, x56, x57, x58, x59, x60, x61, x62, x63, x64, x65, x66, x67, x68, x69, x70, x71, x72, x73, x74, x75, x76, x77, x78, x79, x80, x81, y82, y83, y84, y85, y86, y87, y88, y89, y90, y91, y92, y93, y94, y95, y96, y97, y98, x99, x100, x101, x102, x103, x104, x105, x106, x107, x108, x109, x110, x111, x112, x113, x114, x115, x116, x117, x118, x119, x120, x121, x122, x123, x124, x125, x126, x127, x128, x129, x130, x131, x132, x133, x134, x135, x136, x137, x138, x139, x140, x141, x142, x143, x144, x145, x146, x147, x148, x149, x150, x151, x152, x153, x154, x155, x156, x157, x158, x159, x160, x161, x162, x163, x164, x165, x166, x167, x168, x169, x170, x171, x172, x173, x174, x175, x176, x177, x178, x179, x180, x181, x182, x183, x184, x185, x186, x187, x188, x189, x190, x191, x192, x193, x194, x195, x196, x197, x198, x199, x200, x201, x202, x203, x204, x205, x206, x207, x208, x209, x210, x211, x212, x213, x214, x215], defers := [] } wx) :
    Code.wp Try.prog (reg6 9) (Exit.then K' (Exit.then K Q)) { tmps := #[x0, x1, x2, x3, x4, x5, (.bool false), x7, x8, (.slice ap np cp), x10, x11, x12, x13, x14, x15, (.int .i64 (rkM p)), (.int .i64 (rkErr p)), x18, x19, x20, x21, x22, x23, x24, x25, x26, x27, x28, x29, x30, x31, x32, x33, x34, x35, x36, x37, x38, x39, x40, x41, x42, x43, x44, x45, x46, x47, x48, x49, x50, x51, x52, x53, x54, x55, x56, x57, x58, x59, x60, x61, x62, x63, x64, x65, x66, x67, x68, x69, x70, x71, x72, x73, x74, x75, x76, x77, x78, x79, x80, x81, x82, x83, x84, x85, x86, x87, x88, x89, x90, x91, x92, x93, x94, x95, x96, x97, x98, x99, x100, x101, x102, x103, x104, x105, x106, x107, x108, x109, x110, x111, x112, x113, x114, x115, x116, x117, x118, x119, x120, x121, x122, x123, x124, x125, x126, x127, x128, x129, x130, x131, x132, x133, x134, x135, x136, x137, x138, x139, x140, x141, x142, x143, x144, x145, x146, x147, x148, x149, x150, x151, x152, x153, x154, x155, x156, x157, x158, x159, x160, x161, x162, x163, x164, x165, x166, x167, x168, x169, x170, x171, x172, x173, x174, x175, x176, x177, x178, x179, x180, x181, x182, x183, x184, x185, x186, x187, x188, x189, x190, x191, x192, x193, x194, x195, x196, x197, x198, x199, x200, x201, x202, x203, x204, x205, x206, x207, x208, x209, x210, x211, x212, x213, x214, x215], defers := [] } w := by
  conv => arg 2; whnf
  conv at hc => enter [a, w, 1, 2]; whnf
  have HK := Lib.hid hK
  clear hK
  obtain ⟨hnp, hn⟩ := hp.len
  have HNP := Lib.hid hnp
  clear hnp
  by_cases h20 : 20 < np
  · have e1 : rkErr p = 2 := by rw [rkErr, ← HNP.out, if_pos h20]
    have e2 : rkM p = 0 := by rw [rkM, ← HNP.out, if_pos h20]
    go_wp2_with fail
    exact HK.out _ _ _ _ _ _ _ _ _ _ _ _ _ _ _ _ _ _ _ _ (Below.refl _ _)
  · have e1 : rkErr p = 0 := by rw [rkErr, ← HNP.out, if_neg h20]
    have e2 : rsumTo p.length (codeM p) p.length = rkM p := by rw [rkM, ← HNP.out, if_neg h20, rank_same]
    have hl : p.length ≤ 20 := by rw [← HNP.out]; omega
    have E2 := Lib.hid e2
    have HL := Lib.hid hl
    clear e2 hl
    have h20' : ¬ (20 : Int) < np := by omega
    go_wp2_with (go_at_call 37; refine (rRank_any _ p _ hp HL.out).mono ?_; rw [E2.out]; rintro e w12 ⟨rfl, hb12⟩)
    exact HK.out _ _ _ _ _ _ _ _ _ _ _ _ _ _ _ _ _ _ _ _ hb12

set_option maxRecDepth 1000000 in
set_option maxHeartbeats 4000000 in
theorem PC_if25 {K' K : Act → World → Prop} {Q : Exit → Act → World → Prop} {c' : List Int} {sa : Option Addr} {ns cs : Nat} {w : World} {x0 x1 x2 x3 x4 x5 x6 x7 x8 x9 x10 x11 x12 x13 x14 x15 x16 x17 x19 x20 x21 x23 x24 x25 x26 x27 x28 x29 x30 x31 x32 x33 x34 x35 x36 x37 x38 x39 x40 x41 x42 x43 x44 x45 x46 x47 x48 x49 x50 x51 x52 x53 x54 x55 x56 x57 x58 x59 x60 x61 x62 x63 x64 x65 x66 x67 x68 x69 x70 x71 x72 x73 x74 x75 x76 x77 x78 x79 x80 x81 x82 x83 x84 x85 x86 x87 x88 x89 x90 x91 x92 x93 x94 x95 x96 x97 x98 x99 x100 x101 x102 x103 x104 x105 x106 x107 x108 x109 x110 x111 x112 x113 x114 x115 x116 x117 x118 x119 x120 x121 x122 x123 x124 x125 x126 x127 x128 x129 x130 x131 x132 x133 x134 x135 x136 x137 x138 x139 x140 x141 x142 x143 x144 x145 x146 x147 x148 x149 x150 x151 x152 x153 x154 x155 x156 x157 x158 x159 x160 x161 x162 x163 x164 x165 x166 x167 x168 x169 x170 x171 x172 x173 x174 x175 x176 x177 x178 x179 x180 x181 x182 x183 x184 x185 x186 x187 x188 x189 x190 x191 x192 x193 x194 x195 x196 x197 x198 x199 x200 x201 x202 x203 x204 x205 x206 x207 x208 x209 x210 x211 x212 x213 x214 x215 : Value}
    (hc : ∀ a w, Code.wp Try.prog (cnd6 25) (Exit.then K Q) a w → K' a w) (HNS : Hid (c'.length = ns))
    (hK : ∀ (y132 y133 y134 y135 y136 y137 y138 y139 : Value) (wx : World), w = wx → K { tmps := #[x0, x1, x2, x3, x4, x5, x6, x7, x8, x9, x10, x11, x12, x13, x14, x15, x16, x17, (.slice sa ns cs), x19, x20, x21, (.int .i64 (fcErr c')), x23, x24, x25, x26, x27, x28, x29, x30, x31, x32, x33, x34, x35, x36, x37, x38, x39, x40, x41, x42, x43, x44, x45, x46, x47, x48, x49, x50, x51, x52, x53, x54, x55, x56, x57, x58, x59, x60, x61, x62, x63, x64, x65, x66, x67, x68, x69, x70, x71, x72, x73, x74, x75, x76, x77, x78, x79, x80, x81, x82, x83, x84, x85, x86, x87, x88, x89, x90, x91, x92, x93, x94, x95, x96, x97, x98, x99, x100, x101, x102, x103, x104, x105, x106, x107, x108, x109, x110, x111, x112, x113, x114, x115, x116, x117, x118, x119, x120, x121, x122, x123, x124, x125, x126, x127, x128, x129, x130, x131, y132, y133, y134, y135, y136, y137, y138, y139, x140, x141, x142, x143, x144, x145, x146, x147, x148, x149, x150, x151, x152, x153, x154, x155, x156, x157, x158, x159, x160, x161, x162, x163, x164, x165, x166, x167, x168, x169, x170, x171, x172, x173, x174, x175, x176, x177, x178, x179, x180, x181, x182, x183, x184, x185, x186, x187, x188, x189, x190, x191, x192, x193, x194, x195, x196, x197, x198, x199, x200, x201, x202, x203, x204, x205, x206, x207, x208, x209, x210, x211, x212, x213, x214, x215], defers := [] } wx) :
    Code.wp Try.prog (reg6 25) (Exit.then K' (Exit.then K Q)) { tmps := #[x0, x1, x2, x3, x4, x5, x6, x7, x8, x9, x10, x11, x12, x13, x14, x15, x16, x17, (.slice sa ns cs), x19, x20, x21, (.int .i64 (wantTo c' ns)), x23, x24, x25, x26, x27, x28, x29, x30, x31, x32, x33, x34, x35, x36, x37, x38, x39, x40, x41, x42, x43, x44, x45, x46, x47, x48, x49, x50, x51, x52, x53, x54, x55, x56, x57, x58, x59, x60, x61, x62, x63, x64, x65, x66, x67, x68, x69, x70, x71, x72, x73, x74, x75, x76, x77, x78, x79, x80, x81, x82, x83, x84, x85, x86, x87, x88, x89, x90, x91, x92, x93, x94, x95, x96, x97, x98, x99, x100, x101, x102, x103, x104, x105, x106, x107, x108, x109, x110, x111, x112, x113, x114, x115, x116, x117, x118, x119, x120, x121, x122, x123, x124, x125, x126, x127, x128, x129, x130, x131, x132, x133, x134, x135, x136, x137, x138, x139, x140, x141, x142, x143, x144, x145, x146, x147, x148, x149, x150, x151, x152, x153, x154, x155, x156, x157, x158, x159, x160, x161, x162, x163, x164, x165, x166, x167, x168, x169, x170, x171, x172, x173, x174, x175, x176, x177, x178, x179, x180, x181, x182, x183, x184, x185, x186, x187, x188, x189, x190, x191, x192, x193, x194, x195, x196, x197, x198, x199, x200, x201, x202, x203, x204, x205, x206, x207, x208, x209, x210, x211, x212, x213, x214, x215], defers := [] } w := by
  conv => arg 2; whnf
  conv at hc => enter [a, w, 1, 2]; whnf
  have HK := Lib.hid hK
  clear hK
  by_cases h1 : ns < 1
  · have e1 : fcErr c' = 20 := by rw [fcErr, HNS.out, if_pos (by omega)]
    rw [e1] at HK
    have d1 : decide ((ns : Int) < 1) = true := by simp; omega
    go_wp2_with fail
    exact HK.out _ _ _ _ _ _ _ _ _ rfl
  · have d1 : decide ((ns : Int) < 1) = false := by simp; omega
    by_cases h2 : 60 < ns
    · have e1 : fcErr c' = 20 := by rw [fcErr, HNS.out, if_pos (by omega)]
      rw [e1] at HK
      have d2 : decide ((60 : Int) < ns) = true := by simp; omega
      go_wp2_with fail
      exact HK.out _ _ _ _ _ _ _ _ _ rfl
    · have e1 : fcErr c' = wantTo c' ns := by rw [fcErr, HNS.out, if_neg (by omega)]
      rw [e1] at HK
      have d2 : decide ((60 : Int) < ns) = false := by simp; omega
      go_wp2_with fail
      exact HK.out _ _ _ _ _ _ _ _ _ rfl

set_option maxRecDepth 1000000 in
set_option maxHeartbeats 4000000 in
theorem PC_if27 {K' K : Act → World → Prop} {Q : Exit → Act → World → Prop} {c' : List Int} {s18 q : Value} {w : World} {x0 x1 x2 x3 x4 x5 x6 x7 x8 x9 x10 x11 x12 x13 x14 x15 x16 x17 x19 x23 x24 x25 x26 x27 x28 x29 x30 x31 x32 x33 x34 x35 x36 x37 x38 x39 x40 x41 x42 x43 x44 x45 x46 x47 x48 x49 x50 x51 x52 x53 x54 x55 x56 x57 x58 x59 x60 x61 x62 x63 x64 x65 x66 x67 x68 x69 x70 x71 x72 x73 x74 x75 x76 x77 x78 x79 x80 x81 x82 x83 x84 x85 x86 x87 x88 x89 x90 x91 x92 x93 x94 x95 x96 x97 x98 x99 x100 x101 x102 x103 x104 x105 x106 x107 x108 x109 x110 x111 x112 x113 x114 x115 x116 x117 x118 x119 x120 x121 x122 x123 x124 x125 x126 x127 x128 x129 x130 x131 x132 x133 x134 x135 x136 x137 x138 x139 x140 x141 x142 x143 x144 x145 x146 x147 x148 x149 x150 x151 x152 x153 x154 x155 x156 x157 x158 x159 x160 x161 x162 x163 x164 x165 x166 x167 x168 x169 x170 x171 x172 x173 x174 x175 x176 x177 x178 x179 x180 x181 x182 x183 x184 x185 x186 x187 x188 x189 x190 x191 x192 x193 x194 x195 x196 x197 x198 x199 x200 x201 x202 x203 x204 x205 x206 x207 x208 x209 x210 x211 x212 x213 x214 x215 : Value}
    (hc : ∀ a w, Code.wp Try.prog (cnd6 27) (Exit.then K Q) a w → K' a w) (hs : Ints w s18 c') (HQ : (fcErr c' = 0 ∧ 1 ≤ c'.length ∧ c'.length ≤ 60 ∧ Good c' ∧ Ints w q (fcM c')) ∨ (fcErr c' ≠ 0 ∧ q = .slice none 0 0))
    (hK : ∀ (y20 y21 y22 y140 y141 y142 y143 y144 y145 y146 y147 y148 y149 y150 y151 y152 y153 y154 y155 y156 y157 y158 y159 y160 y161 y162 : Value) (wx : World), Below w.heap.size w wx → K { tmps := #[x0, x1, x2, x3, x4, x5, x6, x7, x8, x9, x10, x11, x12, x13, x14, x15, x16, x17, s18, x19, y20, y21, y22, x23, x24, x25, x26, x27, x28, x29, x30, x31, x32, x33, x34, x35, x36, x37, x38, x39, x40, x41, x42, x43, x44, x45, x46, x47, x48, x49, x50, x51, x52, x53, x54, x55, x56, x57, x58, x59, x60, x61, x62, x63, x64, x65, x66, x67, x68, x69, x70, x71, x72, x73, x74, x75, x76, x77, x78, x79, x80, x81, x82, x83, x84, x85, x86, x87, x88, x89, x90, x91, x92, x93, x94, x95, x96, x97, x98, x99, x100, x101, x102, x103, x104, x105, x106, x107, x108, x109, x110, x111, x112, x113, x114, x115, x116, x117, x118, x119, x120, x121, x122, x123, x124, x125, x126, x127, x128, x129, x130, x131, x132, x133, x134, x135, x136, x137, x138, x139, y140, y141, y142, y143, y144, y145, y146, y147, y148, y149, y150, y151, y152, y153, y154, y155, y156, y157, y158, y159, y160, y161, y162, x163, x164, x165, x166, x167, x168, x169, x170, x171, x172, x173, x174, x175, x176, x177, x178, x179, x180, x181, x182, x183, x184, x185, x186, x187, x188, x189, x190, x191, x192, x193, x194, x195, x196, x197, x198, x199, x200, x201, x202, x203, x204, x205, x206, x207, x208, x209, x210, x211, x212, x213, x214, x215], defers := [] } wx) :
    Code.wp Try.prog (reg6 27) (Exit.then K' (Exit.then K Q)) { tmps := #[x0, x1, x2, x3, x4, x5, x6, x7, x8, x9, x10, x11, x12, x13, x14, x15, x16, x17, s18, x19, q, (.int .i64 (fcErr c')), (.int .i64 (fcErr c')), x23, x24, x25, x26, x27, x28, x29, x30, x31, x32, x33, x34, x35, x36, x37, x38, x39, x40, x41, x42, x43, x44, x45, x46, x47, x48, x49, x50, x51, x52, x53, x54, x55, x56, x57, x58, x59, x60, x61, x62, x63, x64, x65, x66, x67, x68, x69, x70, x71, x72, x73, x74, x75, x76, x77, x78, x79, x80, x81, x82, x83, x84, x85, x86, x87, x88, x89, x90, x91, x92, x93, x94, x95, x96, x97, x98, x99, x100, x101, x102, x103, x104, x105, x106, x107, x108, x109, x110, x111, x112, x113, x114, x115, x116, x117, x118, x119, x120, x121, x122, x123, x124, x125, x126, x127, x128, x129, x130, x131, x132, x133, x134, x135, x136, x137, x138, x139, x140, x141, x142, x143, x144, x145, x146, x147, x148, x149, x150, x151, x152, x153, x154, x155, x156, x157, x158, x159, x160, x161, x162, x163, x164, x165, x166, x167, x168, x169, x170, x171, x172, x173, x174, x175, x176, x177, x178, x179, x180, x181, x182, x183, x184, x185, x186, x187, x188, x189, x190, x191, x192, x193, x194, x195, x196, x197, x198, x199, x200, x201, x202, x203, x204, x205, x206, x207, x208, x209, x210, x211, x212, x213, x214, x215], defers := [] } w := by
  conv => arg 2; whnf
  conv at hc => enter [a, w, 1, 2]; whnf
  have HK := Lib.hid hK
  clear hK
  rcases HQ with ⟨e0, hl1, hl2, hg, hq⟩ | ⟨ne, rfl⟩
  · have HG := Lib.hid hg
    clear hg
    go_wp2_with (first
      | (go_at_call 40; refine (rFromCode_any _ c' _ hs hl1 hl2 HG.out).mono ?_; rintro e w15 ⟨u15, rfl, hu15, hb15⟩; have hq15 := hq.below hb15 (Nat.le_refl _); have ho15 := Own.ints hu15)
      | (go_at_call 17; refine (same_any _ _ _ _ _ hq15 ho15).mono ?_; rw [decide_eq_true rfl]; rintro e w16 ⟨rfl, m16, rfl⟩))
    exact HK.out _ _ _ _ _ _ _ _ _ _ _ _ _ _ _ _ _ _ _ _ _ _ _ _ _ _ _ (hb15.drewN' m16)
  · have hb1 : (fcErr c' != 0) = true := by simpa using ne
    have hb2 : (fcErr c' == 0) = false := by simpa using ne
    generalize fcErr c' = z at *
    go_wp2_with fail
    exact HK.out _ _ _ _ _ _ _ _ _ _ _ _ _ _ _ _ _ _ _ _ _ _ _ _ _ _ _ (Below.refl _ _)

set_option maxRecDepth 1000000 in
set_option maxHeartbeats 4000000 in
theorem PC_if31 {K' K : Act → World → Prop} {Q : Exit → Act → World → Prop} {n' r' : Int} {s24 : Value} {j : Int} {w : World} {x0 x1 x2 x3 x4 x5 x6 x9 x10 x11 x12 x13 x14 x15 x16 x17 x18 x19 x20 x21 x22 x23 x26 x27 x28 x29 x30 x31 x32 x33 x34 x35 x36 x37 x38 x39 x40 x41 x42 x43 x44 x45 x46 x47 x48 x49 x50 x51 x52 x53 x54 x55 x56 x57 x58 x59 x60 x61 x62 x63 x64 x65 x66 x67 x68 x69 x70 x71 x72 x73 x74 x75 x76 x77 x78 x79 x80 x81 x82 x83 x84 x85 x86 x87 x88 x89 x90 x91 x92 x93 x94 x95 x96 x97 x98 x99 x100 x101 x102 x103 x104 x105 x106 x107 x108 x109 x110 x111 x112 x113 x114 x115 x116 x117 x118 x119 x120 x121 x122 x123 x124 x125 x126 x127 x128 x129 x130 x131 x132 x133 x134 x135 x136 x137 x138 x139 x140 x141 x142 x143 x144 x145 x146 x147 x148 x149 x150 x151 x152 x153 x154 x155 x156 x157 x158 x159 x160 x161 x162 x163 x164 x165 x166 x167 x168 x169 x170 x171 x172 x173 x174 x175 x176 x177 x178 x179 x180 x181 x182 x183 x184 x185 x186 x187 x188 x189 x190 x191 x192 x193 x194 x195 x196 x197 x198 x199 x200 x201 x202 x203 x204 x205 x206 x207 x208 x209 x210 x211 x212 x213 x214 x215 : Value}
    (hc : ∀ a w, Code.wp Try.prog (cnd6 31) (Exit.then K Q) a w → K' a w) (HUN : (∃ nN rN : Nat, n' = nN ∧ r' = rN ∧ 1 ≤ nN ∧ nN ≤ 20 ∧ rN < fct nN ∧ j = 0 ∧ Ints w s24 (fcM (digM rN nN))) ∨ (unBad n' r' ∧ j = 1 ∧ s24 = .slice none 0 0))
    (hK : ∀ (y24 y25 y170 y171 y172 y173 y174 y175 y176 y177 y178 y179 y180 y181 y182 y183 y184 y185 y186 y187 y188 y189 y190 y191 y192 y193 y194 y195 y196 y197 y198 y199 y200 y201 y202 : Value) (wx : World), Below w.heap.size w wx → K { tmps := #[x0, x1, x2, x3, x4, x5, x6, (.int .i64 n'), (.int .i64 r'), x9, x10, x11, x12, x13, x14, x15, x16, x17, x18, x19, x20, x21, x22, x23, y24, y25, x26, x27, x28, x29, x30, x31, x32, x33, x34, x35, x36, x37, x38, x39, x40, x41, x42, x43, x44, x45, x46, x47, x48, x49, x50, x51, x52, x53, x54, x55, x56, x57, x58, x59, x60, x61, x62, x63, x64, x65, x66, x67, x68, x69, x70, x71, x72, x73, x74, x75, x76, x77, x78, x79, x80, x81, x82, x83, x84, x85, x86, x87, x88, x89, x90, x91, x92, x93, x94, x95, x96, x97, x98, x99, x100, x101, x102, x103, x104, x105, x106, x107, x108, x109, x110, x111, x112, x113, x114, x115, x116, x117, x118, x119, x120, x121, x122, x123, x124, x125, x126, x127, x128, x129, x130, x131, x132, x133, x134, x135, x136, x137, x138, x139, x140, x141, x142, x143, x144, x145, x146, x147, x148, x149, x150, x151, x152, x153, x154, x155, x156, x157, x158, x159, x160, x161, x162, x163, x164, x165, x166, x167, x168, x169, y170, y171, y172, y173, y174, y175, y176, y177, y178, y179, y180, y181, y182, y183, y184, y185, y186, y187, y188, y189, y190, y191, y192, y193, y194, y195, y196, y197, y198, y199, y200, y201, y202, x203, x204, x205, x206, x207, x208, x209, x210, x211, x212, x213, x214, x215], defers := [] } wx) :
    Code.wp Try.prog (reg6 31) (Exit.then K' (Exit.then K Q)) { tmps := #[x0, x1, x2, x3, x4, x5, x6, (.int .i64 n'), (.int .i64 r'), x9, x10, x11, x12, x13, x14, x15, x16, x17, x18, x19, x20, x21, x22, x23, s24, (.int .i64 j), x26, x27, x28, x29, x30, x31, x32, x33, x34, x35, x36, x37, x38, x39, x40, x41, x42, x43, x44, x45, x46, x47, x48, x49, x50, x51, x52, x53, x54, x55, x56, x57, x58, x59, x60, x61, x62, x63, x64, x65, x66, x67, x68, x69, x70, x71, x72, x73, x74, x75, x76, x77, x78, x79, x80, x81, x82, x83, x84, x85, x86, x87, x88, x89, x90, x91, x92, x93, x94, x95, x96, x97, x98, x99, x100, x101, x102, x103, x104, x105, x106, x107, x108, x109, x110, x111, x112, x113, x114, x115, x116, x117, x118, x119, x120, x121, x122, x123, x124, x125, x126, x127, x128, x129, x130, x131, x132, x133, x134, x135, x136, x137, x138, x139, x140, x141, x142, x143, x144, x145, x146, x147, x148, x149, x150, x151, x152, x153, x154, x155, x156, x157, x158, x159, x160, x161, x162, x163, x164, x165, x166, x167, x168, x169, x170, x171, x172, x173, x174, x175, x176, x177, x178, x179, x180, x181, x182, x183, x184, x185, x186, x187, x188, x189, x190, x191, x192, x193, x194, x195, x196, x197, x198, x199, x200, x201, x202, x203, x204, x205, x206, x207, x208, x209, x210, x211, x212, x213, x214, x215], defers := [] } w := by
  conv => arg 2; whnf
  conv at hc => enter [a, w, 1, 2]; whnf
  have HK := Lib.hid hK
  clear hK
  rcases HUN with ⟨nN, rN, rfl, rfl, h1, h2, h3, rfl, hs⟩ | ⟨hb, rfl, rfl⟩
  · have hfa := fun W => Factorial_any nN W h2
    have hur := fun W => rUnrank_any nN rN W h1 h2 h3
    have d1 : decide ((nN : Int) < 1) = false := by simp; omega
    have d2 : decide ((20 : Int) < nN) = false := by simp; omega
    have d3 : decide ((rN : Int) < 0) = false := by simp
    have d4 : ¬ ((fct nN : Nat) : Int) ≤ rN := by omega
    have d5 : decide (fct nN ≤ rN) = false := by simp; omega
    have d6 : decide (((fct nN : Nat) : Int) ≤ rN) = false := decide_eq_false d4
    clear h3
    generalize fct nN = f at *
    go_wp2_with (first
      | (go_at_call 42; refine (hfa _).mono ?_; rintro e w1 ⟨rfl, rfl⟩)
      | (go_at_call 43; refine (hur _).mono ?_; rintro e w18 ⟨u18, rfl, hu18, hb18⟩; have hs18 := hs.below hb18 (Nat.le_refl _))
      | (go_at_call 17; refine (same_any _ _ _ _ _ hs18 hu18).mono ?_; rw [decide_eq_true rfl]; rintro e w19 ⟨rfl, m19, rfl⟩))
    exact HK.out _ _ _ _ _ _ _ _ _ _ _ _ _ _ _ _ _ _ _ _ _ _ _ _ _ _ _ _ _ _ _ _ _ _ _ _ (hb18.drewN' m19)
  · by_cases h1 : n' < 1
    · go_wp2_with fail
      exact HK.out _ _ _ _ _ _ _ _ _ _ _ _ _ _ _ _ _ _ _ _ _ _ _ _ _ _ _ _ _ _ _ _ _ _ _ _ (Below.refl _ _)
    · by_cases h2 : 20 < n'
      · go_wp2_with fail
        exact HK.out _ _ _ _ _ _ _ _ _ _ _ _ _ _ _ _ _ _ _ _ _ _ _ _ _ _ _ _ _ _ _ _ _ _ _ _ (Below.refl _ _)
      · by_cases h3 : r' < 0
        · go_wp2_with fail
          exact HK.out _ _ _ _ _ _ _ _ _ _ _ _ _ _ _ _ _ _ _ _ _ _ _ _ _ _ _ _ _ _ _ _ _ _ _ _ (Below.refl _ _)
        · obtain ⟨nN, rfl⟩ := Int.eq_ofNat_of_zero_le (by omega : 0 ≤ n')
          have hfa := fun W => Factorial_any nN W (by omega)
          have h4 : ((fct nN : Nat) : Int) ≤ r' := by
            unfold unBad at hb
            rw [Int.toNat_natCast] at hb
            omega
          clear hb
          generalize fct nN = f at *
          go_wp2_with (go_at_call 42; refine (hfa _).mono ?_; rintro e w18 ⟨rfl, rfl⟩)
          exact HK.out _ _ _ _ _ _ _ _ _ _ _ _ _ _ _ _ _ _ _ _ _ _ _ _ _ _ _ _ _ _ _ _ _ _ _ _ (Below.refl _ _)

end Go.Proofs.Ytgajaccnjjiiaaa
