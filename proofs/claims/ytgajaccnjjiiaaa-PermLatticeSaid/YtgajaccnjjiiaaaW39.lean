/- Join: its two statements on tables, each by itself. (Printed by gen39.py.) -/
import Derived.Test.YtgajaccnjjiiaaaW38
import Derived.Deep.CutRange
import Derived.Test.YtgajaccnjjiiaaaFence
namespace Go.Proofs.Ytgajaccnjjiiaaa
open Go.RowKit Go.BigFrame

/-- the region n -/
def onlyAt (n : Nat) : Code → Option Code
  | .region m a b => if m = n then some (.region m a b) else none
  | .seq a b => match onlyAt n a with
    | some c => some c
    | none => onlyAt n b
  | .loop c => onlyAt n c
  | .block _ c => onlyAt n c
  | .scope c => onlyAt n c
  | .cond _ a b => match onlyAt n a with
    | some c => some c
    | none => onlyAt n b
  | _ => none
noncomputable def reg54 (n : Nat) : Code := ((Try.f54.body.bind (onlyAt n)).getD .skip)

set_option maxRecDepth 1000000 in
set_option maxHeartbeats 4000000 in
theorem PJ_12 {Q : Exit → Act → World → Prop} {g h a b B : Nat} {S Y : Nat → Nat → Bool} {w : World} {x0 x1 x2 x3 x4 x5 x6 x9 x12 x13 x14 x15 x16 x17 x18 x19 x20 x21 x22 x23 x24 x25 x26 x27 x28 x29 x30 x31 x32 x33 x34 x35 x36 x37 x38 x39 x40 x41 x42 x43 x44 x45 x46 x47 x48 x49 x50 x51 x52 x53 x54 x55 x56 x57 x58 x59 x60 x61 x62 x63 x64 x65 x66 x67 x68 x69 x70 x71 x72 x73 x74 x75 x76 x77 x78 x79 x80 x81 x82 x83 x84 x85 x86 x87 x88 x89 x90 x91 x92 x93 x94 x95 x96 x97 x98 x99 x100 x101 x102 x103 x104 x105 x106 x107 : Value}
    (hS : Mat w g S) (hY : Mat w h Y) (ha : a < 60) (hb : b < 60) (hne : g ≠ h) (hB : B ≤ g)
    (hK : ∀ (y35 y36 y37 y38 y39 y40 y41 y42 y43 y44 y45 y46 y47 y48 y49 y50 y51 y52 y53 y54 y55 y56 : Value) (wx : World), Mat wx g (upd S a b (S a b || Y a b)) → Mat wx h Y → Below B w wx → Q .normal { tmps := #[x0, x1, x2, x3, x4, x5, x6, (.pointer (some ⟨g, 0, none⟩)), (.pointer (some ⟨h, 0, none⟩)), x9, (.int .i64 (a : Nat)), (.int .i64 (b : Nat)), x12, x13, x14, x15, x16, x17, x18, x19, x20, x21, x22, x23, x24, x25, x26, x27, x28, x29, x30, x31, x32, x33, x34, y35, y36, y37, y38, y39, y40, y41, y42, y43, y44, y45, y46, y47, y48, y49, y50, y51, y52, y53, y54, y55, y56, x57, x58, x59, x60, x61, x62, x63, x64, x65, x66, x67, x68, x69, x70, x71, x72, x73, x74, x75, x76, x77, x78, x79, x80, x81, x82, x83, x84, x85, x86, x87, x88, x89, x90, x91, x92, x93, x94, x95, x96, x97, x98, x99, x100, x101, x102, x103, x104, x105, x106, x107], defers := [] } wx) :
    Code.wp Try.prog (reg54 12) Q { tmps := #[x0, x1, x2, x3, x4, x5, x6, (.pointer (some ⟨g, 0, none⟩)), (.pointer (some ⟨h, 0, none⟩)), x9, (.int .i64 (a : Nat)), (.int .i64 (b : Nat)), x12, x13, x14, x15, x16, x17, x18, x19, x20, x21, x22, x23, x24, x25, x26, x27, x28, x29, x30, x31, x32, x33, x34, x35, x36, x37, x38, x39, x40, x41, x42, x43, x44, x45, x46, x47, x48, x49, x50, x51, x52, x53, x54, x55, x56, x57, x58, x59, x60, x61, x62, x63, x64, x65, x66, x67, x68, x69, x70, x71, x72, x73, x74, x75, x76, x77, x78, x79, x80, x81, x82, x83, x84, x85, x86, x87, x88, x89, x90, x91, x92, x93, x94, x95, x96, x97, x98, x99, x100, x101, x102, x103, x104, x105, x106, x107], defers := [] } w := by
  conv => arg 2; whnf
  have HK := Lib.hid hK
  clear hK
  have i1 : (a : Int) < 60 := by omega
  have i2 : (b : Int) < 60 := by omega
  have c1 := hS.cell ha hb
  have c2 := hY.cell ha hb
  have f1 := hS.free (a * 60 + b)
  have HS := Lib.hid hS
  have HY := Lib.hid hY
  clear hS hY
  generalize hbb : S a b = bb at *
  have HBB := Lib.hid hbb
  clear hbb
  cases bb
  · refine wp_tailQ 22 (by kernel_rfl) (by kernel_rfl) (by rfl) ?_
    simp only [List.take_succ_cons, List.take_zero, List.drop_succ_cons, List.drop_zero]
    repeat (go_big_quiet_step (fail))
    refine wpQuiet_nil ?_
    have c9 : w.drew.cell? ⟨g, a * 60 + b, none⟩ = some (.bool false) := by assumption
    have f9 : w.drew.frozen? ⟨g, a * 60 + b, none⟩ = false := f1
    have hS2 : Mat w.drew g S := HS.out
    have hb2 : Below B w w.drew := (Below.refl B w).drewN' 1
    have HS2 := Lib.hid hS2
    have HB2' := Lib.hid hb2
    have hY2 : Mat w.drew h Y := HY.out
    have HY2 := Lib.hid hY2
    clear hY2
    clear f1 hS2 hb2
    generalize w.drew = w2 at *
    go_wp2_with fail
    refine HK.out _ _ _ _ _ _ _ _ _ _ _ _ _ _ _ _ _ _ _ _ _ _ _ ?_ ?_ ?_
    · have := HS2.out.set ha hb (Y a b)
      rw [Bool.false_or]
      exact this
    · exact HY2.out.other (a := ⟨g, a * 60 + b, none⟩) (Ne.symm hne) _
    · exact HB2'.out.setCell (p := ⟨g, a * 60 + b, none⟩) hB _
  · refine wp_tailQ 22 (by kernel_rfl) (by kernel_rfl) (by rfl) ?_
    simp only [List.take_succ_cons, List.take_zero, List.drop_succ_cons, List.drop_zero]
    repeat (go_big_quiet_step (fail))
    refine wpQuiet_nil ?_
    have c9 : w.drew.cell? ⟨g, a * 60 + b, none⟩ = some (.bool true) := by assumption
    have f9 : w.drew.frozen? ⟨g, a * 60 + b, none⟩ = false := f1
    have hS2 : Mat w.drew g S := HS.out
    have hb2 : Below B w w.drew := (Below.refl B w).drewN' 1
    have HS2 := Lib.hid hS2
    have HB2' := Lib.hid hb2
    have hY2 : Mat w.drew h Y := HY.out
    have HY2 := Lib.hid hY2
    clear hY2
    clear f1 hS2 hb2
    generalize w.drew = w2 at *
    go_wp2_with fail
    refine HK.out _ _ _ _ _ _ _ _ _ _ _ _ _ _ _ _ _ _ _ _ _ _ _ ?_ ?_ ?_
    · have := HS2.out.set ha hb true
      rw [Bool.true_or]
      exact this
    · exact HY2.out.other (a := ⟨g, a * 60 + b, none⟩) (Ne.symm hne) _
    · exact HB2'.out.setCell (p := ⟨g, a * 60 + b, none⟩) hB _

set_option maxRecDepth 1000000 in
set_option maxHeartbeats 4000000 in
theorem PJ_24 {Q : Exit → Act → World → Prop} {g a b c B : Nat} {S : Nat → Nat → Bool} {w : World} {x0 x1 x2 x3 x4 x5 x6 x8 x9 x10 x11 x15 x16 x17 x18 x19 x20 x21 x22 x23 x24 x25 x26 x27 x28 x29 x30 x31 x32 x33 x34 x35 x36 x37 x38 x39 x40 x41 x42 x43 x44 x45 x46 x47 x48 x49 x50 x51 x52 x53 x54 x55 x56 x57 x58 x59 x60 x61 x62 x63 x64 x65 x66 x67 x68 x69 x70 x71 x72 x73 x74 x75 x76 x77 x78 x79 x80 x81 x82 x83 x84 x85 x86 x87 x88 x89 x90 x91 x92 x93 x94 x95 x96 x97 x98 x99 x100 x101 x102 x103 x104 x105 x106 x107 : Value}
    (hS : Mat w g S) (ha : a < 60) (hb : b < 60) (hc : c < 60) (hB : B ≤ g)
    (hK : ∀ (y71 y72 y73 y74 y75 y76 y77 y78 y79 y80 y81 y82 y83 y84 y85 y86 y87 y88 y89 y90 y91 y92 y93 y94 y95 y96 y97 y98 y99 y100 y101 : Value) (wx : World), Mat wx g (upd S a c (S a c || (S a b && S b c))) → Below B w wx → Q .normal { tmps := #[x0, x1, x2, x3, x4, x5, x6, (.pointer (some ⟨g, 0, none⟩)), x8, x9, x10, x11, (.int .i64 (b : Nat)), (.int .i64 (a : Nat)), (.int .i64 (c : Nat)), x15, x16, x17, x18, x19, x20, x21, x22, x23, x24, x25, x26, x27, x28, x29, x30, x31, x32, x33, x34, x35, x36, x37, x38, x39, x40, x41, x42, x43, x44, x45, x46, x47, x48, x49, x50, x51, x52, x53, x54, x55, x56, x57, x58, x59, x60, x61, x62, x63, x64, x65, x66, x67, x68, x69, x70, y71, y72, y73, y74, y75, y76, y77, y78, y79, y80, y81, y82, y83, y84, y85, y86, y87, y88, y89, y90, y91, y92, y93, y94, y95, y96, y97, y98, y99, y100, y101, x102, x103, x104, x105, x106, x107], defers := [] } wx) :
    Code.wp Try.prog (reg54 24) Q { tmps := #[x0, x1, x2, x3, x4, x5, x6, (.pointer (some ⟨g, 0, none⟩)), x8, x9, x10, x11, (.int .i64 (b : Nat)), (.int .i64 (a : Nat)), (.int .i64 (c : Nat)), x15, x16, x17, x18, x19, x20, x21, x22, x23, x24, x25, x26, x27, x28, x29, x30, x31, x32, x33, x34, x35, x36, x37, x38, x39, x40, x41, x42, x43, x44, x45, x46, x47, x48, x49, x50, x51, x52, x53, x54, x55, x56, x57, x58, x59, x60, x61, x62, x63, x64, x65, x66, x67, x68, x69, x70, x71, x72, x73, x74, x75, x76, x77, x78, x79, x80, x81, x82, x83, x84, x85, x86, x87, x88, x89, x90, x91, x92, x93, x94, x95, x96, x97, x98, x99, x100, x101, x102, x103, x104, x105, x106, x107], defers := [] } w := by
  conv => arg 2; whnf
  have HK := Lib.hid hK
  clear hK
  have i1 : (a : Int) < 60 := by omega
  have i2 : (b : Int) < 60 := by omega
  have i3 : (c : Int) < 60 := by omega
  have c1 := hS.cell ha hc
  have c2 := hS.cell ha hb
  have c3 := hS.cell hb hc
  have f1 := hS.free (a * 60 + c)
  have HS := Lib.hid hS
  clear hS
  generalize hbb : S a c = b1 at *
  generalize hbb2 : S a b = b2 at *
  generalize hbb3 : S b c = b3 at *
  have HB1 := Lib.hid hbb
  have HB2 := Lib.hid hbb2
  have HB3 := Lib.hid hbb3
  clear hbb hbb2 hbb3
  cases b1
  · cases b2
    · refine wp_tailQ 31 (by kernel_rfl) (by kernel_rfl) (by rfl) ?_
      simp only [List.take_succ_cons, List.take_zero, List.drop_succ_cons, List.drop_zero]
      repeat (go_big_quiet_step (fail))
      refine wpQuiet_nil ?_
      have c9 : w.drew.cell? ⟨g, a * 60 + c, none⟩ = some (.bool false) := by assumption
      have f9 : w.drew.frozen? ⟨g, a * 60 + c, none⟩ = false := f1
      have hS2 : Mat w.drew g S := HS.out
      have hb2 : Below B w w.drew := (Below.refl B w).drewN' 1
      have HS2 := Lib.hid hS2
      have HB2' := Lib.hid hb2
      clear f1 hS2 hb2
      generalize w.drew = w2 at *
      go_wp2_with fail
      refine HK.out _ _ _ _ _ _ _ _ _ _ _ _ _ _ _ _ _ _ _ _ _ _ _ _ _ _ _ _ _ _ _ _ ?_ ?_
      · rw [Bool.false_and, Bool.false_or]
        exact HS2.out.set ha hc false
      · exact HB2'.out.setCell (p := ⟨g, a * 60 + c, none⟩) hB _
    · refine wp_tailQ 31 (by kernel_rfl) (by kernel_rfl) (by rfl) ?_
      simp only [List.take_succ_cons, List.take_zero, List.drop_succ_cons, List.drop_zero]
      repeat (go_big_quiet_step (fail))
      refine wpQuiet_nil ?_
      have c9 : w.drew.cell? ⟨g, a * 60 + c, none⟩ = some (.bool false) := by assumption
      have f9 : w.drew.frozen? ⟨g, a * 60 + c, none⟩ = false := f1
      have hS2 : Mat w.drew g S := HS.out
      have hb2 : Below B w w.drew := (Below.refl B w).drewN' 1
      have HS2 := Lib.hid hS2
      have HB2' := Lib.hid hb2
      clear f1 hS2 hb2
      generalize w.drew = w2 at *
      go_wp2_with fail
      refine HK.out _ _ _ _ _ _ _ _ _ _ _ _ _ _ _ _ _ _ _ _ _ _ _ _ _ _ _ _ _ _ _ _ ?_ ?_
      · rw [Bool.true_and, Bool.false_or]
        exact HS2.out.set ha hc b3
      · exact HB2'.out.setCell (p := ⟨g, a * 60 + c, none⟩) hB _
  · refine wp_tailQ 31 (by kernel_rfl) (by kernel_rfl) (by rfl) ?_
    simp only [List.take_succ_cons, List.take_zero, List.drop_succ_cons, List.drop_zero]
    repeat (go_big_quiet_step (fail))
    refine wpQuiet_nil ?_
    have c9 : w.drew.cell? ⟨g, a * 60 + c, none⟩ = some (.bool true) := by assumption
    have f9 : w.drew.frozen? ⟨g, a * 60 + c, none⟩ = false := f1
    have hS2 : Mat w.drew g S := HS.out
    have hb2 : Below B w w.drew := (Below.refl B w).drewN' 1
    have HS2 := Lib.hid hS2
    have HB2' := Lib.hid hb2
    clear f1 hS2 hb2
    generalize w.drew = w2 at *
    go_wp2_with fail
    refine HK.out _ _ _ _ _ _ _ _ _ _ _ _ _ _ _ _ _ _ _ _ _ _ _ _ _ _ _ _ _ _ _ _ ?_ ?_
    · rw [Bool.true_or]
      exact HS2.out.set ha hc true
    · exact HB2'.out.setCell (p := ⟨g, a * 60 + c, none⟩) hB _

end Go.Proofs.Ytgajaccnjjiiaaa
