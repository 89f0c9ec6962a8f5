/- checkAll of two words, and the reference's Power: the walks. -/
import Derived.Test.YtjdmmgaddbleeaaMF
import Derived.Test.YtjdmmgaddbleeaaMC
import Derived.Test.YtjdmmgaddbleeaaMI
namespace Go.Proofs.Ytjdmmgaddbleeaa
open Go.RowKit

theorem repeatL_succ' (l : List UInt8) (n : Nat) : Lib.repeatL l (n + 1) = Lib.repeatL l n ++ l := by rw [Lib.repeatL_add, Lib.repeatL_one]
theorem repeatL_len (l : List UInt8) : ∀ n, (Lib.repeatL l n).length = n * l.length
  | 0 => by simp [Lib.repeatL]
  | n + 1 => by rw [repeatL_succ', List.length_append, repeatL_len l n, Nat.succ_mul]
/-- the first error of two words -/
def errTwo (a b : ByteArray) : Int := if wordErr a = 0 then wordErr b else wordErr a

set_option maxRecDepth 100000 in
set_option maxHeartbeats 1000000 in
theorem checkAll_any (a b : ByteArray) (W : World) (ha : a.size ≤ 9223372036854775807) (hb : b.size ≤ 9223372036854775807) :
    Calls Try.prog 64 #[.slice (some ⟨W.heap.size, 0, none⟩) 2 2] (W.alloc (.cells #[.string a, .string b] 9)) fun e w' => e = .returned (.int .i64 (errTwo a b)) ∧ Below W.heap.size W w' := by
  have hca := fun V => check_any a V ha
  have hcb := fun V => check_any b V hb
  have hbx := Blk.new W 9 [.string a, .string b]
  have hB0 : Below W.heap.size W (W.alloc (.cells #[.string a, .string b] 9)) := (Below.refl _ _).alloc (Nat.le_refl _) _
  have hres : ∀ x, (wordErr a ≠ 0 → x = wordErr a) → (wordErr a = 0 → x = wordErr b) → Ending.returned (.int .i64 x) = Ending.returned (.int .i64 (errTwo a b)) := by
    intro x h1 h2
    unfold errTwo
    split
    · rw [h2 (by assumption)]
    · rw [h1 (by assumption)]
  generalize errTwo a b = R at *
  generalize wordErr a = ea at *
  generalize wordErr b = eb at *
  have HCA := Lib.hid hca
  have HCB := Lib.hid hcb
  have HBX := Lib.hid hbx
  have HB0 := Lib.hid hB0
  have HRES := Lib.hid hres
  clear hca hcb hbx hB0 hres ha hb
  go_enter Try.func64, Try.ntmps64
  go_wp2_with fail
  go_loopw [8] (fun iv wr => ∃ k : Nat, k ≤ 2 ∧ iv = .int .i64 k ∧ Hid (Blk wr W.heap.size 9 [.string a, .string b]) ∧ Hid (Below W.heap.size W wr) ∧ Hid (1 ≤ k → ea = 0) ∧ Hid (2 ≤ k → eb = 0)) (fun iv _ => 2 - (intOf iv).toNat)
  case atStart => exact ⟨0, by omega, rfl, HBX, HB0, (show Hid (_ → _) from fun h => by omega), (show Hid (_ → _) from fun h => by omega)⟩
  case round =>
    clear HBX HB0
    obtain ⟨k, hk, rfl, HBX, HB, HA, HE⟩ := hrel
    obtain rfl | rfl | rfl : k = 0 ∨ k = 1 ∨ k = 2 := by omega
    · have c0 := HBX.out.cell (j := 0) rfl
      by_cases he : ea = 0
      · subst he
        go_wp2_with (go_at_call 38; refine (HCA.out _).mono ?_; rintro e w1 ⟨rfl, hb1⟩)
        go_roundw
        case rel => exact ⟨1, by omega, rfl, HBX.out.keep hb1, HB.out.trans (hb1.mono HB.out.size), (by unfold Hid; simp), (show Hid (_ → _) from fun h => by omega)⟩
        case measure => simp [intOf]
      · have t1 : (ea != 0) = true := by simpa using he
        go_wp2_with (go_at_call 38; refine (HCA.out _).mono ?_; rintro e w1 ⟨rfl, hb1⟩)
        go_ret
        exact ⟨HRES.out _ (fun _ => rfl) (fun h => absurd h he), HB.out.trans (hb1.mono HB.out.size)⟩
    · have c1 := HBX.out.cell (j := 1) rfl
      have ha0 := HA.out (by omega)
      by_cases he : eb = 0
      · subst he
        go_wp2_with (go_at_call 38; refine (HCB.out _).mono ?_; rintro e w1 ⟨rfl, hb1⟩)
        go_roundw
        case rel => exact ⟨2, by omega, rfl, HBX.out.keep hb1, HB.out.trans (hb1.mono HB.out.size), (show Hid (_ → _) from fun _ => ha0), (by unfold Hid; simp)⟩
        case measure => simp [intOf]
      · have t1 : (eb != 0) = true := by simpa using he
        go_wp2_with (go_at_call 38; refine (HCB.out _).mono ?_; rintro e w1 ⟨rfl, hb1⟩)
        go_ret
        exact ⟨HRES.out _ (fun h => absurd ha0 h) (fun _ => rfl), HB.out.trans (hb1.mono HB.out.size)⟩
    · have ha0 := HA.out (by omega)
      have hb0 := HE.out (by omega)
      go_wp2_with fail
      go_ret
      exact ⟨HRES.out _ (fun h => absurd ha0 h) (fun _ => hb0.symm), HB.out⟩

theorem product_two (a b : ByteArray) (W : World) (ha : isWord (bts a) = true) (hb : isWord (bts b) = true) (hl : (bts a).length + (bts b).length < 100000000) :
    Calls Try.prog 58 #[.slice (some ⟨W.heap.size, 0, none⟩) 2 2] (W.alloc (.cells #[.string a, .string b] 9)) fun e w' => e = .returned (.string (strB (redW (bts a ++ bts b)))) ∧ Below W.heap.size W w' := by
  have hr : restL [a, b] 0 = bts a ++ bts b := by simp [restL]
  have h1 := product_any (.slice (some ⟨W.heap.size, 0, none⟩) 2 2) [a, b] (W.alloc (.cells #[.string a, .string b] 9)) (Strs.lit W 9 [a, b] (by simp)) (by simp [ha, hb]) (by rw [hr, List.length_append]; exact hl)
  rw [hr] at h1
  refine h1.mono ?_
  rintro e w' ⟨rfl, hb⟩
  exact ⟨rfl, ((Below.refl _ _).alloc (Nat.le_refl _) _).trans (hb.mono (by simp))⟩

/-- append of a string to bytes of the call's own -/
theorem wpList_appStr {w : World} {ops : Array Oper} {rest : List Oper} {o : Oper} {a : Act} {Q : Exit → Act → World → Prop}
    {base : Nat} {v : Value} {bs : List UInt8} (hown : w.ownsRow base 5 1 v bs.length (B8s bs)) (hb : base ≤ w.heap.size) (s : ByteArray) (hl : bs.length + s.size < 1000000000)
    (hgd : o.guard = none) (sl x : Operand) (ho : o.op = .call { callee := .builtin .append, args := #[sl, x], argTypes := #[40, 9] })
    (hs : a.eval sl = v) (hx : a.eval x = .string s)
    (hK : ∀ v' w', w'.ownsRow base 5 1 v' (bs ++ bts s).length (B8s (bs ++ bts s)) → Below base w w' → wpList Try.prog ops Q rest (a.put o.dst v') w') :
    wpList Try.prog ops Q (o :: rest) a w := by
  obtain ⟨i, h2, h3, h4, h5⟩ := info_parts Try.info5
  refine Lib.wpList_append_own_string _ hgd sl x 40 9 ho base 5 i Try.underlying40 Try.underlying9 h2 h3 h4 h5 v bs.length (B8s bs) hs hown s hx (by unfold maxLen; omega) (by omega) hb ?_
  intro v' w' h6 h7 h8
  have hlt := World.ownsRow.lt hown
  refine hK v' w' ?_ ((Below.refl _ _).grown h7 hb fun r hr => (hlt r hr).1)
  have e1 : B8s (bs ++ bts s) = B8s bs ++ Lib.strCells s := by simp [B8s, Lib.strCells]
  rw [e1, List.length_append, bts_len]
  exact h6
theorem own_bytes {w : World} {base : Nat} {v : Value} {bs : List UInt8} (h : w.ownsRow base 5 1 v bs.length (B8s bs)) : OwnB w base v bs := by
  rcases h.2 with ⟨rfl, hz⟩ | ⟨g, cap, cur, rfl, hb, hg, hn, hm, hc, ht⟩
  · exact .inl ⟨rfl, List.eq_nil_of_length_eq_zero hz⟩
  · exact .inr ⟨g, cap, cur, rfl, hb, hg, hn, hm, by omega, by rwa [Nat.mul_one] at ht⟩

set_option maxRecDepth 100000 in
set_option maxHeartbeats 1000000 in
theorem Power_loop (s : ByteArray) (n : Nat) (w : World) (hn : n ≤ 1000000) (hsn : s.size * n ≤ 1000000) (hs : s.size ≤ 1000000) :
    Calls Try.prog 31 #[.string s, .int .i64 n] w fun e w' => e = .returned (.string (strB (Lib.repeatL (bts s) n))) ∧ Below w.heap.size w w' := by
  have hmul : ((s.size : Int) * (n : Int)) = ((s.size * n : Nat) : Int) := by push_cast; rfl
  obtain ⟨C, hC⟩ : ∃ C, s.size * n = C := ⟨_, rfl⟩
  rw [hC] at hmul hsn
  have HC := Lib.hid hC
  have hlen : ∀ k, k ≤ n → (Lib.repeatL (bts s) k).length ≤ C := by
    intro k hk
    rw [repeatL_len, bts_len, ← hC, Nat.mul_comm]
    exact Nat.mul_le_mul_left _ hk
  have HLEN := Lib.hid hlen
  clear hC hlen
  obtain ⟨i, h2, h3, h4, h5⟩ := info_parts Try.info5
  have H2 := Lib.hid h2
  have H3 := Lib.hid h3
  have H4 := Lib.hid h4
  have H5 := Lib.hid h5
  clear h2 h3 h4 h5
  go_enter Try.func31, Try.ntmps31
  go_wp2_with (refine wpList_make_own _ rfl _ _ 40 rfl w.heap.size 5 i (.int .u8 0) 1 Try.underlying40 H2.out H3.out H4.out _ _ _ C rfl rfl rfl (by rw [H5.out]; omega) (by unfold maxLen; omega) (Nat.le_refl _) ?_; intro w1 hown1 hg1)
  have hb1 : Below w.heap.size w w1 := (Below.refl _ _).grown hg1 (Nat.le_refl _) (fun r hr => by cases hr)
  have hown1' : w1.ownsRow w.heap.size 5 1 (.slice (some ⟨w.heap.size, 0, none⟩) 0 C) (Lib.repeatL (bts s) 0).length (B8s (Lib.repeatL (bts s) 0)) := hown1
  have HO := Lib.hid hown1'
  have HB := Lib.hid hb1
  clear hown1 hown1' hb1 hg1
  go_loopw [5, 6] (fun ov iv wr => ∃ k : Nat, k ≤ n ∧ iv = .int .i64 k ∧ Hid (wr.ownsRow w.heap.size 5 1 ov (Lib.repeatL (bts s) k).length (B8s (Lib.repeatL (bts s) k))) ∧ Hid (Below w.heap.size w wr)) (fun _ iv _ => n - (intOf iv).toNat)
  case atStart => exact ⟨0, by omega, rfl, HO, HB⟩
  case round =>
    clear HO HB
    obtain ⟨k, hk, rfl, HO, HB⟩ := hrel
    by_cases hlt : k < n
    · have hsz := HB.out.size
      have hl9 : (Lib.repeatL (bts s) k).length + s.size < 1000000000 := by have := HLEN.out k hk; omega
      go_wp2_with (at_builtin; refine wpList_appStr HO.out hsz s hl9 rfl _ _ rfl rfl rfl ?_; intro v2 w2 hown2 hb2)
      rw [← repeatL_succ'] at hown2
      go_roundw
      case rel => exact ⟨k + 1, by omega, by go_num, hown2, HB.out.trans hb2⟩
      case measure => simp [intOf]; omega
    · obtain rfl : k = n := by omega
      have hob := own_bytes HO.out
      have hcv := conv_own hob
      obtain ⟨a, c, rfl, _, _⟩ := hob.shape rfl
      go_wp2_with fail
      go_ret
      exact ⟨rfl, HB.out⟩
end Go.Proofs.Ytjdmmgaddbleeaa

/- The reference's Power with a number below zero, Same, and Root: the walks. -/
namespace Go.Proofs.Ytjdmmgaddbleeaa
open Go.RowKit

set_option maxRecDepth 100000 in
set_option maxHeartbeats 1000000 in
theorem Power_neg (s0 : ByteArray) (n : Nat) (w : World) (h0 : 0 < n) (hw : isWord (bts s0) = true) (hn : n ≤ 1000000) (hsn0 : s0.size * n ≤ 1000000) (hs0 : s0.size ≤ 1000000) :
    Calls Try.prog 31 #[.string s0, .int .i64 (-(n : Int))] w fun e w' => e = .returned (.string (strB (Lib.repeatL (invL (bts s0)) n))) ∧ Below w.heap.size w w' := by
  have hin := fun W => rInverse_any s0 W hw (by omega)
  obtain ⟨s, hS⟩ : ∃ s, s = strB (invL (bts s0)) := ⟨_, rfl⟩
  have hsb : bts s = invL (bts s0) := by rw [hS]
  have hss : s.size = s0.size := by rw [← bts_len, hsb, invL_len, bts_len]
  rw [← hS] at hin
  rw [← hsb]
  have hs : s.size ≤ 1000000 := by omega
  have hsn : s.size * n ≤ 1000000 := by rw [hss]; exact hsn0
  have HIN := Lib.hid hin
  clear hin hS hsb hss hsn0 hs0 hw
  have hmul : ((s.size : Int) * (n : Int)) = ((s.size * n : Nat) : Int) := by push_cast; rfl
  obtain ⟨C, hC⟩ : ∃ C, s.size * n = C := ⟨_, rfl⟩
  rw [hC] at hmul hsn
  have HC := Lib.hid hC
  have hlen : ∀ k, k ≤ n → (Lib.repeatL (bts s) k).length ≤ C := by
    intro k hk
    rw [repeatL_len, bts_len, ← hC, Nat.mul_comm]
    exact Nat.mul_le_mul_left _ hk
  have HLEN := Lib.hid hlen
  clear hC hlen
  obtain ⟨i, h2, h3, h4, h5⟩ := info_parts Try.info5
  have H2 := Lib.hid h2
  have H3 := Lib.hid h3
  have H4 := Lib.hid h4
  have H5 := Lib.hid h5
  clear h2 h3 h4 h5
  go_enter Try.func31, Try.ntmps31
  go_wp2_with (first
    | (go_at_call 27; refine (HIN.out _).mono ?_; rintro e w0 ⟨rfl, hb0⟩)
    | (refine wpList_make_own _ rfl _ _ 40 rfl w.heap.size 5 i (.int .u8 0) 1 Try.underlying40 H2.out H3.out H4.out _ _ _ C rfl rfl rfl (by rw [H5.out]; omega) (by unfold maxLen; omega) hb0.size ?_; intro w1 hown1 hg1))
  have hz0 := hb0.size
  have hb1 : Below w.heap.size w w1 := hb0.grown hg1 hz0 (fun r hr => by cases hr)
  have hown1' : w1.ownsRow w.heap.size 5 1 (.slice (some ⟨w0.heap.size, 0, none⟩) 0 C) (Lib.repeatL (bts s) 0).length (B8s (Lib.repeatL (bts s) 0)) := hown1
  have HO := Lib.hid hown1'
  have HB := Lib.hid hb1
  clear hown1 hown1' hb1 hg1
  go_loopw [5, 6] (fun ov iv wr => ∃ k : Nat, k ≤ n ∧ iv = .int .i64 k ∧ Hid (wr.ownsRow w.heap.size 5 1 ov (Lib.repeatL (bts s) k).length (B8s (Lib.repeatL (bts s) k))) ∧ Hid (Below w.heap.size w wr)) (fun _ iv _ => n - (intOf iv).toNat)
  case atStart => exact ⟨0, by omega, rfl, HO, HB⟩
  case round =>
    clear HO HB
    obtain ⟨k, hk, rfl, HO, HB⟩ := hrel
    by_cases hlt : k < n
    · have hsz := HB.out.size
      have hl9 : (Lib.repeatL (bts s) k).length + s.size < 1000000000 := by have := HLEN.out k hk; omega
      go_wp2_with (at_builtin; refine wpList_appStr HO.out hsz s hl9 rfl _ _ rfl rfl rfl ?_; intro v2 w2 hown2 hb2)
      rw [← repeatL_succ'] at hown2
      go_roundw
      case rel => exact ⟨k + 1, by omega, by go_num, hown2, HB.out.trans hb2⟩
      case measure => simp [intOf]; omega
    · obtain rfl : k = n := by omega
      have hob := own_bytes HO.out
      have hcv := conv_own hob
      obtain ⟨a, c, rfl, _, _⟩ := hob.shape rfl
      go_wp2_with fail
      go_ret
      exact ⟨rfl, HB.out⟩

set_option maxRecDepth 100000 in
set_option maxHeartbeats 1000000 in
theorem rSame_any (a b : ByteArray) (w : World) (ha : isWord (bts a) = true) (hb : isWord (bts b) = true) (hla : a.size < 100000000) (hlb : b.size < 100000000) :
    Calls Try.prog 32 #[.string a, .string b] w fun e w' => e = .returned (.bool (decide (redW (bts a) = redW (bts b)))) ∧ Below w.heap.size w w' := by
  have hra := fun W => rReduce_any a W ha hla
  have hrb := fun W => rReduce_any b W hb hlb
  have heq : ((strB (redW (bts a))).toList == (strB (redW (bts b))).toList) = decide (redW (bts a) = redW (bts b)) := by
    rw [ByteArray.toList_eq, ByteArray.toList_eq, Bool.eq_iff_iff]
    simp
  generalize decide (redW (bts a) = redW (bts b)) = d at *
  generalize strB (redW (bts a)) = A at *
  generalize strB (redW (bts b)) = B at *
  have HRA := Lib.hid hra
  have HRB := Lib.hid hrb
  clear hra hrb
  go_enter Try.func32, Try.ntmps32
  go_wp2_with (first
    | (go_at_call 26; ((with_reducible refine (HRA.out _).mono ?_); rintro e w1 ⟨rfl, hb1⟩))
    | (go_at_call 26; ((with_reducible refine (HRB.out _).mono ?_); rintro e w2 ⟨rfl, hb2⟩)))
  go_ret
  exact ⟨rfl, hb1.trans (hb2.mono hb1.size)⟩
end Go.Proofs.Ytjdmmgaddbleeaa

/- The reference's Root: the plain law and the walk. -/
namespace Go.Proofs.Ytjdmmgaddbleeaa
open Go.RowKit

theorem tail_inv {l : List UInt8} {c : Nat} (h1 : 2 * c ≤ l.length) (h2 : ∀ i, i < c → l[i]? = (l[l.length - 1 - i]?).map invB) : l.drop (l.length - c) = invL (l.take c) := by
  apply List.ext_getElem?
  intro j
  rw [List.getElem?_drop]
  unfold invL
  by_cases hj : j < c
  · rw [List.getElem?_reverse (by rw [List.length_map, List.length_take]; omega), List.length_map, List.length_take, List.getElem?_map, Nat.min_eq_left (by omega), List.getElem?_take_of_lt (by omega)]
    have h3 := h2 (c - 1 - j) (by omega)
    rw [show l.length - 1 - (c - 1 - j) = l.length - c + j by omega] at h3
    rw [h3, List.getElem?_eq_getElem (by omega)]
    simp [inv_inv]
  · rw [List.getElem?_eq_none (by omega), List.getElem?_eq_none (by simp; omega)]
theorem split_core (l : List UInt8) : l = byL l ++ midL l ++ invL (byL l) := by
  obtain ⟨h1, h2, _⟩ := coreN_ok l
  have e3 := tail_inv h1 h2
  rw [List.append_assoc]
  unfold byL midL
  rw [← e3]
  have e2 : (l.drop (coreN l)).drop (l.length - 2 * coreN l) = l.drop (l.length - coreN l) := by
    rw [List.drop_drop]; congr 1; omega
  rw [← e2, List.take_append_drop, List.take_append_drop]
theorem mid_per {l : List UInt8} (h : Rd l) (h0 : l ≠ []) : 0 < perL l ∧ perL l ≤ (midL l).length ∧ (midL l).length % perL l = 0 ∧ Lib.repeatL ((midL l).take (perL l)) (rootN l) = midL l ∧ 0 < rootN l := by
  have hm : 0 < (midL l).length := by have := coreN_lt h h0; rw [mid_len]; omega
  obtain ⟨h1, h2, h3, _⟩ := perD_le (m := midL l) ((midL l).length - 1) 1 (by omega) (by omega)
  have e : perD (midL l) ((midL l).length - 1) 1 = perL l := rfl
  rw [e] at h1 h2 h3
  unfold isPer at h3
  rw [Bool.and_eq_true, decide_eq_true_iff, decide_eq_true_iff] at h3
  refine ⟨h1, h2, h3.1, h3.2, ?_⟩
  unfold rootN
  exact Nat.div_pos h2 h1
/-- the root stands reduced -/
theorem root_rd {l : List UInt8} (h : Rd l) (h0 : l ≠ []) : Rd (byL l ++ (midL l).take (perL l) ++ invL (byL l)) := by
  obtain ⟨h1, h2, h3, h4, h5⟩ := mid_per h h0
  have hsp := split_core l
  generalize byL l = B at *
  generalize hP : (midL l).take (perL l) = P at *
  have hPne : P ≠ [] := by
    intro e
    have := congrArg List.length hP
    rw [e, List.length_take, List.length_nil] at this
    omega
  obtain ⟨n, hn⟩ : ∃ n, rootN l = n + 1 := ⟨rootN l - 1, by omega⟩
  rw [hn] at h4
  have e1 : Rd (B ++ P) := by
    have hl := h
    rw [hsp, ← h4, show Lib.repeatL P (n + 1) = P ++ Lib.repeatL P n from rfl] at hl
    rw [show B ++ (P ++ Lib.repeatL P n) ++ invL B = (B ++ P) ++ (Lib.repeatL P n ++ invL B) by simp] at hl
    exact hl.app_left
  have e2 : Rd (P ++ invL B) := by
    have hl := h
    rw [hsp, ← h4, repeatL_succ'] at hl
    rw [show B ++ (Lib.repeatL P n ++ P) ++ invL B = (B ++ Lib.repeatL P n) ++ (P ++ invL B) by simp] at hl
    exact hl.app_right
  exact Rd.app_mid hPne e2 e1
theorem rootW_eq {l : List UInt8} (h : Rd l) (h0 : l ≠ []) : rootW l = byL l ++ (midL l).take (perL l) ++ invL (byL l) := redW_self (root_rd h h0)

theorem keepB {w2 W W' : World} (h2 : Below w2.heap.size w2 W) (hb : Below W.heap.size W W') : Below w2.heap.size w2 W' := h2.trans (hb.mono h2.size)

set_option maxRecDepth 100000 in
set_option maxHeartbeats 2000000 in
theorem rRoot_any (s : ByteArray) (w : World) (hs : s.size ≤ 1000) (hw : isWord (bts s) = true) (h0 : redW (bts s) ≠ []) :
    Calls Try.prog 28 #[.string s] w fun e w' => e = .returned (.tuple #[.string (strB (rootW (redW (bts s)))), .int .i64 (rootN (redW (bts s)))]) ∧ Below w.heap.size w w' := by
  have hrd := fun W => rReduce_any s W hw (by omega)
  have hLw := redW_word hw
  have hLr := redW_rd (bts s)
  have hLl := redW_len (bts s)
  rw [bts_len] at hLl
  generalize redW (bts s) = L at *
  have hco := fun W => core_any (strB L) W hLw (by rw [size_str]; omega)
  have hby : bts ((strB L).extract 0 (coreN L)) = byL L := bts_by (strB L)
  have hmid : bts ((strB L).extract (coreN L) ((strB L).size - coreN L)) = midL L := bts_mid (strB L)
  have hrw := rootW_eq hLr h0
  have hm : 0 < (midL L).length := by have := coreN_lt hLr h0; rw [mid_len]; omega
  simp only [bts_str] at hco
  generalize (strB L).extract 0 (coreN L) = A at *
  generalize (strB L).extract (coreN L) ((strB L).size - coreN L) = C at *
  have hcs : C.size = (midL L).length := by rw [← hmid, bts_len]
  have hsA : A.size ≤ 1000 := by rw [← bts_len, hby]; unfold byL; rw [List.length_take]; omega
  have hsC : C.size ≤ 1000 := by rw [hcs, mid_len]; omega
  have hwA : isWord (bts A) = true := isWord_sub hLw fun c hc => by rw [hby] at hc; exact List.mem_of_mem_take hc
  have hinv := fun W => rInverse_any A W hwA (by omega)
  have hcpos : 0 < C.size := by omega
  rw [hby] at hinv
  have HRD := Lib.hid hrd
  have HCO := Lib.hid hco
  have HBY := Lib.hid hby
  have HMID := Lib.hid hmid
  have HCS := Lib.hid hcs
  have HRW := Lib.hid hrw
  have HINV := Lib.hid hinv
  clear hrd hco hby hmid hcs hrw hinv hwA hLw hLr hLl hm h0 hw
  go_enter Try.func28, Try.ntmps28
  go_wp2_with (first
    | (go_at_call 26; refine (HRD.out _).mono ?_; rintro e w1 ⟨rfl, hb1⟩)
    | (go_at_call 63; refine (HCO.out _).mono ?_))
  rintro e w2 ⟨rfl, q, rfl⟩
  have hb2 := hb1.drewN' q
  have HB2 := Lib.hid hb2
  clear hb1 hb2
  generalize w1.drewN q = wz at *
  go_wp2_with fail
  go_loopw [6] (fun dv wx => ∃ d : Nat, 1 ≤ d ∧ d ≤ C.size ∧ dv = .int .i64 d ∧ Hid (Below w.heap.size w wx) ∧ Hid (perD (midL L) (C.size - d) d = perL L)) (fun dv _ => C.size - (intOf dv).toNat)
  case atStart => exact ⟨1, by omega, by omega, rfl, HB2, by show _ = _; rw [HCS.out]; rfl⟩
  case round =>
    clear HB2
    obtain ⟨d, hd1, hd2, rfl, HBB, HP⟩ := hrel
    obtain ⟨w2, rfl⟩ : ∃ w2, w2 = wr := ⟨_, rfl⟩
    have hrem : ((C.size % d : Nat) : Int) = (C.size : Int) % (d : Int) := by push_cast; rfl
    have hquo : ((C.size / d : Nat) : Int) = (C.size : Int) / (d : Int) := by push_cast; rfl
    have hdn : d ≠ 0 := by omega
    have hq2 : IntKind.i64.wrap ((C.size : Int) / (d : Int)) = (C.size : Int) / (d : Int) := by
      have := Nat.div_le_self C.size d
      rw [← hquo, IntKind.wrap_i64]
      generalize C.size / d = q at *
      clear hquo
      omega
    by_cases h0 : C.size % d = 0
    · have hext : bts (C.extract 0 d) = (midL L).take d := by rw [← HMID.out]; simp [bts, ByteArray.data_extract]
      have hxs : (C.extract 0 d).size = d := by rw [ByteArray.size_extract]; omega
      have hpw := fun W => Power_loop (C.extract 0 d) (C.size / d) W (by have := Nat.div_le_self C.size d; omega) (by
        rw [hxs, Nat.mul_comm]
        have := Nat.div_mul_le_self C.size d
        omega) (by omega)
      rw [hext, hquo] at hpw
      have hq0 : Int.tmod (C.size : Int) (d : Int) = 0 := by show ((C.size % d : Nat) : Int) = 0; rw [h0]; rfl
      have hq1 : Int.tdiv (C.size : Int) (d : Int) = (C.size : Int) / (d : Int) := by rw [← hquo]; rfl
      by_cases hpe : Lib.repeatL ((midL L).take d) (C.size / d) = midL L
      · have hper : isPer (midL L) d = true := by unfold isPer; rw [← HCS.out, decide_eq_true h0, decide_eq_true hpe]; rfl
        have hfin : perL L = d := by rw [← HP.out, perD_stop hper]
        have heq : strB (Lib.repeatL ((midL L).take d) (C.size / d)) = C := by
          apply str_eq
          rw [bts_str, hpe, HMID.out]
        rw [heq] at hpw
        have hrn : ((rootN L : Nat) : Int) = (C.size : Int) / (d : Int) := by unfold rootN; rw [hfin, ← HCS.out, hquo]
        have hcat : A ++ C.extract 0 d ++ strB (invL (byL L)) = strB (rootW L) := by
          apply str_eq
          rw [bts_add, bts_add, hext, HBY.out, HRW.out, hfin]
        have hTs : (strB (invL (byL L))).size ≤ 1000 := by rw [size_str, invL_len, ← HBY.out, bts_len]; exact hsA
        generalize strB (invL (byL L)) = T at *
        have hn1 : ¬ 9223372036854775807 < A.size + d := by omega
        have hn2 : ¬ 9223372036854775807 < A.size + d + T.size := by omega
        have HPW := Lib.hid hpw
        have HRN := Lib.hid hrn
        have HCAT := Lib.hid hcat
        have HXS := Lib.hid hxs
        have hrefl : Below w2.heap.size w2 w2 := Below.refl _ _
        clear hpw hrn hcat hper hfin heq hpe hext h0 hrem hquo
        go_wp2_with fail
        go_region_held3 (fun w' => Below w2.heap.size w2 w') (first | assumption | (refine Below.drew ?_; assumption) | exact keepB (by assumption) hb') (first | (go_at_call 31; ((with_reducible refine (HPW.out _).mono ?_); rintro e w' ⟨rfl, hb'⟩)))
        have hbz := Lib.hid (p := Below w2.heap.size w2 w') (by assumption)
        go_wp2_with fail
        obtain ⟨w3, rfl⟩ : ∃ w3, w3 = w' := ⟨_, rfl⟩
        have HB3 := Lib.hid (HBB.out.trans (hbz.out.mono HBB.out.size))
        have hrefl3 : Below w3.heap.size w3 w3 := Below.refl _ _
        clear hbz HBB hrefl
        go_region_held3 (fun w' => Below w3.heap.size w3 w') (first | assumption | (refine Below.drew ?_; assumption) | exact keepB (by assumption) hb') (first | (go_at_call 27; ((with_reducible refine (HINV.out _).mono ?_); rintro e w' ⟨rfl, hb'⟩)))
        have hbz := Lib.hid (p := Below w3.heap.size w3 w') (by assumption)
        go_wp2_with fail
        go_ret2
        exact ⟨by rw [HRN.out, ← HCAT.out]; rfl, HB3.out.trans (hbz.out.mono HB3.out.size)⟩
      · have hper : isPer (midL L) d = false := by unfold isPer; rw [← HCS.out, decide_eq_true h0, decide_eq_false hpe]; rfl
        have hlt : d < C.size := by
          rcases Nat.lt_or_ge d C.size with h | h
          · exact h
          · have : d = C.size := by omega
            rw [this, HCS.out, isPer_all (by rw [← HCS.out]; exact hcpos)] at hper
            cases hper
        have hgo : perD (midL L) (C.size - (d + 1)) (d + 1) = perL L := by
          rw [← HP.out, show C.size - d = (C.size - (d + 1)) + 1 by omega, perD_go hper]
        have hne : (C.toList == (strB (Lib.repeatL ((midL L).take d) (C.size / d))).toList) = false := by
          simp only [beq_eq_false_iff_ne]
          rw [ByteArray.toList_eq, ByteArray.toList_eq]
          intro h
          apply hpe
          exact (HMID.out.symm.trans h).symm
        have HGO := Lib.hid hgo
        generalize strB (Lib.repeatL ((midL L).take d) (C.size / d)) = R at *
        have HPW := Lib.hid hpw
        clear hrem hquo
        clear hgo hper h0 hpw hext hpe
        have hrefl : Below w2.heap.size w2 w2 := Below.refl _ _
        go_wp2_with fail
        go_region_held3 (fun w' => Below w2.heap.size w2 w') (first | assumption | (refine Below.drew ?_; assumption) | exact keepB (by assumption) hb') (first | (go_at_call 31; ((with_reducible refine (HPW.out _).mono ?_); rintro e w' ⟨rfl, hb'⟩)))
        have hbz := Lib.hid (p := Below w2.heap.size w2 w') (by assumption)
        go_wp2_with fail
        go_roundw
        case rel => exact ⟨d + 1, by omega, by omega, by go_num, HBB.out.trans (hbz.out.mono HBB.out.size), HGO⟩
        case measure => simp [intOf]; omega
    · have hper : isPer (midL L) d = false := by unfold isPer; rw [← HCS.out, decide_eq_false h0]; rfl
      have hlt : d < C.size := by
        rcases Nat.lt_or_ge d C.size with h | h
        · exact h
        · have : d = C.size := by omega
          subst this; rw [Nat.mod_self] at h0; exact absurd rfl h0
      have hgo : perD (midL L) (C.size - (d + 1)) (d + 1) = perL L := by
        rw [← HP.out, show C.size - d = (C.size - (d + 1)) + 1 by omega, perD_go hper]
      have HGO := Lib.hid hgo
      have t0 : (((C.size : Int) % (d : Int)) == 0) = false := by rw [← hrem]; simp; omega
      clear hrem hquo
      clear hgo hper h0
      go_wp2_with fail
      go_quiet (fail)
      go_wp2_with fail
      go_roundw
      case rel => exact ⟨d + 1, by omega, by omega, by go_num, HBB.out.drewN' nq, HGO⟩
      case measure => simp [intOf]; omega
end Go.Proofs.Ytjdmmgaddbleeaa

/- Commute: the reference's and the program's walk. -/
namespace Go.Proofs.Ytjdmmgaddbleeaa
open Go.RowKit

theorem results_tmp4 {fn : Func} {t u v x : Tmp} (h : fn.results = #[.tmp t, .tmp u, .tmp v, .tmp x]) (tmps : Array Value) (P : Program) (w : World) :
    (results fn tmps).run P w = .ok (.tuple #[tmps.getD t undef, tmps.getD u undef, tmps.getD v undef, tmps.getD x undef]) w := by
  simp [results, h]
theorem results_tmp5 {fn : Func} {t u v x y : Tmp} (h : fn.results = #[.tmp t, .tmp u, .tmp v, .tmp x, .tmp y]) (tmps : Array Value) (P : Program) (w : World) :
    (results fn tmps).run P w = .ok (.tuple #[tmps.getD t undef, tmps.getD u undef, tmps.getD v undef, tmps.getD x undef, tmps.getD y undef]) w := by
  simp [results, h]

/-- what Commute answers for two reduced words -/
def commR (u v : List UInt8) : List UInt8 × Int × Int × Bool :=
  if u = [] ∧ v = [] then ([], 0, 0, true)
  else if redW (u ++ v) ≠ redW (v ++ u) then ([], 0, 0, false)
  else if u = [] then (rootW v, 0, rootN v, true)
  else if v = [] then (rootW u, rootN u, 0, true)
  else (rootW u, rootN u, if rootW v = rootW u then (rootN v : Int) else -(rootN v : Int), true)
def tup4 (r : List UInt8 × Int × Int × Bool) : Value := .tuple #[.string (strB r.1), .int .i64 r.2.1, .int .i64 r.2.2.1, .bool r.2.2.2]
def tup5 (r : List UInt8 × Int × Int × Bool) : Value := .tuple #[.string (strB r.1), .int .i64 r.2.1, .int .i64 r.2.2.1, .bool r.2.2.2, .int .i64 0]
theorem str_ne {l : List UInt8} (h : l ≠ []) : ((strB l).toList == []) = false ∧ (strB l).toList.isEmpty = false := by
  have e : (strB l).toList = l := by rw [ByteArray.toList_eq]
  rw [e]
  cases l with
  | nil => exact absurd rfl h
  | cons a l => exact ⟨rfl, rfl⟩
theorem str_beq (a b : List UInt8) : ((strB a).toList == (strB b).toList) = decide (a = b) := by
  rw [ByteArray.toList_eq, ByteArray.toList_eq, Bool.eq_iff_iff]
  simp
theorem rootN_le {l : List UInt8} (h : l.length ≤ 1000) : rootN l ≤ 1000 := by
  unfold rootN
  have h1 := Nat.div_le_self (midL l).length (perL l)
  have h2 := mid_len l
  omega

set_option maxRecDepth 100000 in
set_option maxHeartbeats 2000000 in
theorem rCommute_any (a b : ByteArray) (w : World) (ha : isWord (bts a) = true) (hb : isWord (bts b) = true) (hla : a.size ≤ 500) (hlb : b.size ≤ 500) :
    Calls Try.prog 30 #[.string a, .string b] w fun e w' => e = .returned (tup4 (commR (redW (bts a)) (redW (bts b)))) ∧ Below w.heap.size w w' := by
  have hra := fun W => rReduce_any a W ha (by omega)
  have hrb := fun W => rReduce_any b W hb (by omega)
  have hwu := redW_word ha
  have hwv := redW_word hb
  have hlu := redW_len (bts a)
  have hlv := redW_len (bts b)
  rw [bts_len] at hlu hlv
  have hidu := redW_idem (bts a)
  have hidv := redW_idem (bts b)
  generalize redW (bts a) = u at *
  generalize redW (bts b) = v at *
  have hsm := fun W => rSame_any (strB u ++ strB v) (strB v ++ strB u) W (by rw [bts_add]; exact isWord_app hwu hwv) (by rw [bts_add]; exact isWord_app hwv hwu) (by rw [ByteArray.size_append, size_str, size_str]; omega) (by rw [ByteArray.size_append, size_str, size_str]; omega)
  simp only [bts_add, bts_str] at hsm
  have hru : u ≠ [] → ∀ W, Calls Try.prog 28 #[.string (strB u)] W fun e w' => e = .returned (.tuple #[.string (strB (rootW u)), .int .i64 (rootN u)]) ∧ Below W.heap.size W w' := by
    intro h W
    have := rRoot_any (strB u) W (by rw [size_str]; omega) hwu (by rw [bts_str, hidu]; exact h)
    rwa [bts_str, hidu] at this
  have hrv : v ≠ [] → ∀ W, Calls Try.prog 28 #[.string (strB v)] W fun e w' => e = .returned (.tuple #[.string (strB (rootW v)), .int .i64 (rootN v)]) ∧ Below W.heap.size W w' := by
    intro h W
    have := rRoot_any (strB v) W (by rw [size_str]; omega) hwv (by rw [bts_str, hidv]; exact h)
    rwa [bts_str, hidv] at this
  have n1 : ¬ 9223372036854775807 < (strB u).size + (strB v).size := by rw [size_str, size_str]; omega
  have n2 : ¬ 9223372036854775807 < (strB v).size + (strB u).size := by rw [size_str, size_str]; omega
  have hkn := rootN_le (l := v) (by omega)
  have HRA := Lib.hid hra
  have HRB := Lib.hid hrb
  have HRU := Lib.hid hru
  have HRV := Lib.hid hrv
  clear hra hrb hru hrv hwu hwv hlu hlv
  by_cases hu : u = []
  · by_cases hv : v = []
    · subst hu hv
      have hc : commR [] [] = ([], 0, 0, true) := rfl
      rw [hc]
      clear hsm
      go_enter Try.func30, Try.ntmps30
      go_wp2_with (first
        | (go_at_call 26; ((with_reducible refine (HRA.out _).mono ?_); rintro e w1 ⟨rfl, hb1⟩))
        | (go_at_call 26; ((with_reducible refine (HRB.out _).mono ?_); rintro e w2 ⟨rfl, hb2⟩)))
      ((try simp only [Exit.inBlock, Exit.then]); refine bodyPost_ret (results_tmp4 rfl _ _ _) rfl ?_)
      exact ⟨rfl, hb1.trans (hb2.mono hb1.size)⟩
    · have hc : commR u v = (rootW v, 0, (rootN v : Int), true) := by
        unfold commR
        rw [if_neg (fun h => hv h.2), if_neg (by rw [hu]; simp), if_pos hu]
      rw [hc]
      subst hu
      have hvr := HRV.out hv
      obtain ⟨hv1, hv2⟩ := str_ne hv
      rw [show redW ([] ++ v) = redW (v ++ []) by simp, decide_eq_true rfl] at hsm
      generalize strB v = V at *
      have HV := Lib.hid hvr
      have HSM := Lib.hid hsm
      clear hsm hvr HRU HRV hidu hidv
      go_enter Try.func30, Try.ntmps30
      go_wp2_with (first
        | (go_at_call 26; ((with_reducible refine (HRA.out _).mono ?_); rintro e w1 ⟨rfl, hb1⟩))
        | (go_at_call 26; ((with_reducible refine (HRB.out _).mono ?_); rintro e w2 ⟨rfl, hb2⟩))
        | (go_at_call 32; refine (HSM.out _).mono ?_; rintro e w3 ⟨rfl, hb3⟩)
        | (go_at_call 28; ((with_reducible refine (HV.out _).mono ?_); rintro e w5 ⟨rfl, hb5⟩)))
      ((try simp only [Exit.inBlock, Exit.then]); refine bodyPost_ret (results_tmp4 rfl _ _ _) rfl ?_)
      have h1 := hb1.trans (hb2.mono hb1.size)
      have h2 := h1.trans (hb3.mono h1.size)
      exact ⟨rfl, h2.trans (hb5.mono h2.size)⟩
  · obtain ⟨hu1, hu2⟩ := str_ne hu
    by_cases hcm : redW (u ++ v) = redW (v ++ u)
    · rw [decide_eq_true hcm] at hsm
      have hur := HRU.out hu
      by_cases hv : v = []
      · have hc : commR u v = (rootW u, (rootN u : Int), 0, true) := by
          unfold commR
          rw [if_neg (fun h => hu h.1), if_neg (by rw [hv]; simp), if_neg hu, if_pos hv]
        rw [hc]
        subst hv
        generalize strB u = U at *
        have HU := Lib.hid hur
        have HSM := Lib.hid hsm
        clear hsm hur HRU HRV hidu hidv hcm
        go_enter Try.func30, Try.ntmps30
        go_wp2_with (first
          | (go_at_call 26; ((with_reducible refine (HRA.out _).mono ?_); rintro e w1 ⟨rfl, hb1⟩))
          | (go_at_call 26; ((with_reducible refine (HRB.out _).mono ?_); rintro e w2 ⟨rfl, hb2⟩))
          | (go_at_call 32; refine (HSM.out _).mono ?_; rintro e w3 ⟨rfl, hb3⟩)
          | (go_at_call 28; ((with_reducible refine (HU.out _).mono ?_); rintro e w5 ⟨rfl, hb5⟩)))
        ((try simp only [Exit.inBlock, Exit.then]); refine bodyPost_ret (results_tmp4 rfl _ _ _) rfl ?_)
        have h1 := hb1.trans (hb2.mono hb1.size)
        have h2 := h1.trans (hb3.mono h1.size)
        exact ⟨rfl, h2.trans (hb5.mono h2.size)⟩
      · have hvr := HRV.out hv
        obtain ⟨hv1, hv2⟩ := str_ne hv
        by_cases hrr : rootW v = rootW u
        · have hc : commR u v = (rootW u, (rootN u : Int), (rootN v : Int), true) := by
            unfold commR
            rw [if_neg (fun h => hu h.1), if_neg (fun h => h hcm), if_neg hu, if_neg hv, if_pos hrr]
          rw [hc]
          rw [hrr] at hvr
          generalize strB u = U at *
          generalize strB v = V at *
          have HU := Lib.hid hur
          have HV := Lib.hid hvr
          have HSM := Lib.hid hsm
          clear hsm hur hvr HRU HRV hidu hidv hcm hrr
          go_enter Try.func30, Try.ntmps30
          go_wp2_with (first
            | (go_at_call 26; ((with_reducible refine (HRA.out _).mono ?_); rintro e w1 ⟨rfl, hb1⟩))
            | (go_at_call 26; ((with_reducible refine (HRB.out _).mono ?_); rintro e w2 ⟨rfl, hb2⟩))
            | (go_at_call 32; refine (HSM.out _).mono ?_; rintro e w3 ⟨rfl, hb3⟩)
            | (go_at_call 28; ((with_reducible refine (HU.out _).mono ?_); rintro e w4 ⟨rfl, hb4⟩))
            | (go_at_call 28; ((with_reducible refine (HV.out _).mono ?_); rintro e w5 ⟨rfl, hb5⟩)))
          ((try simp only [Exit.inBlock, Exit.then]); refine bodyPost_ret (results_tmp4 rfl _ _ _) rfl ?_)
          have h1 := hb1.trans (hb2.mono hb1.size)
          have h2 := h1.trans (hb3.mono h1.size)
          have h3 := h2.trans (hb4.mono h2.size)
          exact ⟨rfl, h3.trans (hb5.mono h3.size)⟩
        · have hc : commR u v = (rootW u, (rootN u : Int), -(rootN v : Int), true) := by
            unfold commR
            rw [if_neg (fun h => hu h.1), if_neg (fun h => h hcm), if_neg hu, if_neg hv, if_neg hrr]
          rw [hc]
          have hbq2 : (rootW v == rootW u) = false := by simpa using hrr
          generalize strB u = U at *
          generalize strB v = V at *
          have HU := Lib.hid hur
          have HV := Lib.hid hvr
          have HSM := Lib.hid hsm
          clear hsm hur hvr HRU HRV hidu hidv hcm hrr
          go_enter Try.func30, Try.ntmps30
          go_wp2_with (first
            | (go_at_call 26; ((with_reducible refine (HRA.out _).mono ?_); rintro e w1 ⟨rfl, hb1⟩))
            | (go_at_call 26; ((with_reducible refine (HRB.out _).mono ?_); rintro e w2 ⟨rfl, hb2⟩))
            | (go_at_call 32; refine (HSM.out _).mono ?_; rintro e w3 ⟨rfl, hb3⟩)
            | (go_at_call 28; ((with_reducible refine (HU.out _).mono ?_); rintro e w4 ⟨rfl, hb4⟩))
            | (go_at_call 28; ((with_reducible refine (HV.out _).mono ?_); rintro e w5 ⟨rfl, hb5⟩)))
          ((try simp only [Exit.inBlock, Exit.then]); refine bodyPost_ret (results_tmp4 rfl _ _ _) rfl ?_)
          have h1 := hb1.trans (hb2.mono hb1.size)
          have h2 := h1.trans (hb3.mono h1.size)
          have h3 := h2.trans (hb4.mono h2.size)
          exact ⟨rfl, h3.trans (hb5.mono h3.size)⟩
    · rw [decide_eq_false hcm] at hsm
      have hc : commR u v = ([], 0, 0, false) := by
        unfold commR
        rw [if_neg (fun h => hu h.1), if_pos hcm]
      rw [hc]
      generalize strB u = U at *
      generalize strB v = V at *
      have HSM := Lib.hid hsm
      clear hsm HRU HRV hidu hidv hcm
      go_enter Try.func30, Try.ntmps30
      go_wp2_with (first
        | (go_at_call 26; ((with_reducible refine (HRA.out _).mono ?_); rintro e w1 ⟨rfl, hb1⟩))
        | (go_at_call 26; ((with_reducible refine (HRB.out _).mono ?_); rintro e w2 ⟨rfl, hb2⟩))
        | (go_at_call 32; refine (HSM.out _).mono ?_; rintro e w3 ⟨rfl, hb3⟩))
      ((try simp only [Exit.inBlock, Exit.then]); refine bodyPost_ret (results_tmp4 rfl _ _ _) rfl ?_)
      have h1 := hb1.trans (hb2.mono hb1.size)
      exact ⟨rfl, h1.trans (hb3.mono h1.size)⟩
end Go.Proofs.Ytjdmmgaddbleeaa

/- Commute: the program's walk. -/
namespace Go.Proofs.Ytjdmmgaddbleeaa
open Go.RowKit

set_option maxRecDepth 100000 in
set_option maxHeartbeats 2000000 in
theorem Commute_bad (a b : ByteArray) (w : World) (ha : a.size ≤ 9223372036854775807) (hb : b.size ≤ 9223372036854775807) (he : errTwo a b ≠ 0) :
    Calls Try.prog 29 #[.string a, .string b] w fun e w' => e = .returned (.tuple #[.string ⟨#[]⟩, .int .i64 0, .int .i64 0, .bool false, .int .i64 (errTwo a b)]) ∧ Below w.heap.size w w' := by
  have hck := fun W => checkAll_any a b W ha hb
  have t1 : (errTwo a b != 0) = true := by simpa using he
  generalize errTwo a b = E at *
  have HCK := Lib.hid hck
  clear hck he
  go_enter Try.func29, Try.ntmps29
  go_wp2_with (go_at_call 64; refine (HCK.out _).mono ?_; rintro e w0 ⟨rfl, hb0⟩)
  ((try simp only [Exit.inBlock, Exit.then]); refine bodyPost_ret (results_tmp5 rfl _ _ _) rfl ?_)
  exact ⟨rfl, hb0⟩

set_option maxRecDepth 100000 in
set_option maxHeartbeats 4000000 in
theorem Commute_any (a b : ByteArray) (w : World) (ha : wordErr a = 0) (hb : wordErr b = 0) (hla : a.size ≤ 500) (hlb : b.size ≤ 500) :
    Calls Try.prog 29 #[.string a, .string b] w fun e w' => e = .returned (tup5 (commR (redW (bts a)) (redW (bts b)))) ∧ Below w.heap.size w w' := by
  obtain ⟨hwa, _⟩ := word_size ha
  obtain ⟨hwb, _⟩ := word_size hb
  have hck := fun W => checkAll_any a b W (by omega) (by omega)
  have he : errTwo a b = 0 := by unfold errTwo; rw [if_pos ha, hb]
  rw [he] at hck
  have hpa := fun W => product_one a W hwa (by omega)
  have hpb := fun W => product_one b W hwb (by omega)
  have hwu := redW_word hwa
  have hwv := redW_word hwb
  have hru := redW_rd (bts a)
  have hrv := redW_rd (bts b)
  have hlu := redW_len (bts a)
  have hlv := redW_len (bts b)
  rw [bts_len] at hlu hlv
  generalize redW (bts a) = u at *
  generalize redW (bts b) = v at *
  have huv := fun W => product_two (strB u) (strB v) W (by rw [bts_str]; exact hwu) (by rw [bts_str]; exact hwv) (by rw [bts_str, bts_str]; omega)
  have hvu := fun W => product_two (strB v) (strB u) W (by rw [bts_str]; exact hwv) (by rw [bts_str]; exact hwu) (by rw [bts_str, bts_str]; omega)
  simp only [bts_str] at huv hvu
  have hroot : ∀ l : List UInt8, l.length ≤ 500 → isWord l = true → Rd l → l ≠ [] → ∀ W, Calls Try.prog 60 #[.string (strB l)] W fun e w' => e = .returned (.tuple #[.string (strB (rootW l)), .int .i64 (rootN l)]) ∧ Below W.heap.size W w' := by
    intro l h1 h2 h3 h4 W
    have := root_any (strB l) W (by rw [size_str]; omega) (by rw [bts_str]; exact h2) (by rw [bts_str, mid_len]; have := coreN_lt h3 h4; omega)
    rwa [bts_str] at this
  have hkn := rootN_le (l := v) (by omega)
  have HCK := Lib.hid hck
  have HPA := Lib.hid hpa
  have HPB := Lib.hid hpb
  clear hck hpa hpb he hwa hwb ha hb
  by_cases hu : u = []
  · by_cases hv : v = []
    · subst hu hv
      have hc : commR [] [] = ([], 0, 0, true) := rfl
      rw [hc]
      clear huv hvu hroot
      go_enter Try.func29, Try.ntmps29
      go_wp2_with (first
        | (go_at_call 64; refine (HCK.out _).mono ?_; rintro e w0 ⟨rfl, hb0⟩)
        | (go_at_call 58; ((with_reducible refine (HPA.out _).mono ?_); rintro e w1 ⟨rfl, hb1⟩))
        | (go_at_call 58; ((with_reducible refine (HPB.out _).mono ?_); rintro e w2 ⟨rfl, hb2⟩)))
      ((try simp only [Exit.inBlock, Exit.then]); refine bodyPost_ret (results_tmp5 rfl _ _ _) rfl ?_)
      have h1 := hb0.trans (hb1.mono hb0.size)
      have h2 := h1.trans (hb2.mono h1.size)
      exact ⟨rfl, h2⟩
    · have hc : commR u v = (rootW v, 0, (rootN v : Int), true) := by
        unfold commR
        rw [if_neg (fun h => hv h.2), if_neg (by rw [hu]; simp), if_pos hu]
      rw [hc]
      subst hu
      have hvr := hroot v (by omega) hwv hrv hv
      obtain ⟨hv1, hv2⟩ := str_ne hv
      have e1 : redW ([] ++ v) = v := redW_self hrv
      have e2 : redW (v ++ []) = v := by rw [List.append_nil]; exact redW_self hrv
      rw [e1] at huv
      rw [e2] at hvu
      generalize strB v = V at *
      have HV := Lib.hid hvr
      have HUV := Lib.hid huv
      have HVU := Lib.hid hvu
      clear huv hvu hvr hroot e1 e2
      go_enter Try.func29, Try.ntmps29
      go_wp2_with (first
        | (go_at_call 64; refine (HCK.out _).mono ?_; rintro e w0 ⟨rfl, hb0⟩)
        | (go_at_call 58; ((with_reducible refine (HPA.out _).mono ?_); rintro e w1 ⟨rfl, hb1⟩))
        | (go_at_call 58; ((with_reducible refine (HPB.out _).mono ?_); rintro e w2 ⟨rfl, hb2⟩))
        | (go_at_call 58; ((with_reducible refine (HUV.out _).mono ?_); rintro e w3 ⟨rfl, hb3⟩))
        | (go_at_call 58; ((with_reducible refine (HVU.out _).mono ?_); rintro e w4 ⟨rfl, hb4⟩))
        | (go_at_call 60; ((with_reducible refine (HV.out _).mono ?_); rintro e w6 ⟨rfl, hb6⟩)))
      ((try simp only [Exit.inBlock, Exit.then]); refine bodyPost_ret (results_tmp5 rfl _ _ _) rfl ?_)
      have h1 := hb0.trans (hb1.mono hb0.size)
      have h2 := h1.trans (hb2.mono h1.size)
      have h3 := h2.trans (hb3.mono h2.size)
      have h4 := h3.trans (hb4.mono h3.size)
      have h5 := h4.trans (hb6.mono h4.size)
      exact ⟨rfl, h5⟩
  · obtain ⟨hu1, hu2⟩ := str_ne hu
    have hur := hroot u (by omega) hwu hru hu
    by_cases hcm : redW (u ++ v) = redW (v ++ u)
    · rw [hcm] at huv
      by_cases hv : v = []
      · have hc : commR u v = (rootW u, (rootN u : Int), 0, true) := by
          unfold commR
          rw [if_neg (fun h => hu h.1), if_neg (by rw [hv]; simp), if_neg hu, if_pos hv]
        rw [hc]
        subst hv
        generalize strB (redW ([] ++ u)) = S at *
        generalize strB u = U at *
        have HU := Lib.hid hur
        have HUV := Lib.hid huv
        have HVU := Lib.hid hvu
        clear huv hvu hur hroot hcm
        go_enter Try.func29, Try.ntmps29
        go_wp2_with (first
          | (go_at_call 64; refine (HCK.out _).mono ?_; rintro e w0 ⟨rfl, hb0⟩)
          | (go_at_call 58; ((with_reducible refine (HPA.out _).mono ?_); rintro e w1 ⟨rfl, hb1⟩))
          | (go_at_call 58; ((with_reducible refine (HPB.out _).mono ?_); rintro e w2 ⟨rfl, hb2⟩))
          | (go_at_call 58; ((with_reducible refine (HUV.out _).mono ?_); rintro e w3 ⟨rfl, hb3⟩))
          | (go_at_call 58; ((with_reducible refine (HVU.out _).mono ?_); rintro e w4 ⟨rfl, hb4⟩))
          | (go_at_call 60; ((with_reducible refine (HU.out _).mono ?_); rintro e w5 ⟨rfl, hb5⟩)))
        ((try simp only [Exit.inBlock, Exit.then]); refine bodyPost_ret (results_tmp5 rfl _ _ _) rfl ?_)
        have h1 := hb0.trans (hb1.mono hb0.size)
        have h2 := h1.trans (hb2.mono h1.size)
        have h3 := h2.trans (hb3.mono h2.size)
        have h4 := h3.trans (hb4.mono h3.size)
        have h5 := h4.trans (hb5.mono h4.size)
        exact ⟨rfl, h5⟩
      · have hvr := hroot v (by omega) hwv hrv hv
        obtain ⟨hv1, hv2⟩ := str_ne hv
        by_cases hrr : rootW v = rootW u
        · have hc : commR u v = (rootW u, (rootN u : Int), (rootN v : Int), true) := by
            unfold commR
            rw [if_neg (fun h => hu h.1), if_neg (fun h => h hcm), if_neg hu, if_neg hv, if_pos hrr]
          rw [hc]
          rw [hrr] at hvr
          generalize strB (redW (v ++ u)) = S at *
          generalize strB u = U at *
          generalize strB v = V at *
          have HU := Lib.hid hur
          have HV := Lib.hid hvr
          have HUV := Lib.hid huv
          have HVU := Lib.hid hvu
          clear huv hvu hur hvr hroot hcm hrr
          go_enter Try.func29, Try.ntmps29
          go_wp2_with (first
            | (go_at_call 64; refine (HCK.out _).mono ?_; rintro e w0 ⟨rfl, hb0⟩)
            | (go_at_call 58; ((with_reducible refine (HPA.out _).mono ?_); rintro e w1 ⟨rfl, hb1⟩))
            | (go_at_call 58; ((with_reducible refine (HPB.out _).mono ?_); rintro e w2 ⟨rfl, hb2⟩))
            | (go_at_call 58; ((with_reducible refine (HUV.out _).mono ?_); rintro e w3 ⟨rfl, hb3⟩))
            | (go_at_call 58; ((with_reducible refine (HVU.out _).mono ?_); rintro e w4 ⟨rfl, hb4⟩))
            | (go_at_call 60; ((with_reducible refine (HU.out _).mono ?_); rintro e w5 ⟨rfl, hb5⟩))
            | (go_at_call 60; ((with_reducible refine (HV.out _).mono ?_); rintro e w6 ⟨rfl, hb6⟩)))
          ((try simp only [Exit.inBlock, Exit.then]); refine bodyPost_ret (results_tmp5 rfl _ _ _) rfl ?_)
          have h1 := hb0.trans (hb1.mono hb0.size)
          have h2 := h1.trans (hb2.mono h1.size)
          have h3 := h2.trans (hb3.mono h2.size)
          have h4 := h3.trans (hb4.mono h3.size)
          have h5 := h4.trans (hb5.mono h4.size)
          have h6 := h5.trans (hb6.mono h5.size)
          exact ⟨rfl, h6⟩
        · have hc : commR u v = (rootW u, (rootN u : Int), -(rootN v : Int), true) := by
            unfold commR
            rw [if_neg (fun h => hu h.1), if_neg (fun h => h hcm), if_neg hu, if_neg hv, if_neg hrr]
          rw [hc]
          have hbq2 : (rootW v == rootW u) = false := by simpa using hrr
          generalize strB (redW (v ++ u)) = S at *
          generalize strB u = U at *
          generalize strB v = V at *
          have HU := Lib.hid hur
          have HV := Lib.hid hvr
          have HUV := Lib.hid huv
          have HVU := Lib.hid hvu
          clear huv hvu hur hvr hroot hcm hrr
          go_enter Try.func29, Try.ntmps29
          go_wp2_with (first
            | (go_at_call 64; refine (HCK.out _).mono ?_; rintro e w0 ⟨rfl, hb0⟩)
            | (go_at_call 58; ((with_reducible refine (HPA.out _).mono ?_); rintro e w1 ⟨rfl, hb1⟩))
            | (go_at_call 58; ((with_reducible refine (HPB.out _).mono ?_); rintro e w2 ⟨rfl, hb2⟩))
            | (go_at_call 58; ((with_reducible refine (HUV.out _).mono ?_); rintro e w3 ⟨rfl, hb3⟩))
            | (go_at_call 58; ((with_reducible refine (HVU.out _).mono ?_); rintro e w4 ⟨rfl, hb4⟩))
            | (go_at_call 60; ((with_reducible refine (HU.out _).mono ?_); rintro e w5 ⟨rfl, hb5⟩))
            | (go_at_call 60; ((with_reducible refine (HV.out _).mono ?_); rintro e w6 ⟨rfl, hb6⟩)))
          ((try simp only [Exit.inBlock, Exit.then]); refine bodyPost_ret (results_tmp5 rfl _ _ _) rfl ?_)
          have h1 := hb0.trans (hb1.mono hb0.size)
          have h2 := h1.trans (hb2.mono h1.size)
          have h3 := h2.trans (hb3.mono h2.size)
          have h4 := h3.trans (hb4.mono h3.size)
          have h5 := h4.trans (hb5.mono h4.size)
          have h6 := h5.trans (hb6.mono h5.size)
          exact ⟨rfl, h6⟩
    · have hc : commR u v = ([], 0, 0, false) := by
        unfold commR
        rw [if_neg (fun h => hu h.1), if_pos hcm]
      rw [hc]
      have hbq3 : (redW (u ++ v) == redW (v ++ u)) = false := by simpa using hcm
      generalize strB u = U at *
      generalize strB v = V at *
      have HUV := Lib.hid huv
      have HVU := Lib.hid hvu
      clear huv hvu hur hroot hcm
      go_enter Try.func29, Try.ntmps29
      go_wp2_with (first
        | (go_at_call 64; refine (HCK.out _).mono ?_; rintro e w0 ⟨rfl, hb0⟩)
        | (go_at_call 58; ((with_reducible refine (HPA.out _).mono ?_); rintro e w1 ⟨rfl, hb1⟩))
        | (go_at_call 58; ((with_reducible refine (HPB.out _).mono ?_); rintro e w2 ⟨rfl, hb2⟩))
        | (go_at_call 58; ((with_reducible refine (HUV.out _).mono ?_); rintro e w3 ⟨rfl, hb3⟩))
        | (go_at_call 58; ((with_reducible refine (HVU.out _).mono ?_); rintro e w4 ⟨rfl, hb4⟩)))
      ((try simp only [Exit.inBlock, Exit.then]); refine bodyPost_ret (results_tmp5 rfl _ _ _) rfl ?_)
      have h1 := hb0.trans (hb1.mono hb0.size)
      have h2 := h1.trans (hb2.mono h1.size)
      have h3 := h2.trans (hb3.mono h2.size)
      have h4 := h3.trans (hb4.mono h3.size)
      exact ⟨rfl, h4⟩
end Go.Proofs.Ytjdmmgaddbleeaa

/- Powers with any number: the contract. -/
namespace Go.Proofs.Ytjdmmgaddbleeaa
open Go.RowKit

/-- a power of a word -/
def powZ (l : List UInt8) (n : Int) : List UInt8 := if n < 0 then Lib.repeatL (invL l) (-n).toNat else Lib.repeatL l n.toNat
theorem powZ_len (l : List UInt8) (n : Int) : (powZ l n).length = n.natAbs * l.length := by
  unfold powZ
  split
  · rw [repeatL_len, invL_len]; congr 1; omega
  · rw [repeatL_len]; congr 1; omega
theorem repeatL_word {l : List UInt8} (h : isWord l = true) : ∀ n, isWord (Lib.repeatL l n) = true
  | 0 => rfl
  | n + 1 => isWord_app h (repeatL_word h n)
theorem powZ_word {l : List UInt8} (h : isWord l = true) (n : Int) : isWord (powZ l n) = true := by
  unfold powZ
  split
  · exact repeatL_word (invL_word h) _
  · exact repeatL_word h _
theorem rPower_any (s : ByteArray) (n : Int) (w : World) (hw : isWord (bts s) = true) (hn : n.natAbs ≤ 1000) (hs : s.size ≤ 1000) :
    Calls Try.prog 31 #[.string s, .int .i64 n] w fun e w' => e = .returned (.string (strB (powZ (bts s) n))) ∧ Below w.heap.size w w' := by
  have hm : s.size * n.natAbs ≤ 1000 * 1000 := Nat.mul_le_mul hs hn
  unfold powZ
  by_cases h : n < 0
  · rw [if_pos h]
    have := Power_neg s (-n).toNat w (by omega) hw (by omega) (by rw [show (-n).toNat = n.natAbs by omega]; omega) (by omega)
    rwa [show (-(((-n).toNat : Nat) : Int)) = n by omega] at this
  · rw [if_neg h]
    have := Power_loop s n.toNat w (by omega) (by rw [show n.toNat = n.natAbs by omega]; omega) (by omega)
    rwa [show ((n.toNat : Nat) : Int) = n by omega] at this
end Go.Proofs.Ytjdmmgaddbleeaa
