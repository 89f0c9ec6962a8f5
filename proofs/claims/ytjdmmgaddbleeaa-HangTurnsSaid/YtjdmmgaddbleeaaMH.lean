/- The law's sets: the walk. -/
import Derived.Test.YtjdmmgaddbleeaaMG
import Derived.WalkKit
import Derived.ProofKit
import Derived.OpenShut
import Derived.Test.YtjdmmgaddbleeaaMA
namespace Go.Proofs.Ytjdmmgaddbleeaa
open Go.RowKit

/-- whether a number has a bit -/
def bitI (x : Int) (k : Nat) : Bool := (x / 2 ^ k).tmod 2 != 0
def bitsTo (x : Int) (n : Nat) : List UInt8 := ((List.range n).filter (bitI x)).map letB
/-- the set that a number tells -/
def setI (n : Nat) (emp : Bool) (x : Int) : List UInt8 := if (bitsTo x n).isEmpty && !emp then [98] else bitsTo x n
def setsI (n m : Nat) (emp : Bool) (zs : List Int) : List (List UInt8) := (zs.take m).map (setI n emp)
theorem bitsTo_succ (x : Int) (k : Nat) : bitsTo x (k + 1) = bitsTo x k ++ if bitI x k = true then [letB k] else [] := by
  unfold bitsTo
  rw [List.range_succ, List.filter_append, List.map_append]
  congr 1
  cases h : bitI x k <;> simp [h]
theorem bitsTo_len (x : Int) (k : Nat) : (bitsTo x k).length ≤ k := by
  unfold bitsTo
  rw [List.length_map]
  have := List.length_filter_le (bitI x) (List.range k)
  simpa using this
theorem bitsTo_strN (x : Int) {n : Nat} (h : n ≤ 26) : bitsTo x n = strN fun i => decide (i < n) && bitI x i := by
  unfold bitsTo strN
  congr 1
  have h2 : List.range 26 = List.range n ++ (List.range (26 - n)).map fun i => n + i := by
    rw [← List.range_add, show n + (26 - n) = 26 by omega]
  rw [h2, List.filter_append]
  have h3 : ((List.range (26 - n)).map fun i => n + i).filter (fun i => decide (i < n) && bitI x i) = [] := by
    rw [List.filter_eq_nil_iff]
    intro a ha
    obtain ⟨i, _, rfl⟩ := List.mem_map.1 ha
    simp; omega
  rw [h3, List.append_nil]
  apply List.filter_congr
  intro i hi
  rw [List.mem_range] at hi
  simp [hi]
theorem setI_set {n : Nat} (h : n ≤ 26) (emp : Bool) (x : Int) : isSet 0 (setI n emp x) = true := by
  unfold setI
  split
  · decide
  · rw [bitsTo_strN x h]; exact strN_set _
theorem setI_ne (n : Nat) (x : Int) : setI n false x ≠ [] := by
  unfold setI
  split
  · simp
  · rename_i h
    intro e
    rw [e] at h
    simp at h
theorem setI_len (n : Nat) (emp : Bool) (x : Int) : (setI n emp x).length ≤ n + 1 := by
  unfold setI
  have := bitsTo_len x n
  split
  · simp
  · omega

set_option maxRecDepth 100000 in
set_option maxHeartbeats 4000000 in
theorem sets_any (v : Value) (zs : List Int) (n m : Nat) (emp : Bool) (w : World) (hv : Ints w v zs) (hn : n ≤ 26) (hm : m ≤ 1000) :
    Calls Try.prog 18 #[v, .int .i64 m, .int .i64 n, .bool emp] w fun e w' => ∃ u, e = .returned u ∧ ListT w' w.heap.size u (setsI n m emp zs) ∧ Below w.heap.size w w' := by
  obtain ⟨a, len, cap, rfl, HLn, hlen⟩ := hv.open
  obtain ⟨M, hM⟩ : ∃ M, min len m = M := ⟨_, rfl⟩
  have hfin : (zs.take M).map (setI n emp) = setsI n m emp zs := by
    unfold setsI
    rw [← hM]
    congr 1
    by_cases h : len ≤ m
    · rw [Nat.min_eq_left h, ← HLn.out, List.take_length, List.take_of_length_le (by rw [HLn.out]; exact h)]
    · rw [Nat.min_eq_right (by omega)]
  generalize setsI n m emp zs = F at *
  have HF := Lib.hid hfin
  have hMs : M ≤ len := by omega
  have hMm : M ≤ m := by omega
  have HMM := Lib.hid hM
  have HV := Lib.hid hv
  clear hfin hM hv
  go_enter Try.func18, Try.ntmps18
  go_wp2_with fail
  go_loopw [9, 10] (fun ov iv wr => ∃ i : Nat, i ≤ M ∧ iv = .int .i64 i ∧ Hid (ListT wr w.heap.size ov ((zs.take i).map (setI n emp))) ∧ Hid (Below w.heap.size w wr)) (fun _ iv _ => M - (intOf iv).toNat)
  case atStart => exact ⟨0, by omega, rfl, (show Hid (ListT _ _ _ _) from ⟨World.ownsRow_nil _ _ _ _, fun _ => rfl⟩), (show Hid _ from Below.refl _ _)⟩
  case round =>
    obtain ⟨i, hi, rfl, HO, HB⟩ := hrel
    obtain ⟨w2, rfl⟩ : ∃ w2, w2 = wr := ⟨_, rfl⟩
    by_cases hlt : i < M
    · have hil : i < len := by omega
      have him : i < m := by omega
      obtain ⟨b, o, x, rfl, hx, hcell0⟩ := HV.out.at_ hil
      have hbx : b < w.heap.size := by
        obtain ⟨a', cap', hv', _, h⟩ := HV.out
        obtain ⟨b', o', e, hlt', _⟩ := h (by have := HLn.out; omega)
        simp at hv'
        rw [e] at hv'
        simp at hv'
        omega
      have hcell := (HB.out.cell (p := ⟨b, o + i, none⟩) hbx).trans hcell0
      have htk : (zs.take (i + 1)).map (setI n emp) = (zs.take i).map (setI n emp) ++ [setI n emp x] := by rw [take_snoc' hx.out]; simp
      have HTK := Lib.hid htk
      have HCELL := Lib.hid hcell
      have hbw : b < w2.heap.size := Nat.lt_of_lt_of_le hbx HB.out.size
      clear htk hcell0 hcell hx
      go_wp2_with fail
      go_loopw [11, 12] (fun sv kv wx => ∃ k : Nat, k ≤ n ∧ kv = .int .i64 k ∧ sv = .string (strB (bitsTo x k)) ∧ Hid (Below w2.heap.size w2 wx)) (fun _ kv _ => n - (intOf kv).toNat)
      case atStart => exact ⟨0, by omega, rfl, rfl, (show Hid _ from Below.refl _ _)⟩
      case round =>
        obtain ⟨k, hk, rfl, rfl, HBx⟩ := hrel
        have hcx := (HBx.out.cell (p := ⟨b, o + i, none⟩) hbw).trans HCELL.out
        by_cases hlt2 : k < n
        · have hk26 : k < 26 := by omega
          have hsu := bitsTo_succ x k
          have hsz : (strB (bitsTo x k)).size ≤ 26 := by rw [size_str]; have := bitsTo_len x k; omega
          have hln := letB_nat hk26
          have hcv := conv_one (w := wr) (c := letB k)
          rw [hln, show ((97 + k : Nat) : Int) = 97 + (k : Int) by omega] at hcv
          have hcat : strB (bitsTo x k) ++ strB [letB k] = strB (bitsTo x k ++ [letB k]) := by apply str_eq; rw [bts_add]
          have hl1 : (strB [letB k]).size = 1 := rfl
          have hbit : ((x / 2 ^ k).tmod 2 != 0) = bitI x k := rfl
          cases hb : bitI x k
          · rw [hb] at hbit hsu
            simp only [Bool.false_eq_true, if_false, List.append_nil] at hsu
            generalize hX : strB (bitsTo x k) = X at *
            generalize strB [letB k] = L at *
            have HSU := Lib.hid hsu
            have HX := Lib.hid hX
            clear hsu hX hb hcat hln
            go_wp2_with fail
            go_roundw
            case rel => exact ⟨k + 1, by omega, by go_num, by rw [HSU.out, HX.out], HBx⟩
            case measure => simp [intOf]; omega
          · rw [hb] at hbit hsu
            simp only [if_true] at hsu
            rw [← hsu] at hcat
            generalize hX : strB (bitsTo x k) = X at *
            generalize strB [letB k] = L at *
            have HC := Lib.hid hcat
            have n1 : ¬ 9223372036854775807 < X.size + 1 := by omega
            clear hsu hX hb hcat hln
            go_wp2_with fail
            go_roundw
            case rel => exact ⟨k + 1, by omega, by go_num, by rw [HC.out], HBx.out.alloc HBx.out.size _⟩
            case measure => simp [intOf]; omega
        · obtain rfl : k = n := by omega
          have hB2 := HB.out.trans (HBx.out.mono HB.out.size)
          have hO2 : ListT wr w.heap.size u9 ((zs.take i).map (setI k emp)) := ⟨World.ownsRow.keep HO.out.1 HBx.out, HO.out.2⟩
          have hset : setI k emp x = if (bitsTo x k).isEmpty && !emp then [98] else bitsTo x k := rfl
          have hlen9 : (((zs.take i).map (setI k emp)).map strB).length < 1000000000 := by rw [List.length_map, List.length_map, List.length_take]; omega
          have hie : (strB (bitsTo x k)).toList.isEmpty = (bitsTo x k).isEmpty := by rw [ByteArray.toList_eq]
          have hB2s := hB2.size
          have HB2 := Lib.hid hB2
          have HO2 := Lib.hid hO2
          have HL9 := Lib.hid hlen9
          have HSET := Lib.hid hset
          cases hE : (bitsTo x k).isEmpty
          · have hX0 : bitsTo x k ≠ [] := by intro h; rw [h] at hE; simp at hE
            have hset2 : setI k emp x = bitsTo x k := by rw [HSET.out, hE]; rfl
            have HS2 := Lib.hid hset2
            rw [hE] at hie
            generalize hX : strB (bitsTo x k) = X at *
            have HX := Lib.hid hX
            have hne : (X.toList == []) = false := by cases h : X.toList with | nil => rw [h] at hie; simp at hie | cons a l => rfl
            clear hB2 hO2 hset hlen9 hE hX hset2 hie
            go_wp2_with (at_builtin; refine wpList_appT Try.underlying22 HO2.out.1 hB2s HL9.out rfl _ _ rfl (z := X) rfl rfl ?_; intro v2 w4 hown2 hg2 hb2 hsh2)
            go_roundw
            case rel => exact ⟨i + 1, by omega, by go_num, by (show ListT _ _ _ _; exact ⟨by rw [HTK.out, List.map_append, List.map_singleton, HS2.out, HX.out]; exact hown2, fun h => by rw [HTK.out] at h; simp at h⟩), HB2.out.trans hb2⟩
            case measure => simp [intOf]; omega
          · have hX0 : bitsTo x k = [] := by cases h : bitsTo x k with | nil => rfl | cons a l => rw [h] at hE; simp at hE
            rw [hX0]
            clear hie
            cases emp
            · have hset2 : setI k false x = [98] := by rw [HSET.out, hE]; rfl
              have HS2 := Lib.hid hset2
              clear hB2 hO2 hset hlen9 hE hset2 hX0
              go_wp2_with (at_builtin; refine wpList_appT Try.underlying22 HO2.out.1 hB2s HL9.out rfl _ _ rfl (z := strB [98]) rfl rfl ?_; intro v2 w4 hown2 hg2 hb2 hsh2)
              go_roundw
              case rel => exact ⟨i + 1, by omega, by go_num, by (show ListT _ _ _ _; exact ⟨by rw [HTK.out, List.map_append, List.map_singleton, HS2.out]; exact hown2, fun h => by rw [HTK.out] at h; simp at h⟩), HB2.out.trans hb2⟩
              case measure => simp [intOf]; omega
            · have hset2 : setI k true x = [] := by rw [HSET.out, hE, hX0]; rfl
              have HS2 := Lib.hid hset2
              clear hB2 hO2 hset hlen9 hE hset2 hX0
              go_wp2_with (at_builtin; refine wpList_appT Try.underlying22 HO2.out.1 hB2s HL9.out rfl _ _ rfl (z := strB []) rfl rfl ?_; intro v2 w4 hown2 hg2 hb2 hsh2)
              go_roundw
              case rel => exact ⟨i + 1, by omega, by go_num, by (show ListT _ _ _ _; exact ⟨by rw [HTK.out, List.map_append, List.map_singleton, HS2.out]; exact hown2, fun h => by rw [HTK.out] at h; simp at h⟩), HB2.out.trans hb2⟩
              case measure => simp [intOf]; omega
    · obtain rfl : i = M := by omega
      rw [HF.out] at HO
      by_cases h1 : i < len
      · have h2 : ¬ i < m := by have := HMM.out; omega
        go_wp2_with fail
        go_ret
        exact ⟨_, rfl, HO.out, HB.out⟩
      · go_wp2_with fail
        go_ret
        exact ⟨_, rfl, HO.out, HB.out⟩
end Go.Proofs.Ytjdmmgaddbleeaa

/- Plain laws of falling sets: of a word, its inverse and what it is turned into; more nails; all nails. -/
namespace Go.Proofs.Ytjdmmgaddbleeaa
open Go.RowKit

theorem letOf_ok : ∀ n : Nat, 1 ≤ n → n ≤ 4 → ∀ c : UInt8, letter ((letOf n c).toNat : Int) = true ∧ nailB (letOf n c) < n := by
  intro n h1 h2
  obtain rfl | rfl | rfl | rfl : n = 1 ∨ n = 2 ∨ n = 3 ∨ n = 4 := by omega
  all_goals exact for_bytes (by decide +kernel)
theorem text_word {n m : Nat} (h1 : 1 ≤ n) (h2 : n ≤ 4) (l : List UInt8) : isWord (textL n m l) = true := by
  unfold textL
  refine List.all_eq_true.2 fun c hc => ?_
  obtain ⟨d, _, rfl⟩ := List.mem_map.1 hc
  exact (letOf_ok n h1 h2 d).1
theorem text_nail {n m : Nat} (h1 : 1 ≤ n) (h2 : n ≤ 4) {l : List UInt8} {c : UInt8} (hc : c ∈ textL n m l) : nailB c < n := by
  unfold textL at hc
  obtain ⟨d, _, rfl⟩ := List.mem_map.1 hc
  exact (letOf_ok n h1 h2 d).2
theorem text_len (n m : Nat) (l : List UInt8) : (textL n m l).length ≤ m := by
  unfold textL; rw [List.length_map, List.length_take]; omega
/-- few nails -/
theorem nails_few {n : Nat} {l : List UInt8} (h : ∀ c ∈ l, nailB c < n) : (strN (nailsOf l)).length ≤ n := by
  have e : strN (nailsOf l) = strTo (nailsOf l) (min n 26) := by
    unfold strN strTo
    congr 1
    have h2 : List.range 26 = List.range (min n 26) ++ (List.range (26 - min n 26)).map fun i => min n 26 + i := by
      rw [← List.range_add, show min n 26 + (26 - min n 26) = 26 by omega]
    rw [h2, List.filter_append]
    have h3 : ((List.range (26 - min n 26)).map fun i => min n 26 + i).filter (nailsOf l) = [] := by
      rw [List.filter_eq_nil_iff]
      intro a ha
      obtain ⟨i, hi, rfl⟩ := List.mem_map.1 ha
      rw [List.mem_range] at hi
      unfold nailsOf
      intro h4
      obtain ⟨c, hc, e⟩ := List.any_eq_true.1 h4
      have := h c hc
      have e2 : nailB c = min n 26 + i := by simpa using e
      omega
    rw [h3, List.append_nil]
  rw [e]
  have := strTo_len (nailsOf l) (min n 26)
  omega
theorem fallsP_marks {l t u : List UInt8} (h : ∀ c ∈ l, marksOf t (nailB c) = marksOf u (nailB c)) : fallsP l t = fallsP l u := by
  unfold fallsP
  rw [redL_congr h]
/-- what the falling sets are, with no word of the nails -/
theorem setsL_iff {l : List UInt8} {t : List UInt8} :
    t ∈ setsL l ↔ Rise t ∧ (∀ c ∈ t, smallB c) ∧ fallsP l t = true ∧ ∀ u, Rise u → (∀ c ∈ u, c ∈ t) → fallsP l u = true → u = t := by
  unfold setsL
  rw [mem_leastS (strN_rise _)]
  constructor
  · rintro ⟨h1, h2, h3, h4⟩
    exact ⟨h1, fun c hc => (mem_strN.1 (h2 c hc)).1, h3, h4⟩
  · rintro ⟨h1, h2, h3, h4⟩
    refine ⟨h1, ?_, h3, h4⟩
    have h5 : fallsP l (t.filter fun c => (strN (nailsOf l)).contains c) = fallsP l t := by
      apply fallsP_marks
      intro c hc
      rw [Bool.eq_iff_iff, mem_marks, mem_marks]
      constructor
      · rintro ⟨d, hd, e⟩
        exact ⟨d, (List.mem_filter.1 hd).1, e⟩
      · rintro ⟨d, hd, e⟩
        refine ⟨d, List.mem_filter.2 ⟨hd, ?_⟩, e⟩
        rw [List.contains_iff_mem, mem_strN]
        refine ⟨h2 d hd, ?_⟩
        unfold nailsOf
        rw [List.any_eq_true]
        exact ⟨c, hc, by simp; omega⟩
    have h6 := h4 _ (h1.filter _) (fun c hc => (List.mem_filter.1 hc).1) (h5.trans h3)
    intro c hc
    rw [← h6] at hc
    simpa using (List.mem_filter.1 hc).2
theorem setsL_asc (l : List UInt8) : Asc (setsL l) := sortS_asc _
theorem setsL_congr {a b : List UInt8} (h : ∀ t, fallsP a t = fallsP b t) : setsL a = setsL b := by
  refine asc_ext (setsL_asc a) (setsL_asc b) fun t => ?_
  rw [setsL_iff, setsL_iff, h]
  simp only [h]
theorem invL_empty {l : List UInt8} : (invL l).isEmpty = l.isEmpty := by
  unfold invL; cases l <;> simp
theorem falls_inv (l t : List UInt8) : fallsP (invL l) t = fallsP l t := by
  unfold fallsP
  rw [redL_keep, keep_inv, redW_inv, invL_empty, ← redL_keep]
theorem Eqv.conj {v u : List UInt8} : Eqv (v ++ u ++ invL v) [] ↔ Eqv u [] := by
  constructor
  · intro h
    have h1 : Eqv (invL v ++ (v ++ u ++ invL v) ++ v) (invL v ++ [] ++ v) := Eqv.right _ (Eqv.left _ h)
    have h2 : Eqv (invL v ++ [] ++ v) [] := by simpa using Eqv.inv_left v
    have h3 : Eqv u (invL v ++ (v ++ u ++ invL v) ++ v) := by
      have e1 : Eqv u (invL v ++ v ++ u) := by simpa using Eqv.right u (Eqv.inv_left v).symm
      have e2 : Eqv (invL v ++ v ++ u) (invL v ++ v ++ u ++ (invL v ++ v)) := by simpa using Eqv.left (invL v ++ v ++ u) (Eqv.inv_left v).symm
      have := e1.trans e2
      simpa using this
    exact h3.trans (h1.trans h2)
  · intro h
    have h1 : Eqv (v ++ u ++ invL v) (v ++ [] ++ invL v) := Eqv.right _ (Eqv.left _ h)
    have h2 : Eqv (v ++ [] ++ invL v) [] := by simpa using Eqv.inv_right v
    exact h1.trans h2
theorem eqv_empty {l : List UInt8} : (redW l).isEmpty = true ↔ Eqv l [] := by
  unfold Eqv
  rw [redW_nil]
  simp
theorem falls_conj (v u t : List UInt8) : fallsP (v ++ u ++ invL v) t = fallsP u t := by
  unfold fallsP
  rw [redL_keep, redL_keep, Bool.eq_iff_iff, eqv_empty, eqv_empty, keep_app, keep_app, keep_inv, Eqv.conj]
theorem sets_inv (l : List UInt8) : setsL (invL l) = setsL l := setsL_congr fun t => falls_inv l t
theorem sets_conj (v u : List UInt8) : setsL (v ++ u ++ invL v) = setsL u :=
  setsL_congr fun t => falls_conj v u t
theorem red_back (l : List UInt8) : redW (l ++ invL l) = [] := Eqv.inv_right l

/-- more nails -/
theorem falls_mono {l t u : List UInt8} (h : ∀ c ∈ t, c ∈ u) (hf : fallsP l t = true) : fallsP l u = true := by
  unfold fallsP at *
  have h1 : redL (marksOf t) l = [] := by simpa using hf
  rw [falls_more (f := marksOf t) (g := marksOf u) ?_ h1]
  · rfl
  · intro i hi
    rw [mem_marks] at hi ⊢
    obtain ⟨c, hc, e⟩ := hi
    exact ⟨c, h c hc, e⟩
theorem falls_all {l t : List UInt8} (h : ∀ c ∈ l, marksOf t (nailB c) = true) : fallsP l t = true := by
  unfold fallsP
  rw [redL_keep]
  have : keep (marksOf t) l = [] := by
    unfold keep
    rw [List.filter_eq_nil_iff]
    intro c hc
    simp [h c hc]
  rw [this]
  rfl

/- bits of ints -/
theorem bitI_iff {x : Int} {k : Nat} : bitI x k = true ↔ x / 2 ^ k % 2 = 1 := by
  unfold bitI
  rw [bne_iff_ne, ne_eq, ← Int.dvd_iff_tmod_eq_zero]
  omega
theorem bitI_mod (x : Int) {k : Nat} (h : k < 64) : bitI x k = (x % 2 ^ 64).toNat.testBit k := by
  rw [Bool.eq_iff_iff, bitI_iff, Nat.testBit_eq_decide_div_mod_eq, decide_eq_true_iff]
  obtain ⟨n, hn⟩ : ∃ n : Nat, (x % 2 ^ 64) = (n : Int) := ⟨(x % 2 ^ 64).toNat, by omega⟩
  rw [hn, Int.toNat_natCast]
  have hx : x = (n : Int) + 2 ^ k * (2 ^ (64 - k) * (x / 2 ^ 64)) := by
    have h1 : (2 : Int) ^ k * (2 ^ (64 - k) * (x / 2 ^ 64)) = 2 ^ 64 * (x / 2 ^ 64) := by
      rw [← Int.mul_assoc, ← Int.pow_add, show k + (64 - k) = 64 by omega]
    rw [h1, ← hn]
    have := Int.emod_add_mul_ediv x (2 ^ 64)
    omega
  have h2 : (2 : Int) ^ k ≠ 0 := by
    have : (0 : Int) < 2 ^ k := Int.pow_pos (by omega)
    omega
  rw [hx, Int.add_mul_ediv_left _ _ h2]
  obtain ⟨m, hm⟩ : ∃ m, (2 : Int) ^ (64 - k) * (x / 2 ^ 64) = 2 * m := ⟨2 ^ (63 - k) * (x / 2 ^ 64), by
    rw [← Int.mul_assoc, show (64 - k) = (63 - k) + 1 by omega, Int.pow_succ]
    congr 1
    omega⟩
  rw [hm]
  have h3 : (n : Int) / 2 ^ k = ((n / 2 ^ k : Nat) : Int) := by push_cast; rfl
  rw [h3]
  omega
theorem wrap_mod (n : Int) : IntKind.i64.wrap n % 2 ^ 64 = n % 2 ^ 64 := by
  simp only [IntKind.wrap, IntKind.bits, IntKind.signed, Bool.true_and]
  split <;> omega
theorem bitI_or (x y : Int) {k : Nat} (h : k < 64) : bitI (IntKind.i64.wrap ((BitVec.ofInt 64 x ||| BitVec.ofInt 64 y).toNat : Int)) k = (bitI x k || bitI y k) := by
  rw [bitI_mod _ h, wrap_mod, bitI_mod x h, bitI_mod y h, BitVec.toNat_or, BitVec.toNat_ofInt, BitVec.toNat_ofInt, ← Nat.testBit_or]
  congr 1
  have h1 : (x % 2 ^ 64).toNat < 2 ^ 64 := by omega
  have h2 : (y % 2 ^ 64).toNat < 2 ^ 64 := by omega
  have h3 := Nat.or_lt_two_pow h1 h2
  have e1 : ((2 ^ 64 : Nat) : Int) = 2 ^ 64 := by norm_cast
  rw [e1]
  generalize (x % 2 ^ 64).toNat ||| (y % 2 ^ 64).toNat = N at *
  omega
theorem setI_true {n : Nat} (h : n ≤ 26) (x : Int) : setI n true x = strN fun i => decide (i < n) && bitI x i := by
  unfold setI
  simp [bitsTo_strN x h]
theorem setI_more {n : Nat} (h : n ≤ 26) {x y : Int} (hm : ∀ k, k < n → bitI x k = true → bitI y k = true) : ∀ c ∈ setI n true x, c ∈ setI n true y := by
  intro c hc
  rw [setI_true h, mem_strN] at hc ⊢
  refine ⟨hc.1, ?_⟩
  have h2 := hc.2
  simp only [Bool.and_eq_true, decide_eq_true_iff] at h2 ⊢
  exact ⟨h2.1, hm _ h2.1 h2.2⟩
end Go.Proofs.Ytjdmmgaddbleeaa

/- An array of ints that came in, by value: opened. -/
namespace Go.Proofs.Ytjdmmgaddbleeaa
open Go.ChangeShapes Go.WideShapes Go.ChangeAt Go.RowKit

theorem open_i64s {H : Type} {enc : TypeId × Value → H} {P : Program} {W : World} {base b0 : Nat} {sp : Nat → Bool} {held : Bool} {r : Reach} {t e : TypeId} {n : Nat} {v : Value} {d : DataW H} {p : List MemPlace}
    (ht : P.underlying t = some (.array n e)) (he : P.underlying e = some (.int .i64)) (hce : P.cellsOf e = 1) (hct : P.cellsOf t = n)
    (hv : Value.okWide P W r b0 t v) (h : DataW.Trod enc P W base sp held t v d p) : ∃ zs : List Int, zs.length = n ∧ v = .agg (zs.map (Value.int .i64)).toArray ∧ ∀ z ∈ zs, (Lit.int .i64 z).wf = true := by
  simp only [Value.okWide, ht] at hv
  obtain ⟨cs, rfl, hsz, _⟩ := hv
  obtain ⟨l⟩ := cs
  obtain ⟨fuel, hf⟩ := h
  obtain ⟨xs, m, _, _, hl, hxl, hel⟩ := DataW.trod_array ht hf
  have hln : l.length = n := by simpa [hct] using hsz
  have key : ∀ i, i < n → ∃ z, l[i]? = some (.int .i64 z) ∧ (Lit.int .i64 z).wf = true := by
    intro i hi
    have h1 := hel i hi
    rw [hce, Nat.mul_one, List.getElem?_eq_getElem (by omega)] at h1
    obtain ⟨z, hz, _, hw⟩ := DataW.trod_int he h1
    refine ⟨z, ?_, hw⟩
    simp only [Value.cells] at hz
    have h2 : (List.take 1 (List.drop i l))[0]? = some (Value.int .i64 z) := by rw [hz]; rfl
    simpa using h2
  refine ⟨l.map fun v => match v with | .int _ z => z | _ => 0, by simpa using hln, ?_, ?_⟩
  · congr 1
    congr 1
    apply List.ext_getElem?
    intro i
    rw [List.map_map, List.getElem?_map]
    by_cases hi : i < n
    · obtain ⟨z, hz, _⟩ := key i hi
      rw [hz]; rfl
    · rw [List.getElem?_eq_none (by omega)]; rfl
  · intro z hz
    obtain ⟨v, hv, rfl⟩ := List.mem_map.1 hz
    obtain ⟨i, hi, e1⟩ := List.getElem_of_mem hv
    obtain ⟨z, h1, h2⟩ := key i (by omega)
    rw [List.getElem?_eq_getElem hi, e1] at h1
    cases h1
    exact h2
theorem list2 {l : List Int} (h : l.length = 2) : ∃ a b, l = [a, b] := by match l, h with | [a, b], _ => exact ⟨a, b, rfl⟩
theorem list3 {l : List Int} (h : l.length = 3) : ∃ a b c, l = [a, b, c] := by match l, h with | [a, b, c], _ => exact ⟨a, b, c, rfl⟩
end Go.Proofs.Ytjdmmgaddbleeaa

/- A row of integers that came in, as the walks read it. -/
namespace Go.Proofs.Ytjdmmgaddbleeaa
open Go.RowKit

theorem ints_of_row {w : World} {a : Option Addr} {len cap : Nat} {zs : List Int} (h : (a = none ∧ len = 0 ∧ cap = 0 ∧ zs = []) ∨
    ∃ x, a = some x ∧ len ≤ cap ∧ cap ≤ maxLen ∧ zs.length = cap ∧ (∀ i, i < zs.length → w.cell? (x.add i) = some (.int .i64 (zs.getD i 0))) ∧ ∀ n ∈ zs, (Lit.int .i64 n).wf = true) :
    Ints w (.slice a len cap) (zs.take len) := by
  rcases h with ⟨rfl, rfl, rfl, rfl⟩ | ⟨x, rfl, h1, h2, h3, h4, _⟩
  · exact Ints.nil w
  · have hl : (zs.take len).length = len := by rw [List.length_take]; omega
    refine ⟨some x, cap, by rw [hl], ⟨by omega, by unfold maxLen at h2; omega⟩, fun hp => ?_⟩
    have h0 := h4 0 (by omega)
    have hs : x.spot = none := by
      unfold Addr.add at h0
      rw [if_pos rfl] at h0
      unfold World.cell? at h0
      split at h0
      · split at h0
        · cases h0
        · rename_i hsp
          cases hx : x.spot with
          | none => rfl
          | some _ => rw [hx] at hsp; simp at hsp
      · cases h0
    obtain ⟨b, o, s⟩ := x
    simp only at hs
    subst hs
    refine ⟨b, o, rfl, World.block_lt_of_cell? w _ h0, fun j y hj => ?_⟩
    rw [List.getElem?_take] at hj
    split at hj
    · have := h4 j (by omega)
      have e : (⟨b, o, none⟩ : Addr).add j = ⟨b, o + j, none⟩ := by
        unfold Addr.add
        split
        · rename_i h; subst h; rfl
        · rfl
      rw [e] at this
      rw [this]
      simp [List.getD, hj]
    · cases hj
theorem int_of_wf {n : Int} (h : (Lit.int .i64 n).wf = true) : -9223372036854775808 ≤ n ∧ n ≤ 9223372036854775807 := by
  have hmin : IntKind.i64.min = -9223372036854775808 := by decide
  have hmax : IntKind.i64.max = 9223372036854775807 := by decide
  simp only [Lit.wf, hmin, hmax, Bool.and_eq_true, decide_eq_true_eq] at h
  exact h
end Go.Proofs.Ytjdmmgaddbleeaa
