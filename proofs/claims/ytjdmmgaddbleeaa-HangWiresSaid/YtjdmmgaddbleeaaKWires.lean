/- The law's sets: the walk. -/
import Derived.Test.YtjdmmgaddbleeaaMG
import Derived.WalkKit
import Derived.ProofKit
import Derived.OpenShut
import Derived.Test.YtjdmmgaddbleeaaMF
namespace Go.Proofs.Ytjdmmgaddbleeaa
open Go.RowKit

/-- whether a number has a bit -/
def bitI (x : Int) (k : Nat) : Bool := (x / 2 ^ k).tmod 2 != 0
def bitsTo (x : Int) (n : Nat) : List UInt8 := ((List.range n).filter (bitI x)).map letB
/-- the set that a number tells -/
def setI (n : Nat) (emp : Bool) (x : Int) : List UInt8 := if (bitsTo x n).isEmpty && !emp then [98] else bitsTo x n
def setsI (n m : Nat) (emp : Bool) (zs : List Int) : List (List UInt8) := (zs.take m).map (setI n emp)
theorem bitsTo_succ (x : Int) (k : Nat) : bitsTo x (k + 1) = bitsTo x k ++ if bitI x k = true then [letB k] else [] := by
  unfold bitsTo
  rw [List.range_succ, List.filter_append, List.map_append]
  congr 1
  cases h : bitI x k <;> simp [h]
theorem bitsTo_len (x : Int) (k : Nat) : (bitsTo x k).length ≤ k := by
  unfold bitsTo
  rw [List.length_map]
  have := List.length_filter_le (bitI x) (List.range k)
  simpa using this
theorem bitsTo_strN (x : Int) {n : Nat} (h : n ≤ 26) : bitsTo x n = strN fun i => decide (i < n) && bitI x i := by
  unfold bitsTo strN
  congr 1
  have h2 : List.range 26 = List.range n ++ (List.range (26 - n)).map fun i => n + i := by
    rw [← List.range_add, show n + (26 - n) = 26 by omega]
  rw [h2, List.filter_append]
  have h3 : ((List.range (26 - n)).map fun i => n + i).filter (fun i => decide (i < n) && bitI x i) = [] := by
    rw [List.filter_eq_nil_iff]
    intro a ha
    obtain ⟨i, _, rfl⟩ := List.mem_map.1 ha
    simp; omega
  rw [h3, List.append_nil]
  apply List.filter_congr
  intro i hi
  rw [List.mem_range] at hi
  simp [hi]
theorem setI_set {n : Nat} (h : n ≤ 26) (emp : Bool) (x : Int) : isSet 0 (setI n emp x) = true := by
  unfold setI
  split
  · decide
  · rw [bitsTo_strN x h]; exact strN_set _
theorem setI_ne (n : Nat) (x : Int) : setI n false x ≠ [] := by
  unfold setI
  split
  · simp
  · rename_i h
    intro e
    rw [e] at h
    simp at h
theorem setI_len (n : Nat) (emp : Bool) (x : Int) : (setI n emp x).length ≤ n + 1 := by
  unfold setI
  have := bitsTo_len x n
  split
  · simp
  · omega

set_option maxRecDepth 100000 in
set_option maxHeartbeats 4000000 in
theorem sets_any (v : Value) (zs : List Int) (n m : Nat) (emp : Bool) (w : World) (hv : Ints w v zs) (hn : n ≤ 26) (hm : m ≤ 1000) :
    Calls Try.prog 18 #[v, .int .i64 m, .int .i64 n, .bool emp] w fun e w' => ∃ u, e = .returned u ∧ ListT w' w.heap.size u (setsI n m emp zs) ∧ Below w.heap.size w w' := by
  obtain ⟨a, len, cap, rfl, HLn, hlen⟩ := hv.open
  obtain ⟨M, hM⟩ : ∃ M, min len m = M := ⟨_, rfl⟩
  have hfin : (zs.take M).map (setI n emp) = setsI n m emp zs := by
    unfold setsI
    rw [← hM]
    congr 1
    by_cases h : len ≤ m
    · rw [Nat.min_eq_left h, ← HLn.out, List.take_length, List.take_of_length_le (by rw [HLn.out]; exact h)]
    · rw [Nat.min_eq_right (by omega)]
  generalize setsI n m emp zs = F at *
  have HF := Lib.hid hfin
  have hMs : M ≤ len := by omega
  have hMm : M ≤ m := by omega
  have HMM := Lib.hid hM
  have HV := Lib.hid hv
  clear hfin hM hv
  go_enter Try.func18, Try.ntmps18
  go_wp2_with fail
  go_loopw [9, 10] (fun ov iv wr => ∃ i : Nat, i ≤ M ∧ iv = .int .i64 i ∧ Hid (ListT wr w.heap.size ov ((zs.take i).map (setI n emp))) ∧ Hid (Below w.heap.size w wr)) (fun _ iv _ => M - (intOf iv).toNat)
  case atStart => exact ⟨0, by omega, rfl, (show Hid (ListT _ _ _ _) from ⟨World.ownsRow_nil _ _ _ _, fun _ => rfl⟩), (show Hid _ from Below.refl _ _)⟩
  case round =>
    obtain ⟨i, hi, rfl, HO, HB⟩ := hrel
    obtain ⟨w2, rfl⟩ : ∃ w2, w2 = wr := ⟨_, rfl⟩
    by_cases hlt : i < M
    · have hil : i < len := by omega
      have him : i < m := by omega
      obtain ⟨b, o, x, rfl, hx, hcell0⟩ := HV.out.at_ hil
      have hbx : b < w.heap.size := by
        obtain ⟨a', cap', hv', _, h⟩ := HV.out
        obtain ⟨b', o', e, hlt', _⟩ := h (by have := HLn.out; omega)
        simp at hv'
        rw [e] at hv'
        simp at hv'
        omega
      have hcell := (HB.out.cell (p := ⟨b, o + i, none⟩) hbx).trans hcell0
      have htk : (zs.take (i + 1)).map (setI n emp) = (zs.take i).map (setI n emp) ++ [setI n emp x] := by rw [take_snoc' hx.out]; simp
      have HTK := Lib.hid htk
      have HCELL := Lib.hid hcell
      have hbw : b < w2.heap.size := Nat.lt_of_lt_of_le hbx HB.out.size
      clear htk hcell0 hcell hx
      go_wp2_with fail
      go_loopw [11, 12] (fun sv kv wx => ∃ k : Nat, k ≤ n ∧ kv = .int .i64 k ∧ sv = .string (strB (bitsTo x k)) ∧ Hid (Below w2.heap.size w2 wx)) (fun _ kv _ => n - (intOf kv).toNat)
      case atStart => exact ⟨0, by omega, rfl, rfl, (show Hid _ from Below.refl _ _)⟩
      case round =>
        obtain ⟨k, hk, rfl, rfl, HBx⟩ := hrel
        have hcx := (HBx.out.cell (p := ⟨b, o + i, none⟩) hbw).trans HCELL.out
        by_cases hlt2 : k < n
        · have hk26 : k < 26 := by omega
          have hsu := bitsTo_succ x k
          have hsz : (strB (bitsTo x k)).size ≤ 26 := by rw [size_str]; have := bitsTo_len x k; omega
          have hln := letB_nat hk26
          have hcv := conv_one (w := wr) (c := letB k)
          rw [hln, show ((97 + k : Nat) : Int) = 97 + (k : Int) by omega] at hcv
          have hcat : strB (bitsTo x k) ++ strB [letB k] = strB (bitsTo x k ++ [letB k]) := by apply str_eq; rw [bts_add]
          have hl1 : (strB [letB k]).size = 1 := rfl
          have hbit : ((x / 2 ^ k).tmod 2 != 0) = bitI x k := rfl
          cases hb : bitI x k
          · rw [hb] at hbit hsu
            simp only [Bool.false_eq_true, if_false, List.append_nil] at hsu
            generalize hX : strB (bitsTo x k) = X at *
            generalize strB [letB k] = L at *
            have HSU := Lib.hid hsu
            have HX := Lib.hid hX
            clear hsu hX hb hcat hln
            go_wp2_with fail
            go_roundw
            case rel => exact ⟨k + 1, by omega, by go_num, by rw [HSU.out, HX.out], HBx⟩
            case measure => simp [intOf]; omega
          · rw [hb] at hbit hsu
            simp only [if_true] at hsu
            rw [← hsu] at hcat
            generalize hX : strB (bitsTo x k) = X at *
            generalize strB [letB k] = L at *
            have HC := Lib.hid hcat
            have n1 : ¬ 9223372036854775807 < X.size + 1 := by omega
            clear hsu hX hb hcat hln
            go_wp2_with fail
            go_roundw
            case rel => exact ⟨k + 1, by omega, by go_num, by rw [HC.out], HBx.out.alloc HBx.out.size _⟩
            case measure => simp [intOf]; omega
        · obtain rfl : k = n := by omega
          have hB2 := HB.out.trans (HBx.out.mono HB.out.size)
          have hO2 : ListT wr w.heap.size u9 ((zs.take i).map (setI k emp)) := ⟨World.ownsRow.keep HO.out.1 HBx.out, HO.out.2⟩
          have hset : setI k emp x = if (bitsTo x k).isEmpty && !emp then [98] else bitsTo x k := rfl
          have hlen9 : (((zs.take i).map (setI k emp)).map strB).length < 1000000000 := by rw [List.length_map, List.length_map, List.length_take]; omega
          have hie : (strB (bitsTo x k)).toList.isEmpty = (bitsTo x k).isEmpty := by rw [ByteArray.toList_eq]
          have hB2s := hB2.size
          have HB2 := Lib.hid hB2
          have HO2 := Lib.hid hO2
          have HL9 := Lib.hid hlen9
          have HSET := Lib.hid hset
          cases hE : (bitsTo x k).isEmpty
          · have hX0 : bitsTo x k ≠ [] := by intro h; rw [h] at hE; simp at hE
            have hset2 : setI k emp x = bitsTo x k := by rw [HSET.out, hE]; rfl
            have HS2 := Lib.hid hset2
            rw [hE] at hie
            generalize hX : strB (bitsTo x k) = X at *
            have HX := Lib.hid hX
            have hne : (X.toList == []) = false := by cases h : X.toList with | nil => rw [h] at hie; simp at hie | cons a l => rfl
            clear hB2 hO2 hset hlen9 hE hX hset2 hie
            go_wp2_with (at_builtin; refine wpList_appT Try.underlying22 HO2.out.1 hB2s HL9.out rfl _ _ rfl (z := X) rfl rfl ?_; intro v2 w4 hown2 hg2 hb2 hsh2)
            go_roundw
            case rel => exact ⟨i + 1, by omega, by go_num, by (show ListT _ _ _ _; exact ⟨by rw [HTK.out, List.map_append, List.map_singleton, HS2.out, HX.out]; exact hown2, fun h => by rw [HTK.out] at h; simp at h⟩), HB2.out.trans hb2⟩
            case measure => simp [intOf]; omega
          · have hX0 : bitsTo x k = [] := by cases h : bitsTo x k with | nil => rfl | cons a l => rw [h] at hE; simp at hE
            rw [hX0]
            clear hie
            cases emp
            · have hset2 : setI k false x = [98] := by rw [HSET.out, hE]; rfl
              have HS2 := Lib.hid hset2
              clear hB2 hO2 hset hlen9 hE hset2 hX0
              go_wp2_with (at_builtin; refine wpList_appT Try.underlying22 HO2.out.1 hB2s HL9.out rfl _ _ rfl (z := strB [98]) rfl rfl ?_; intro v2 w4 hown2 hg2 hb2 hsh2)
              go_roundw
              case rel => exact ⟨i + 1, by omega, by go_num, by (show ListT _ _ _ _; exact ⟨by rw [HTK.out, List.map_append, List.map_singleton, HS2.out]; exact hown2, fun h => by rw [HTK.out] at h; simp at h⟩), HB2.out.trans hb2⟩
              case measure => simp [intOf]; omega
            · have hset2 : setI k true x = [] := by rw [HSET.out, hE, hX0]; rfl
              have HS2 := Lib.hid hset2
              clear hB2 hO2 hset hlen9 hE hset2 hX0
              go_wp2_with (at_builtin; refine wpList_appT Try.underlying22 HO2.out.1 hB2s HL9.out rfl _ _ rfl (z := strB []) rfl rfl ?_; intro v2 w4 hown2 hg2 hb2 hsh2)
              go_roundw
              case rel => exact ⟨i + 1, by omega, by go_num, by (show ListT _ _ _ _; exact ⟨by rw [HTK.out, List.map_append, List.map_singleton, HS2.out]; exact hown2, fun h => by rw [HTK.out] at h; simp at h⟩), HB2.out.trans hb2⟩
              case measure => simp [intOf]; omega
    · obtain rfl : i = M := by omega
      rw [HF.out] at HO
      by_cases h1 : i < len
      · have h2 : ¬ i < m := by have := HMM.out; omega
        go_wp2_with fail
        go_ret
        exact ⟨_, rfl, HO.out, HB.out⟩
      · go_wp2_with fail
        go_ret
        exact ⟨_, rfl, HO.out, HB.out⟩
end Go.Proofs.Ytjdmmgaddbleeaa

/- Plain laws of falling sets: of a word, its inverse and what it is turned into; more nails; all nails. -/
namespace Go.Proofs.Ytjdmmgaddbleeaa
open Go.RowKit

theorem letOf_ok : ∀ n : Nat, 1 ≤ n → n ≤ 4 → ∀ c : UInt8, letter ((letOf n c).toNat : Int) = true ∧ nailB (letOf n c) < n := by
  intro n h1 h2
  obtain rfl | rfl | rfl | rfl : n = 1 ∨ n = 2 ∨ n = 3 ∨ n = 4 := by omega
  all_goals exact for_bytes (by decide +kernel)
theorem text_word {n m : Nat} (h1 : 1 ≤ n) (h2 : n ≤ 4) (l : List UInt8) : isWord (textL n m l) = true := by
  unfold textL
  refine List.all_eq_true.2 fun c hc => ?_
  obtain ⟨d, _, rfl⟩ := List.mem_map.1 hc
  exact (letOf_ok n h1 h2 d).1
theorem text_nail {n m : Nat} (h1 : 1 ≤ n) (h2 : n ≤ 4) {l : List UInt8} {c : UInt8} (hc : c ∈ textL n m l) : nailB c < n := by
  unfold textL at hc
  obtain ⟨d, _, rfl⟩ := List.mem_map.1 hc
  exact (letOf_ok n h1 h2 d).2
theorem text_len (n m : Nat) (l : List UInt8) : (textL n m l).length ≤ m := by
  unfold textL; rw [List.length_map, List.length_take]; omega
/-- few nails -/
theorem nails_few {n : Nat} {l : List UInt8} (h : ∀ c ∈ l, nailB c < n) : (strN (nailsOf l)).length ≤ n := by
  have e : strN (nailsOf l) = strTo (nailsOf l) (min n 26) := by
    unfold strN strTo
    congr 1
    have h2 : List.range 26 = List.range (min n 26) ++ (List.range (26 - min n 26)).map fun i => min n 26 + i := by
      rw [← List.range_add, show min n 26 + (26 - min n 26) = 26 by omega]
    rw [h2, List.filter_append]
    have h3 : ((List.range (26 - min n 26)).map fun i => min n 26 + i).filter (nailsOf l) = [] := by
      rw [List.filter_eq_nil_iff]
      intro a ha
      obtain ⟨i, hi, rfl⟩ := List.mem_map.1 ha
      rw [List.mem_range] at hi
      unfold nailsOf
      intro h4
      obtain ⟨c, hc, e⟩ := List.any_eq_true.1 h4
      have := h c hc
      have e2 : nailB c = min n 26 + i := by simpa using e
      omega
    rw [h3, List.append_nil]
  rw [e]
  have := strTo_len (nailsOf l) (min n 26)
  omega
theorem fallsP_marks {l t u : List UInt8} (h : ∀ c ∈ l, marksOf t (nailB c) = marksOf u (nailB c)) : fallsP l t = fallsP l u := by
  unfold fallsP
  rw [redL_congr h]
/-- what the falling sets are, with no word of the nails -/
theorem setsL_iff {l : List UInt8} {t : List UInt8} :
    t ∈ setsL l ↔ Rise t ∧ (∀ c ∈ t, smallB c) ∧ fallsP l t = true ∧ ∀ u, Rise u → (∀ c ∈ u, c ∈ t) → fallsP l u = true → u = t := by
  unfold setsL
  rw [mem_leastS (strN_rise _)]
  constructor
  · rintro ⟨h1, h2, h3, h4⟩
    exact ⟨h1, fun c hc => (mem_strN.1 (h2 c hc)).1, h3, h4⟩
  · rintro ⟨h1, h2, h3, h4⟩
    refine ⟨h1, ?_, h3, h4⟩
    have h5 : fallsP l (t.filter fun c => (strN (nailsOf l)).contains c) = fallsP l t := by
      apply fallsP_marks
      intro c hc
      rw [Bool.eq_iff_iff, mem_marks, mem_marks]
      constructor
      · rintro ⟨d, hd, e⟩
        exact ⟨d, (List.mem_filter.1 hd).1, e⟩
      · rintro ⟨d, hd, e⟩
        refine ⟨d, List.mem_filter.2 ⟨hd, ?_⟩, e⟩
        rw [List.contains_iff_mem, mem_strN]
        refine ⟨h2 d hd, ?_⟩
        unfold nailsOf
        rw [List.any_eq_true]
        exact ⟨c, hc, by simp; omega⟩
    have h6 := h4 _ (h1.filter _) (fun c hc => (List.mem_filter.1 hc).1) (h5.trans h3)
    intro c hc
    rw [← h6] at hc
    simpa using (List.mem_filter.1 hc).2
theorem setsL_asc (l : List UInt8) : Asc (setsL l) := sortS_asc _
theorem setsL_congr {a b : List UInt8} (h : ∀ t, fallsP a t = fallsP b t) : setsL a = setsL b := by
  refine asc_ext (setsL_asc a) (setsL_asc b) fun t => ?_
  rw [setsL_iff, setsL_iff, h]
  simp only [h]
theorem invL_empty {l : List UInt8} : (invL l).isEmpty = l.isEmpty := by
  unfold invL; cases l <;> simp
theorem falls_inv (l t : List UInt8) : fallsP (invL l) t = fallsP l t := by
  unfold fallsP
  rw [redL_keep, keep_inv, redW_inv, invL_empty, ← redL_keep]
theorem Eqv.conj {v u : List UInt8} : Eqv (v ++ u ++ invL v) [] ↔ Eqv u [] := by
  constructor
  · intro h
    have h1 : Eqv (invL v ++ (v ++ u ++ invL v) ++ v) (invL v ++ [] ++ v) := Eqv.right _ (Eqv.left _ h)
    have h2 : Eqv (invL v ++ [] ++ v) [] := by simpa using Eqv.inv_left v
    have h3 : Eqv u (invL v ++ (v ++ u ++ invL v) ++ v) := by
      have e1 : Eqv u (invL v ++ v ++ u) := by simpa using Eqv.right u (Eqv.inv_left v).symm
      have e2 : Eqv (invL v ++ v ++ u) (invL v ++ v ++ u ++ (invL v ++ v)) := by simpa using Eqv.left (invL v ++ v ++ u) (Eqv.inv_left v).symm
      have := e1.trans e2
      simpa using this
    exact h3.trans (h1.trans h2)
  · intro h
    have h1 : Eqv (v ++ u ++ invL v) (v ++ [] ++ invL v) := Eqv.right _ (Eqv.left _ h)
    have h2 : Eqv (v ++ [] ++ invL v) [] := by simpa using Eqv.inv_right v
    exact h1.trans h2
theorem eqv_empty {l : List UInt8} : (redW l).isEmpty = true ↔ Eqv l [] := by
  unfold Eqv
  rw [redW_nil]
  simp
theorem falls_conj (v u t : List UInt8) : fallsP (v ++ u ++ invL v) t = fallsP u t := by
  unfold fallsP
  rw [redL_keep, redL_keep, Bool.eq_iff_iff, eqv_empty, eqv_empty, keep_app, keep_app, keep_inv, Eqv.conj]
theorem sets_inv (l : List UInt8) : setsL (invL l) = setsL l := setsL_congr fun t => falls_inv l t
theorem sets_conj (v u : List UInt8) : setsL (v ++ u ++ invL v) = setsL u :=
  setsL_congr fun t => falls_conj v u t
theorem red_back (l : List UInt8) : redW (l ++ invL l) = [] := Eqv.inv_right l

/-- more nails -/
theorem falls_mono {l t u : List UInt8} (h : ∀ c ∈ t, c ∈ u) (hf : fallsP l t = true) : fallsP l u = true := by
  unfold fallsP at *
  have h1 : redL (marksOf t) l = [] := by simpa using hf
  rw [falls_more (f := marksOf t) (g := marksOf u) ?_ h1]
  · rfl
  · intro i hi
    rw [mem_marks] at hi ⊢
    obtain ⟨c, hc, e⟩ := hi
    exact ⟨c, h c hc, e⟩
theorem falls_all {l t : List UInt8} (h : ∀ c ∈ l, marksOf t (nailB c) = true) : fallsP l t = true := by
  unfold fallsP
  rw [redL_keep]
  have : keep (marksOf t) l = [] := by
    unfold keep
    rw [List.filter_eq_nil_iff]
    intro c hc
    simp [h c hc]
  rw [this]
  rfl

/- bits of ints -/
theorem bitI_iff {x : Int} {k : Nat} : bitI x k = true ↔ x / 2 ^ k % 2 = 1 := by
  unfold bitI
  rw [bne_iff_ne, ne_eq, ← Int.dvd_iff_tmod_eq_zero]
  omega
theorem bitI_mod (x : Int) {k : Nat} (h : k < 64) : bitI x k = (x % 2 ^ 64).toNat.testBit k := by
  rw [Bool.eq_iff_iff, bitI_iff, Nat.testBit_eq_decide_div_mod_eq, decide_eq_true_iff]
  obtain ⟨n, hn⟩ : ∃ n : Nat, (x % 2 ^ 64) = (n : Int) := ⟨(x % 2 ^ 64).toNat, by omega⟩
  rw [hn, Int.toNat_natCast]
  have hx : x = (n : Int) + 2 ^ k * (2 ^ (64 - k) * (x / 2 ^ 64)) := by
    have h1 : (2 : Int) ^ k * (2 ^ (64 - k) * (x / 2 ^ 64)) = 2 ^ 64 * (x / 2 ^ 64) := by
      rw [← Int.mul_assoc, ← Int.pow_add, show k + (64 - k) = 64 by omega]
    rw [h1, ← hn]
    have := Int.emod_add_mul_ediv x (2 ^ 64)
    omega
  have h2 : (2 : Int) ^ k ≠ 0 := by
    have : (0 : Int) < 2 ^ k := Int.pow_pos (by omega)
    omega
  rw [hx, Int.add_mul_ediv_left _ _ h2]
  obtain ⟨m, hm⟩ : ∃ m, (2 : Int) ^ (64 - k) * (x / 2 ^ 64) = 2 * m := ⟨2 ^ (63 - k) * (x / 2 ^ 64), by
    rw [← Int.mul_assoc, show (64 - k) = (63 - k) + 1 by omega, Int.pow_succ]
    congr 1
    omega⟩
  rw [hm]
  have h3 : (n : Int) / 2 ^ k = ((n / 2 ^ k : Nat) : Int) := by push_cast; rfl
  rw [h3]
  omega
theorem wrap_mod (n : Int) : IntKind.i64.wrap n % 2 ^ 64 = n % 2 ^ 64 := by
  simp only [IntKind.wrap, IntKind.bits, IntKind.signed, Bool.true_and]
  split <;> omega
theorem bitI_or (x y : Int) {k : Nat} (h : k < 64) : bitI (IntKind.i64.wrap ((BitVec.ofInt 64 x ||| BitVec.ofInt 64 y).toNat : Int)) k = (bitI x k || bitI y k) := by
  rw [bitI_mod _ h, wrap_mod, bitI_mod x h, bitI_mod y h, BitVec.toNat_or, BitVec.toNat_ofInt, BitVec.toNat_ofInt, ← Nat.testBit_or]
  congr 1
  have h1 : (x % 2 ^ 64).toNat < 2 ^ 64 := by omega
  have h2 : (y % 2 ^ 64).toNat < 2 ^ 64 := by omega
  have h3 := Nat.or_lt_two_pow h1 h2
  have e1 : ((2 ^ 64 : Nat) : Int) = 2 ^ 64 := by norm_cast
  rw [e1]
  generalize (x % 2 ^ 64).toNat ||| (y % 2 ^ 64).toNat = N at *
  omega
theorem setI_true {n : Nat} (h : n ≤ 26) (x : Int) : setI n true x = strN fun i => decide (i < n) && bitI x i := by
  unfold setI
  simp [bitsTo_strN x h]
theorem setI_more {n : Nat} (h : n ≤ 26) {x y : Int} (hm : ∀ k, k < n → bitI x k = true → bitI y k = true) : ∀ c ∈ setI n true x, c ∈ setI n true y := by
  intro c hc
  rw [setI_true h, mem_strN] at hc ⊢
  refine ⟨hc.1, ?_⟩
  have h2 := hc.2
  simp only [Bool.and_eq_true, decide_eq_true_iff] at h2 ⊢
  exact ⟨h2.1, hm _ h2.1 h2.2⟩
end Go.Proofs.Ytjdmmgaddbleeaa

/- An array of ints that came in, by value: opened. -/
namespace Go.Proofs.Ytjdmmgaddbleeaa
open Go.ChangeShapes Go.WideShapes Go.ChangeAt Go.RowKit

theorem open_i64s {H : Type} {enc : TypeId × Value → H} {P : Program} {W : World} {base b0 : Nat} {sp : Nat → Bool} {held : Bool} {r : Reach} {t e : TypeId} {n : Nat} {v : Value} {d : DataW H} {p : List MemPlace}
    (ht : P.underlying t = some (.array n e)) (he : P.underlying e = some (.int .i64)) (hce : P.cellsOf e = 1) (hct : P.cellsOf t = n)
    (hv : Value.okWide P W r b0 t v) (h : DataW.Trod enc P W base sp held t v d p) : ∃ zs : List Int, zs.length = n ∧ v = .agg (zs.map (Value.int .i64)).toArray ∧ ∀ z ∈ zs, (Lit.int .i64 z).wf = true := by
  simp only [Value.okWide, ht] at hv
  obtain ⟨cs, rfl, hsz, _⟩ := hv
  obtain ⟨l⟩ := cs
  obtain ⟨fuel, hf⟩ := h
  obtain ⟨xs, m, _, _, hl, hxl, hel⟩ := DataW.trod_array ht hf
  have hln : l.length = n := by simpa [hct] using hsz
  have key : ∀ i, i < n → ∃ z, l[i]? = some (.int .i64 z) ∧ (Lit.int .i64 z).wf = true := by
    intro i hi
    have h1 := hel i hi
    rw [hce, Nat.mul_one, List.getElem?_eq_getElem (by omega)] at h1
    obtain ⟨z, hz, _, hw⟩ := DataW.trod_int he h1
    refine ⟨z, ?_, hw⟩
    simp only [Value.cells] at hz
    have h2 : (List.take 1 (List.drop i l))[0]? = some (Value.int .i64 z) := by rw [hz]; rfl
    simpa using h2
  refine ⟨l.map fun v => match v with | .int _ z => z | _ => 0, by simpa using hln, ?_, ?_⟩
  · congr 1
    congr 1
    apply List.ext_getElem?
    intro i
    rw [List.map_map, List.getElem?_map]
    by_cases hi : i < n
    · obtain ⟨z, hz, _⟩ := key i hi
      rw [hz]; rfl
    · rw [List.getElem?_eq_none (by omega)]; rfl
  · intro z hz
    obtain ⟨v, hv, rfl⟩ := List.mem_map.1 hz
    obtain ⟨i, hi, e1⟩ := List.getElem_of_mem hv
    obtain ⟨z, h1, h2⟩ := key i (by omega)
    rw [List.getElem?_eq_getElem hi, e1] at h1
    cases h1
    exact h2
theorem list2 {l : List Int} (h : l.length = 2) : ∃ a b, l = [a, b] := by match l, h with | [a, b], _ => exact ⟨a, b, rfl⟩
theorem list3 {l : List Int} (h : l.length = 3) : ∃ a b c, l = [a, b, c] := by match l, h with | [a, b, c], _ => exact ⟨a, b, c, rfl⟩
end Go.Proofs.Ytjdmmgaddbleeaa

/- HangWires: the walk. -/
namespace Go.Proofs.Ytjdmmgaddbleeaa
open Go.RowKit

/-- one set of a number, as the law makes it -/
theorem sets_one (x : Int) (n : Nat) (emp : Bool) (W : World) (hn : n ≤ 26) :
    Calls Try.prog 18 #[.slice (some ⟨W.heap.size, 0, none⟩) 1 1, .int .i64 1, .int .i64 n, .bool emp] (W.alloc (.cells #[.int .i64 x] 3)) fun e w' =>
      ∃ b o c, e = .returned (.slice (some ⟨b, o, none⟩) 1 c) ∧ 1 ≤ c ∧ c ≤ 9223372036854775807 ∧ b < w'.heap.size ∧ w'.cell? ⟨b, o, none⟩ = some (.string (strB (setI n emp x))) ∧ Below W.heap.size W w' := by
  refine (sets_any _ [x] n 1 emp _ (Ints.lit W 3 [x] (by simp)) hn (by omega)).mono ?_
  rintro e w' ⟨u, rfl, hl, hb⟩
  have hb2 : Below W.heap.size W w' := ((Below.refl _ _).alloc (Nat.le_refl _) _).trans (hb.mono (by simp))
  have hs := OwnT.strs hl.1
  have e1 : setsI n 1 emp [x] = [setI n emp x] := rfl
  rw [e1] at hs
  obtain ⟨a, cap, rfl, ⟨h1, h2⟩, h⟩ := hs
  obtain ⟨b, o, rfl, hlt, hc⟩ := h (by simp)
  exact ⟨b, o, cap, rfl, by simpa using h1, h2, hlt, hc 0 _ rfl, hb2⟩

theorem strB_app (a b : List UInt8) : strB a ++ strB b = strB (a ++ b) := by apply str_eq; rw [bts_add]

set_option maxRecDepth 100000 in
set_option maxHeartbeats 4000000 in
theorem HangWires_any (s t : ByteArray) (x y : Int) (w : World) (hs : s.size ≤ 9223372036854775807) (ht : t.size ≤ 9223372036854775807) :
    Calls Try.prog 6 #[.string s, .string t, .agg #[.int .i64 x, .int .i64 y]] w fun e w' => e = .returned (.bool true) ∧ Below w.heap.size w w' := by
  have hrU : ∀ W, Calls Try.prog 16 #[.string s, .int .i64 4, .int .i64 40] W fun e w' => e = .returned (.string (strB (textL 4 40 (bts s)))) ∧ Below W.heap.size W w' := fun W => text_any s 4 40 W hs (by omega) (by omega) (by omega)
  have hrV : ∀ W, Calls Try.prog 16 #[.string t, .int .i64 4, .int .i64 12] W fun e w' => e = .returned (.string (strB (textL 4 12 (bts t)))) ∧ Below W.heap.size W w' := fun W => text_any t 4 12 W ht (by omega) (by omega) (by omega)
  have hUw := text_word (n := 4) (m := 40) (by omega) (by omega) (bts s)
  have hVw := text_word (n := 4) (m := 12) (by omega) (by omega) (bts t)
  have hUn := fun c => text_nail (n := 4) (m := 40) (l := bts s) (c := c) (by omega) (by omega)
  have hVn := fun c => text_nail (n := 4) (m := 12) (l := bts t) (c := c) (by omega) (by omega)
  have hUl := text_len 4 40 (bts s)
  have hVl := text_len 4 12 (bts t)
  generalize textL 4 40 (bts s) = U at *
  generalize textL 4 12 (bts t) = V at *
  have few : ∀ l : List UInt8, (∀ c ∈ l, nailB c < 4) → (strN (nailsOf l)).length ≤ 10 := fun l h => by have := nails_few h; omega
  have inv4 : ∀ l : List UInt8, (∀ c ∈ l, nailB c < 4) → ∀ c ∈ invL l, nailB c < 4 := by
    intro l h c hc
    unfold invL at hc
    obtain ⟨d, hd, rfl⟩ := List.mem_map.1 (List.mem_reverse.1 hc)
    rw [nail_inv]; exact h d hd
  have app4 : ∀ l k : List UInt8, (∀ c ∈ l, nailB c < 4) → (∀ c ∈ k, nailB c < 4) → ∀ c ∈ l ++ k, nailB c < 4 := by
    intro l k h1 h2 c hc
    rcases List.mem_append.1 hc with h | h
    · exact h1 c h
    · exact h2 c h
  have hil : ∀ l : List UInt8, (invL l).length = l.length := fun l => by unfold invL; simp
  have zU := word_zero hUw (by omega)
  have zV := word_zero hVw (by omega)
  have zUi := word_zero (invL_word hUw) (by rw [hil]; omega)
  have zC := word_zero (isWord_app (isWord_app hVw hUw) (invL_word hVw)) (by simp only [List.length_append, hil]; omega)
  have zR := word_zero (isWord_app hUw (invL_word hUw)) (by simp only [List.length_append, hil]; omega)
  have hiU := fun W => Inverse_any (strB U) W (by rw [size_str]; omega)
  have hiV := fun W => Inverse_any (strB V) W (by rw [size_str]; omega)
  have hsU : ∀ W, Calls Try.prog 11 #[.string (strB U)] W fun e w' => ∃ u, e = .returned (.tuple #[u, .int .i64 0]) ∧ Strs w' u ((setsL U).map strB) ∧ Below W.heap.size W w' := fun W => Sets_any (strB U) W zU (few _ hUn)
  have hsI : ∀ W, Calls Try.prog 11 #[.string (strB (invL U))] W fun e w' => ∃ u, e = .returned (.tuple #[u, .int .i64 0]) ∧ Strs w' u ((setsL U).map strB) ∧ Below W.heap.size W w' := fun W => by
    rw [← sets_inv U]; exact Sets_any (strB (invL U)) W zUi (few _ (inv4 _ hUn))
  have hsC : ∀ W, Calls Try.prog 11 #[.string (strB (V ++ U ++ invL V))] W fun e w' => ∃ u, e = .returned (.tuple #[u, .int .i64 0]) ∧ Strs w' u ((setsL U).map strB) ∧ Below W.heap.size W w' := fun W => by
    rw [← sets_conj V U]; exact Sets_any (strB (V ++ U ++ invL V)) W zC (few _ (app4 _ _ (app4 _ _ hVn hUn) (inv4 _ hVn)))
  have hrd := fun W => Reduce_any (strB (U ++ invL U)) W (by rw [size_str]; simp only [List.length_append, hil]; omega)
  rw [zU, if_pos rfl] at hiU
  rw [zV, if_pos rfl] at hiV
  rw [zR, if_pos rfl] at hrd
  simp only [bts_str] at hiU hiV hrd
  rw [red_back, show strB [] = (⟨#[]⟩ : ByteArray) from rfl] at hrd
  have hf1 := fun W => Falls_any (strB U) (strB (setI 4 true x)) W (by rw [size_str]; have := setI_len 4 true x; omega) zU (setI_set (by omega) true x)
  obtain ⟨z, hz⟩ : ∃ z, z = bits BinOp.or IntKind.i64 x y := ⟨_, rfl⟩
  have hf2 := fun W => Falls_any (strB U) (strB (setI 4 true z)) W (by rw [size_str]; have := setI_len 4 true z; omega) zU (setI_set (by omega) true z)
  have hf3 := fun W => Falls_any (strB U) ⟨#[97, 98, 99, 100]⟩ W (by decide) zU (by decide)
  have hall : (redL (marksOf (bts ⟨#[97, 98, 99, 100]⟩)) U).isEmpty = true := by
    refine falls_all (t := [97, 98, 99, 100]) fun c hc => ?_
    have h4 := hUn c hc
    rw [mem_marks]
    obtain h | h | h | h : nailB c = 0 ∨ nailB c = 1 ∨ nailB c = 2 ∨ nailB c = 3 := by omega
    · exact ⟨97, by simp, by rw [h]; rfl⟩
    · exact ⟨98, by simp, by rw [h]; rfl⟩
    · exact ⟨99, by simp, by rw [h]; rfl⟩
    · exact ⟨100, by simp, by rw [h]; rfl⟩
  have hmono : fallsP U (setI 4 true x) = true → fallsP U (setI 4 true z) = true := falls_mono (setI_more (by omega) fun k hk hb => by rw [hz]; show bitI (IntKind.i64.wrap ((BitVec.ofInt 64 x ||| BitVec.ofInt 64 y).toNat : Int)) k = true; rw [bitI_or x y (by omega), hb]; rfl)
  simp only [bts_str] at hf1 hf2 hf3
  change ∀ W, Calls _ _ _ W fun e w' => e = .returned (.tuple #[.bool (fallsP U (setI 4 true x)), .int .i64 0]) ∧ _ at hf1
  change ∀ W, Calls _ _ _ W fun e w' => e = .returned (.tuple #[.bool (fallsP U (setI 4 true z)), .int .i64 0]) ∧ _ at hf2
  rw [hall] at hf3
  have hset1 : ∀ W : World, Calls Try.prog 18 #[.slice (some ⟨W.heap.size, 0, none⟩) 1 1, .int .i64 1, .int .i64 4, .bool true] (W.alloc (.cells #[.int .i64 x] 3)) fun e w' =>
      ∃ b o c, e = .returned (.slice (some ⟨b, o, none⟩) 1 c) ∧ 1 ≤ c ∧ c ≤ 9223372036854775807 ∧ b < w'.heap.size ∧ w'.cell? ⟨b, o, none⟩ = some (.string (strB (setI 4 true x))) ∧ Below W.heap.size W w' := fun W => sets_one x 4 true W (by omega)
  have hset2 : ∀ W : World, Calls Try.prog 18 #[.slice (some ⟨W.heap.size, 0, none⟩) 1 1, .int .i64 1, .int .i64 4, .bool true] (W.alloc (.cells #[.int .i64 z] 3)) fun e w' =>
      ∃ b o c, e = .returned (.slice (some ⟨b, o, none⟩) 1 c) ∧ 1 ≤ c ∧ c ≤ 9223372036854775807 ∧ b < w'.heap.size ∧ w'.cell? ⟨b, o, none⟩ = some (.string (strB (setI 4 true z))) ∧ Below W.heap.size W w' := fun W => sets_one z 4 true W (by omega)
  generalize fallsP U (setI 4 true x) = p at *
  generalize fallsP U (setI 4 true z) = q at *
  generalize strB (setI 4 true x) = P1 at *
  generalize strB (setI 4 true z) = P2 at *
  have eC : strB (V ++ U ++ invL V) = strB V ++ strB U ++ strB (invL V) := by rw [strB_app, strB_app]
  have eR : strB (U ++ invL U) = strB U ++ strB (invL U) := by rw [strB_app]
  rw [eC] at hsC
  rw [eR] at hrd
  have sU : (strB U).size ≤ 40 := by rw [size_str]; omega
  have sUi : (strB (invL U)).size ≤ 40 := by rw [size_str, hil]; omega
  have sV : (strB V).size ≤ 12 := by rw [size_str]; omega
  have sVi : (strB (invL V)).size ≤ 12 := by rw [size_str, hil]; omega
  generalize (setsL U).map strB = L at *
  generalize strB U = SU at *
  generalize strB (invL U) = SUi at *
  generalize strB V = SV at *
  generalize strB (invL V) = SVi at *
  have n1 : ¬ 9223372036854775807 < SV.size + SU.size := by omega
  have n2 : ¬ 9223372036854775807 < SV.size + SU.size + SVi.size := by omega
  have n3 : ¬ 9223372036854775807 < SU.size + SUi.size := by omega
  have HRU := Lib.hid hrU
  have HRV := Lib.hid hrV
  have HIU := Lib.hid hiU
  have HIV := Lib.hid hiV
  have HSU := Lib.hid hsU
  have HSI := Lib.hid hsI
  have HSC := Lib.hid hsC
  have HRD := Lib.hid hrd
  have HF1 := Lib.hid hf1
  have HF2 := Lib.hid hf2
  have HF3 := Lib.hid hf3
  have HS1 := Lib.hid hset1
  have HS2 := Lib.hid hset2
  have HM := Lib.hid hmono
  have HZ := Lib.hid hz
  clear hrU hrV hiU hiV hsU hsI hsC hrd hf1 hf2 hf3 hset1 hset2 hmono hz hall few inv4 app4 hil zU zV zUi zC zR hUw hVw hUn hVn hUl hVl eC eR
  have hb0 : Below w.heap.size w (w.alloc (.cells #[.int .i64 x, .int .i64 y] 48)) := (Below.refl _ _).alloc (Nat.le_refl _) _
  have HB0 := Lib.hid hb0
  have hbx := Blk.new w 48 [.int .i64 x, .int .i64 y]
  have HBX := Lib.hid hbx
  clear hb0 hbx
  go_enter Try.func6, Try.ntmps6
  go_wp2_with (first
    | (go_at_call 16; ((with_reducible refine (HRU.out _).mono ?_); rintro e w1 ⟨rfl, hb1⟩))
    | (go_at_call 16; ((with_reducible refine (HRV.out _).mono ?_); rintro e w2 ⟨rfl, hb2⟩))
    | (go_at_call 23; ((with_reducible refine (HIU.out _).mono ?_); rintro e w3 ⟨rfl, hb3⟩))
    | (go_at_call 23; ((with_reducible refine (HIV.out _).mono ?_); rintro e w4 ⟨rfl, hb4⟩)))
  refine (HSU.out _).mono ?_
  rintro e w5 ⟨u5, rfl, hst5, hb5⟩
  go_wp2_with (go_at_call 11; ((with_reducible refine (HSI.out _).mono ?_)))
  rintro e w6 ⟨u6, rfl, hst6, hb6⟩
  go_wp2_with (go_at_call 11; ((with_reducible refine (HSC.out _).mono ?_)))
  rintro e w7 ⟨u7, rfl, hst7, hb7⟩
  go_wp2_with (go_at_call 22; ((with_reducible refine (HRD.out _).mono ?_); rintro e w8 ⟨rfl, hb8⟩))
  have hb38 := hb3.trans ((hb4.trans ((hb5.trans ((hb6.trans ((hb7.trans (hb8.mono hb7.size)).mono hb6.size)).mono hb5.size)).mono hb4.size)).mono hb3.size)
  have hb18 := hb1.trans ((hb2.trans (hb38.mono hb2.size)).mono hb1.size)
  have hb68 := hb6.trans ((hb7.trans (hb8.mono hb7.size)).mono hb6.size)
  have hb78 := hb7.trans (hb8.mono hb7.size)
  have hm56 := same_any u5 u6 _ _ w8 (hst5.keep hb68) (hst6.keep hb78)
  have hm57 := fun n => same_any u5 u7 _ _ (w8.drewN n) ((hst5.keep hb68).keep ((Below.refl _ _).drewN' n)) ((hst7.keep hb8).keep ((Below.refl _ _).drewN' n))
  rw [decide_eq_true rfl] at hm56
  simp only [decide_true] at hm57
  have HM56 := Lib.hid hm56
  have HM57 := Lib.hid hm57
  have HB18 := Lib.hid hb18
  clear hb1 hb2 hb3 hb4 hb5 hb6 hb7 hb8 hb38 hb18 hb68 hb78 hm56 hm57 hst5 hst6 hst7
  refine HM56.out.mono ?_
  rintro e w9 ⟨rfl, n9, rfl⟩
  go_wp2_with (go_at_call 14; refine (HM57.out _).mono ?_)
  rintro e w10 ⟨rfl, n10, rfl⟩
  have hb19 := (HB18.out.drewN' n9).drewN' n10
  generalize (w8.drewN n9).drewN n10 = W9 at *
  have hcx := (hb19.cell (p := ⟨w.heap.size, 0, none⟩) (by simp)).trans (HBX.out.cell (j := 0) rfl)
  have hcy := (hb19.cell (p := ⟨w.heap.size, 1, none⟩) (by simp)).trans (HBX.out.cell (j := 1) rfl)
  have hbW := HB0.out.trans (hb19.mono (by simp))
  have hlW : w.heap.size < W9.heap.size := by have := hb19.size; simp at this; omega
  have HBW := Lib.hid hbW
  have HLW := Lib.hid hlW
  have HCX := Lib.hid hcx
  have HCY := Lib.hid hcy
  clear hb19 hbW hlW hcy HB18 HM56 HM57
  go_wp2_with (go_at_call 18; (refine (HS1.out _).mono ?_))
  rintro e w11 ⟨b1, o1, c1, rfl, hc11, hc12, hl1, hcl1, hb11⟩
  have hcx1 := (hb11.cell (p := ⟨w.heap.size, 0, none⟩) HLW.out).trans HCX.out
  have hcy1 := (hb11.cell (p := ⟨w.heap.size, 1, none⟩) HLW.out).trans HCY.out
  clear hcx
  have HB11 := Lib.hid (HBW.out.trans (hb11.mono HBW.out.size))
  clear hb11
  go_wp2_with fail
  rw [← HZ.out]
  refine (HS2.out _).mono ?_
  rintro e w12 ⟨b2, o2, c2, rfl, hc21, hc22, hl2, hcl2, hb12⟩
  have HB12 := Lib.hid (HB11.out.trans (hb12.mono HB11.out.size))
  clear hb12 hcx1 hcy1
  have hpq := HM.out
  have HAW := Lib.hid awake_any
  cases p
  · go_wp2_with (first
      | (go_at_call 25; ((with_reducible refine (HF1.out _).mono ?_); rintro e w13 ⟨rfl, hb13⟩))
      | (go_at_call 25; ((with_reducible refine (HF2.out _).mono ?_); rintro e w14 ⟨rfl, hb14⟩))
      | (go_at_call 25; ((with_reducible refine (HF3.out _).mono ?_); rintro e w15 ⟨rfl, hb15⟩))
      | (go_at_call 17; refine (HAW.out _).mono ?_; rintro e w16 ⟨rfl, hb16⟩))
    go_ret
    have h1 := HB12.out.trans (hb13.mono HB12.out.size)
    have h2 := h1.trans (hb14.mono h1.size)
    have h3 := h2.trans (hb15.mono h2.size)
    exact ⟨rfl, h3.trans (hb16.mono h3.size)⟩
  · obtain rfl := hpq rfl
    go_wp2_with (first
      | (go_at_call 25; ((with_reducible refine (HF1.out _).mono ?_); rintro e w13 ⟨rfl, hb13⟩))
      | (go_at_call 25; ((with_reducible refine (HF2.out _).mono ?_); rintro e w14 ⟨rfl, hb14⟩))
      | (go_at_call 25; ((with_reducible refine (HF3.out _).mono ?_); rintro e w15 ⟨rfl, hb15⟩))
      | (go_at_call 17; refine (HAW.out _).mono ?_; rintro e w16 ⟨rfl, hb16⟩))
    go_ret
    have h1 := HB12.out.trans (hb13.mono HB12.out.size)
    have h2 := h1.trans (hb14.mono h1.size)
    have h3 := h2.trans (hb15.mono h2.size)
    exact ⟨rfl, h3.trans (hb16.mono h3.size)⟩
end Go.Proofs.Ytjdmmgaddbleeaa
