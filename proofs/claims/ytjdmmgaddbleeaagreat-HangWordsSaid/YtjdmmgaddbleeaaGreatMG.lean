/- The law's text: the walk. -/
import Derived.Test.YtjdmmgaddbleeaaGreatMF
namespace Go.Proofs.YtjdmmgaddbleeaaGreat
open Go.RowKit

/-- a letter of any byte -/
def letOf (n : Nat) (c : UInt8) : UInt8 := if c.toNat % (2 * n) < n then UInt8.ofNat (97 + c.toNat % (2 * n)) else UInt8.ofNat (65 + (c.toNat % (2 * n) - n))
def textL (n m : Nat) (l : List UInt8) : List UInt8 := (l.take m).map (letOf n)
theorem ofNat_nat {k : Nat} (h : k < 256) : ((UInt8.ofNat k).toNat : Int) = (k : Int) := by
  have : (UInt8.ofNat k).toNat = k % 256 := rfl
  rw [this]; omega
theorem conv_one {w : World} {c : UInt8} : (convert 50 9 (.slice (some ⟨w.heap.size, 0, none⟩) 1 1)).run Tryz.prog (w.alloc (.cells #[.int .u8 (c.toNat : Int)] 5)) = .ok (.string (strB [c])) (w.alloc (.cells #[.int .u8 (c.toNat : Int)] 5)) := by
  have h : OwnB (w.alloc (.cells #[.int .u8 (c.toNat : Int)] 5)) 0 (.slice (some ⟨w.heap.size, 0, none⟩) 1 1) [c] :=
    .inr ⟨w.heap.size, 1, _, rfl, Nat.zero_le _, heap_alloc_new w _, by simp, by unfold maxLen; omega, by simp, by simp [B8s]⟩
  exact conv_own h

set_option maxRecDepth 100000 in
set_option maxHeartbeats 2000000 in
theorem text_any (s : ByteArray) (n m : Nat) (w : World) (hs : s.size ≤ 9223372036854775807) (hn1 : 1 ≤ n) (hn2 : n ≤ 26) (hm : m ≤ 1000) :
    Calls Tryz.prog 15 #[.string s, .int .i64 n, .int .i64 m] w fun e w' => e = .returned (.string (strB (textL n m (bts s)))) ∧ Below w.heap.size w w' := by
  obtain ⟨M, hM⟩ : ∃ M, min s.size m = M := ⟨_, rfl⟩
  have hfin : ((bts s).take M).map (letOf n) = textL n m (bts s) := by
    unfold textL
    rw [← hM]
    congr 1
    by_cases h : s.size ≤ m
    · rw [Nat.min_eq_left h, ← bts_len, List.take_length, List.take_of_length_le (by rw [bts_len]; exact h)]
    · rw [Nat.min_eq_right (by omega)]
  generalize textL n m (bts s) = F at *
  have HF := Lib.hid hfin
  have hMs : M ≤ s.size := by omega
  have hMm : M ≤ m := by omega
  have HMM := Lib.hid hM
  clear hfin hM
  go_enter Tryz.func15, Tryz.ntmps15
  go_wp2_with fail
  go_loopw [7, 8] (fun ov iv wr => ∃ j : Nat, j ≤ M ∧ iv = .int .i64 j ∧ ov = .string (strB (((bts s).take j).map (letOf n))) ∧ Hid (Below w.heap.size w wr)) (fun _ iv _ => M - (intOf iv).toNat)
  case atStart => exact ⟨0, by omega, rfl, rfl, (show Hid _ from Below.refl _ _)⟩
  case round =>
    obtain ⟨j, hj, rfl, rfl, HB⟩ := hrel
    by_cases hlt : j < M
    · have hjs : j < s.size := by omega
      have hjm : j < m := by omega
      have htk : ((bts s).take (j + 1)).map (letOf n) = ((bts s).take j).map (letOf n) ++ [letOf n (s[j]'hjs)] := by rw [take_bts hjs]; simp
      have hcat : strB (((bts s).take j).map (letOf n)) ++ strB [letOf n (s[j]'hjs)] = strB (((bts s).take (j + 1)).map (letOf n)) := by
        apply str_eq; rw [bts_add, htk]
      have hsz : (strB (((bts s).take j).map (letOf n))).size ≤ 1000 := by rw [size_str, List.length_map, List.length_take]; omega
      have hcv := fun c => conv_one (w := wr) (c := c)
      obtain ⟨x, hx⟩ : ∃ x, (s[j]'hjs).toNat = x := ⟨_, rfl⟩
      obtain ⟨r, hr⟩ : ∃ r, x % (2 * n) = r := ⟨_, rfl⟩
      have hxl : x < 256 := by rw [← hx]; exact UInt8.toNat_lt _
      have hrl : r < 2 * n := by rw [← hr]; exact Nat.mod_lt _ (by omega)
      have hlo : letOf n (s[j]'hjs) = if r < n then UInt8.ofNat (97 + r) else UInt8.ofNat (65 + (r - n)) := by unfold letOf; rw [hx, hr]
      have hl1 : (strB [letOf n (s[j]'hjs)]).size = 1 := rfl
      have hrem : Int.tmod (x : Int) (2 * (n : Int)) = (r : Int) := by rw [← hr]; rfl
      have hrem2 : (x : Int) % (2 * (n : Int)) = (r : Int) := by rw [← hr]; push_cast; rfl
      have hxi : ((s[j]'hjs).toNat : Int) = (x : Int) := by rw [hx]
      clear hr
      by_cases hrn : r < n
      · rw [if_pos hrn] at hlo
        have hv := ofNat_nat (k := 97 + r) (by omega)
        have hcv1 := hcv (letOf n (s[j]'hjs))
        rw [hlo, hv, show ((97 + r : Nat) : Int) = 97 + (r : Int) by omega] at hcv1
        rw [hlo] at hcat hl1
        generalize hX : strB (((bts s).take j).map (letOf n)) = X at *
        generalize strB [UInt8.ofNat (97 + r)] = L at *
        have HC := Lib.hid hcat
        clear hcv hlo hv hcat htk hx hX
        go_wp2_with fail
        go_roundw
        case rel => exact ⟨j + 1, by omega, by go_num, by rw [HC.out], HB.out.alloc HB.out.size _⟩
        case measure => simp [intOf]; omega
      · rw [if_neg hrn] at hlo
        have hv := ofNat_nat (k := 65 + (r - n)) (by omega)
        have hcv1 := hcv (letOf n (s[j]'hjs))
        rw [hlo, hv, show ((65 + (r - n) : Nat) : Int) = 65 + ((r : Int) - (n : Int)) by omega] at hcv1
        rw [hlo] at hcat hl1
        generalize hX : strB (((bts s).take j).map (letOf n)) = X at *
        generalize strB [UInt8.ofNat (65 + (r - n))] = L at *
        have HC := Lib.hid hcat
        clear hcv hlo hv hcat htk hx hX
        go_wp2_with fail
        go_roundw
        case rel => exact ⟨j + 1, by omega, by go_num, by rw [HC.out], HB.out.alloc HB.out.size _⟩
        case measure => simp [intOf]; omega
    · obtain rfl : j = M := by omega
      have hend : ¬ (j < s.size ∧ j < m) := by have := HMM.out; omega
      rw [HF.out]
      by_cases h1 : j < s.size
      · have h2 : ¬ j < m := by omega
        go_wp2_with fail
        go_ret
        exact ⟨rfl, HB.out⟩
      · go_wp2_with fail
        go_ret
        exact ⟨rfl, HB.out⟩
end Go.Proofs.YtjdmmgaddbleeaaGreat

/- The law's sets: the walk. -/
namespace Go.Proofs.YtjdmmgaddbleeaaGreat
open Go.RowKit

/-- what insert needs of its list: one that the caller made, nil if it is empty -/
def ListT (w : World) (base : Nat) (v : Value) (ss : List (List UInt8)) : Prop := OwnT w base v (ss.map strB) ∧ (ss = [] → v = .slice none 0 0)
theorem ListT.shape {w : World} {base : Nat} {v : Value} {ss : List (List UInt8)} (h : ListT w base v ss) {n : Nat} (hn : ss.length = n) : ∃ a c, v = .slice a n c ∧ n ≤ c ∧ c ≤ 9223372036854775807 ∧
    (0 < n → ∃ g, a = some ⟨g, 0, none⟩ ∧ g < w.heap.size) ∧ (n = 0 → a = none ∧ c = 0) ∧ (∀ j t, ss[j]? = some t → ∃ g, a = some ⟨g, 0, none⟩ ∧ w.cell? ⟨g, j, none⟩ = some (.string (strB t))) := by
  subst hn
  rcases id h.1.2 with ⟨rfl, hz⟩ | ⟨g, cap, cur, rfl, hb, hg, hn, hm, hc, ht⟩
  · rw [List.length_map] at hz
    exact ⟨none, 0, by rw [hz], by omega, by omega, fun h => by omega, fun _ => ⟨rfl, rfl⟩, fun j t hj => by rw [List.eq_nil_of_length_eq_zero hz] at hj; simp at hj⟩
  · rw [List.length_map] at hn
    refine ⟨some ⟨g, 0, none⟩, cap, by rw [List.length_map], hn, by unfold maxLen at hm; omega, fun _ => ⟨g, rfl, (Array.getElem?_eq_some_iff.1 hg).1⟩, fun h0 => ?_, fun j t hj => ⟨g, rfl, ?_⟩⟩
    · have := h.2 (List.eq_nil_of_length_eq_zero h0)
      simp at this
    · obtain ⟨hjl, _⟩ := List.getElem?_eq_some_iff.1 hj
      rw [World.ownsRow.cellAt h.1 j (by rw [List.length_map]; omega), List.getElem?_map, List.getElem?_map, hj]
      rfl
theorem str_inj {a b : List UInt8} (h : strB a = strB b) : a = b := by
  have := congrArg bts h
  exact this

theorem OwnT.mono {w : World} {base base' : Nat} {v : Value} {ss : List ByteArray} (h : OwnT w base v ss) (hb : base' ≤ base) : OwnT w base' v ss :=
  ⟨h.1, h.2.imp id fun ⟨g, cap, cur, h1, h2, h3⟩ => ⟨g, cap, cur, h1, Nat.le_trans hb h2, h3⟩⟩

theorem take_snoc' {α : Type} {l : List α} {k : Nat} {x : α} (h : l[k]? = some x) : l.take (k + 1) = l.take k ++ [x] := by
  rw [List.take_add_one, h]; rfl
/-- whether a number has a bit -/
def bitI (x : Int) (k : Nat) : Bool := (x / 2 ^ k).tmod 2 != 0
def bitsTo (x : Int) (n : Nat) : List UInt8 := ((List.range n).filter (bitI x)).map letB
/-- the set that a number tells -/
def setI (n : Nat) (emp : Bool) (x : Int) : List UInt8 := if (bitsTo x n).isEmpty && !emp then [98] else bitsTo x n
def setsI (n m : Nat) (emp : Bool) (zs : List Int) : List (List UInt8) := (zs.take m).map (setI n emp)
theorem bitsTo_succ (x : Int) (k : Nat) : bitsTo x (k + 1) = bitsTo x k ++ if bitI x k = true then [letB k] else [] := by
  unfold bitsTo
  rw [List.range_succ, List.filter_append, List.map_append]
  congr 1
  cases h : bitI x k <;> simp [h]
theorem bitsTo_len (x : Int) (k : Nat) : (bitsTo x k).length ≤ k := by
  unfold bitsTo
  rw [List.length_map]
  have := List.length_filter_le (bitI x) (List.range k)
  simpa using this
theorem bitsTo_strN (x : Int) {n : Nat} (h : n ≤ 26) : bitsTo x n = strN fun i => decide (i < n) && bitI x i := by
  unfold bitsTo strN
  congr 1
  have h2 : List.range 26 = List.range n ++ (List.range (26 - n)).map fun i => n + i := by
    rw [← List.range_add, show n + (26 - n) = 26 by omega]
  rw [h2, List.filter_append]
  have h3 : ((List.range (26 - n)).map fun i => n + i).filter (fun i => decide (i < n) && bitI x i) = [] := by
    rw [List.filter_eq_nil_iff]
    intro a ha
    obtain ⟨i, _, rfl⟩ := List.mem_map.1 ha
    simp; omega
  rw [h3, List.append_nil]
  apply List.filter_congr
  intro i hi
  rw [List.mem_range] at hi
  simp [hi]
theorem setI_set {n : Nat} (h : n ≤ 26) (emp : Bool) (x : Int) : isSet 0 (setI n emp x) = true := by
  unfold setI
  split
  · decide
  · rw [bitsTo_strN x h]; exact strN_set _
theorem setI_ne (n : Nat) (x : Int) : setI n false x ≠ [] := by
  unfold setI
  split
  · simp
  · rename_i h
    intro e
    rw [e] at h
    simp at h
theorem setI_len (n : Nat) (emp : Bool) (x : Int) : (setI n emp x).length ≤ n + 1 := by
  unfold setI
  have := bitsTo_len x n
  split
  · simp
  · omega

set_option maxRecDepth 100000 in
set_option maxHeartbeats 4000000 in
theorem sets_any (v : Value) (zs : List Int) (n m : Nat) (emp : Bool) (w : World) (hv : Ints w v zs) (hn : n ≤ 26) (hm : m ≤ 1000) :
    Calls Tryz.prog 16 #[v, .int .i64 m, .int .i64 n, .bool emp] w fun e w' => ∃ u, e = .returned u ∧ ListT w' w.heap.size u (setsI n m emp zs) ∧ Below w.heap.size w w' := by
  obtain ⟨a, len, cap, rfl, HLn, hlen⟩ := hv.open
  obtain ⟨M, hM⟩ : ∃ M, min len m = M := ⟨_, rfl⟩
  have hfin : (zs.take M).map (setI n emp) = setsI n m emp zs := by
    unfold setsI
    rw [← hM]
    congr 1
    by_cases h : len ≤ m
    · rw [Nat.min_eq_left h, ← HLn.out, List.take_length, List.take_of_length_le (by rw [HLn.out]; exact h)]
    · rw [Nat.min_eq_right (by omega)]
  generalize setsI n m emp zs = F at *
  have HF := Lib.hid hfin
  have hMs : M ≤ len := by omega
  have hMm : M ≤ m := by omega
  have HMM := Lib.hid hM
  have HV := Lib.hid hv
  clear hfin hM hv
  go_enter Tryz.func16, Tryz.ntmps16
  go_wp2_with fail
  go_loopw [9, 10] (fun ov iv wr => ∃ i : Nat, i ≤ M ∧ iv = .int .i64 i ∧ Hid (ListT wr w.heap.size ov ((zs.take i).map (setI n emp))) ∧ Hid (Below w.heap.size w wr)) (fun _ iv _ => M - (intOf iv).toNat)
  case atStart => exact ⟨0, by omega, rfl, (show Hid (ListT _ _ _ _) from ⟨World.ownsRow_nil _ _ _ _, fun _ => rfl⟩), (show Hid _ from Below.refl _ _)⟩
  case round =>
    obtain ⟨i, hi, rfl, HO, HB⟩ := hrel
    obtain ⟨w2, rfl⟩ : ∃ w2, w2 = wr := ⟨_, rfl⟩
    by_cases hlt : i < M
    · have hil : i < len := by omega
      have him : i < m := by omega
      obtain ⟨b, o, x, rfl, hx, hcell0⟩ := HV.out.at_ hil
      have hbx : b < w.heap.size := by
        obtain ⟨a', cap', hv', _, h⟩ := HV.out
        obtain ⟨b', o', e, hlt', _⟩ := h (by have := HLn.out; omega)
        simp at hv'
        rw [e] at hv'
        simp at hv'
        omega
      have hcell := (HB.out.cell (p := ⟨b, o + i, none⟩) hbx).trans hcell0
      have htk : (zs.take (i + 1)).map (setI n emp) = (zs.take i).map (setI n emp) ++ [setI n emp x] := by rw [take_snoc' hx.out]; simp
      have HTK := Lib.hid htk
      have HCELL := Lib.hid hcell
      have hbw : b < w2.heap.size := Nat.lt_of_lt_of_le hbx HB.out.size
      clear htk hcell0 hcell hx
      go_wp2_with fail
      go_loopw [11, 12] (fun sv kv wx => ∃ k : Nat, k ≤ n ∧ kv = .int .i64 k ∧ sv = .string (strB (bitsTo x k)) ∧ Hid (Below w2.heap.size w2 wx)) (fun _ kv _ => n - (intOf kv).toNat)
      case atStart => exact ⟨0, by omega, rfl, rfl, (show Hid _ from Below.refl _ _)⟩
      case round =>
        obtain ⟨k, hk, rfl, rfl, HBx⟩ := hrel
        have hcx := (HBx.out.cell (p := ⟨b, o + i, none⟩) hbw).trans HCELL.out
        by_cases hlt2 : k < n
        · have hk26 : k < 26 := by omega
          have hsu := bitsTo_succ x k
          have hsz : (strB (bitsTo x k)).size ≤ 26 := by rw [size_str]; have := bitsTo_len x k; omega
          have hln := letB_nat hk26
          have hcv := conv_one (w := wr) (c := letB k)
          rw [hln, show ((97 + k : Nat) : Int) = 97 + (k : Int) by omega] at hcv
          have hcat : strB (bitsTo x k) ++ strB [letB k] = strB (bitsTo x k ++ [letB k]) := by apply str_eq; rw [bts_add]
          have hl1 : (strB [letB k]).size = 1 := rfl
          have hbit : ((x / 2 ^ k).tmod 2 != 0) = bitI x k := rfl
          cases hb : bitI x k
          · rw [hb] at hbit hsu
            simp only [Bool.false_eq_true, if_false, List.append_nil] at hsu
            generalize hX : strB (bitsTo x k) = X at *
            generalize strB [letB k] = L at *
            have HSU := Lib.hid hsu
            have HX := Lib.hid hX
            clear hsu hX hb hcat hln
            go_wp2_with fail
            go_roundw
            case rel => exact ⟨k + 1, by omega, by go_num, by rw [HSU.out, HX.out], HBx⟩
            case measure => simp [intOf]; omega
          · rw [hb] at hbit hsu
            simp only [if_true] at hsu
            rw [← hsu] at hcat
            generalize hX : strB (bitsTo x k) = X at *
            generalize strB [letB k] = L at *
            have HC := Lib.hid hcat
            have n1 : ¬ 9223372036854775807 < X.size + 1 := by omega
            clear hsu hX hb hcat hln
            go_wp2_with fail
            go_roundw
            case rel => exact ⟨k + 1, by omega, by go_num, by rw [HC.out], HBx.out.alloc HBx.out.size _⟩
            case measure => simp [intOf]; omega
        · obtain rfl : k = n := by omega
          have hB2 := HB.out.trans (HBx.out.mono HB.out.size)
          have hO2 : ListT wr w.heap.size u9 ((zs.take i).map (setI k emp)) := ⟨World.ownsRow.keep HO.out.1 HBx.out, HO.out.2⟩
          have hset : setI k emp x = if (bitsTo x k).isEmpty && !emp then [98] else bitsTo x k := rfl
          have hlen9 : (((zs.take i).map (setI k emp)).map strB).length < 1000000000 := by rw [List.length_map, List.length_map, List.length_take]; omega
          have hie : (strB (bitsTo x k)).toList.isEmpty = (bitsTo x k).isEmpty := by rw [ByteArray.toList_eq]
          have hB2s := hB2.size
          have HB2 := Lib.hid hB2
          have HO2 := Lib.hid hO2
          have HL9 := Lib.hid hlen9
          have HSET := Lib.hid hset
          cases hE : (bitsTo x k).isEmpty
          · have hX0 : bitsTo x k ≠ [] := by intro h; rw [h] at hE; simp at hE
            have hset2 : setI k emp x = bitsTo x k := by rw [HSET.out, hE]; rfl
            have HS2 := Lib.hid hset2
            rw [hE] at hie
            generalize hX : strB (bitsTo x k) = X at *
            have HX := Lib.hid hX
            have hne : (X.toList == []) = false := by cases h : X.toList with | nil => rw [h] at hie; simp at hie | cons a l => rfl
            clear hB2 hO2 hset hlen9 hE hX hset2 hie
            go_wp2_with (at_builtin; refine wpList_appT Tryz.underlying36 HO2.out.1 hB2s HL9.out rfl _ _ rfl (z := X) rfl rfl ?_; intro v2 w4 hown2 hg2 hb2 hsh2)
            go_roundw
            case rel => exact ⟨i + 1, by omega, by go_num, by (show ListT _ _ _ _; exact ⟨by rw [HTK.out, List.map_append, List.map_singleton, HS2.out, HX.out]; exact hown2, fun h => by rw [HTK.out] at h; simp at h⟩), HB2.out.trans hb2⟩
            case measure => simp [intOf]; omega
          · have hX0 : bitsTo x k = [] := by cases h : bitsTo x k with | nil => rfl | cons a l => rw [h] at hE; simp at hE
            rw [hX0]
            clear hie
            cases emp
            · have hset2 : setI k false x = [98] := by rw [HSET.out, hE]; rfl
              have HS2 := Lib.hid hset2
              clear hB2 hO2 hset hlen9 hE hset2 hX0
              go_wp2_with (at_builtin; refine wpList_appT Tryz.underlying36 HO2.out.1 hB2s HL9.out rfl _ _ rfl (z := strB [98]) rfl rfl ?_; intro v2 w4 hown2 hg2 hb2 hsh2)
              go_roundw
              case rel => exact ⟨i + 1, by omega, by go_num, by (show ListT _ _ _ _; exact ⟨by rw [HTK.out, List.map_append, List.map_singleton, HS2.out]; exact hown2, fun h => by rw [HTK.out] at h; simp at h⟩), HB2.out.trans hb2⟩
              case measure => simp [intOf]; omega
            · have hset2 : setI k true x = [] := by rw [HSET.out, hE, hX0]; rfl
              have HS2 := Lib.hid hset2
              clear hB2 hO2 hset hlen9 hE hset2 hX0
              go_wp2_with (at_builtin; refine wpList_appT Tryz.underlying36 HO2.out.1 hB2s HL9.out rfl _ _ rfl (z := strB []) rfl rfl ?_; intro v2 w4 hown2 hg2 hb2 hsh2)
              go_roundw
              case rel => exact ⟨i + 1, by omega, by go_num, by (show ListT _ _ _ _; exact ⟨by rw [HTK.out, List.map_append, List.map_singleton, HS2.out]; exact hown2, fun h => by rw [HTK.out] at h; simp at h⟩), HB2.out.trans hb2⟩
              case measure => simp [intOf]; omega
    · obtain rfl : i = M := by omega
      rw [HF.out] at HO
      by_cases h1 : i < len
      · have h2 : ¬ i < m := by have := HMM.out; omega
        go_wp2_with fail
        go_ret
        exact ⟨_, rfl, HO.out, HB.out⟩
      · go_wp2_with fail
        go_ret
        exact ⟨_, rfl, HO.out, HB.out⟩
/-- one set of a number, as the law makes it -/
theorem sets_one (x : Int) (n : Nat) (emp : Bool) (W : World) (hn : n ≤ 26) :
    Calls Tryz.prog 16 #[.slice (some ⟨W.heap.size, 0, none⟩) 1 1, .int .i64 1, .int .i64 n, .bool emp] (W.alloc (.cells #[.int .i64 x] 3)) fun e w' =>
      ∃ b o c, e = .returned (.slice (some ⟨b, o, none⟩) 1 c) ∧ 1 ≤ c ∧ c ≤ 9223372036854775807 ∧ b < w'.heap.size ∧ w'.cell? ⟨b, o, none⟩ = some (.string (strB (setI n emp x))) ∧ Below W.heap.size W w' := by
  refine (sets_any _ [x] n 1 emp _ (Ints.lit W 3 [x] (by simp)) hn (by omega)).mono ?_
  rintro e w' ⟨u, rfl, hl, hb⟩
  have hb2 : Below W.heap.size W w' := ((Below.refl _ _).alloc (Nat.le_refl _) _).trans (hb.mono (by simp))
  have hs := OwnT.strs hl.1
  have e1 : setsI n 1 emp [x] = [setI n emp x] := rfl
  rw [e1] at hs
  obtain ⟨a, cap, rfl, ⟨h1, h2⟩, h⟩ := hs
  obtain ⟨b, o, rfl, hlt, hc⟩ := h (by simp)
  exact ⟨b, o, cap, rfl, by simpa using h1, h2, hlt, hc 0 _ rfl, hb2⟩

theorem strB_app (a b : List UInt8) : strB a ++ strB b = strB (a ++ b) := by apply str_eq; rw [bts_add]

end Go.Proofs.YtjdmmgaddbleeaaGreat
