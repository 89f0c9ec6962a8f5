/- FoldFolds: the walk. -/
import Derived.Test.YtlooclpfoeakgaaMG
import Derived.Test.YtlooclpfoeakgaaMI
namespace Go.Proofs.Ytlooclpfoeakgaa
open Go.RowKit

def cutS (s : ByteArray) : ByteArray := s.extract 0 (min s.size 202)
theorem words_bound (k : Nat) (ss : List ByteArray) : (wordsL k 5 8 ss).length ≤ 14 ∧ ∀ s ∈ wordsL k 5 8 ss, s.size ≤ 202 := by
  unfold wordsL
  refine ⟨by simp; omega, fun s hs => ?_⟩
  obtain ⟨u, _, rfl⟩ := List.mem_map.1 hs
  rw [size_str]
  unfold textL
  rw [List.length_map, List.length_take]
  omega
theorem cutS_size (s : ByteArray) : (cutS s).size ≤ 202 := by unfold cutS; simp; omega

section
variable {P : Program} {ops : Array Oper} {o : Oper} {a : Act} {w : World} {Q : Exit → Act → World → Prop} {K : Act → World → Prop} {E : Prop}
theorem step_appV {e t : TypeId} {bytes : Nat} {zv : Value} (hinfo : (P.info? e).map (fun i => (i.zero, i.size, i.bytes)) = some (some zv, 1, bytes)) (hzs : zv.cells.size = 1) (hby : bytes ≤ 1000) (ht : P.underlying t = some (.slice e))
    {base : Nat} {v : Value} {n : Nat} {xs : List Value} (hown : w.ownsRow base e 1 v n xs) (hl : n < 1000000000) (hgd : o.guard = none) (s x : Operand)
    (ho : o.op = .call { callee := .builtin .append, args := #[s, x], argTypes := #[t, t] }) {B : Nat} {y : Value} (hs : a.eval s = v) (hx : a.eval x = .slice (some ⟨B, 0, none⟩) 1 1) (hc : Blk w B e [y]) (hy : y.oneCell' = true)
    (hbase : base ≤ w.heap.size) (H : Nat) (hH : w.heap.size = H)
    (h : ∀ g cap w', w'.ownsRow base e 1 (.slice (some ⟨g, 0, none⟩) (n + 1) cap) (n + 1) (xs ++ [y]) → w.grownBy w' v.ownBlock → (v.ownBlock = some g ∨ g = H) → g < w'.heap.size → K (a.put o.dst (.slice (some ⟨g, 0, none⟩) (n + 1) cap)) w') :
    if Region.wanted o (yielded ops a.tmps) = true then Oper.wp P o a w K Q else E := by
  obtain ⟨i, h2, h3, h4, h5⟩ := info_parts hinfo
  refine step_append_lies w hgd s x t ho base e i zv 1 bytes ht h2 h3 h4 h5 hzs (by decide) v n _ hs hown ⟨B, 0, none⟩ 1 1 [y] hx (by simp) ?_ ?_ (by decide) ?_ ?_ hbase H hH h
  · have := World.news_of_block hc
    simpa using this
  · intro u hu
    obtain rfl := List.mem_singleton.1 hu
    exact hy
  · unfold maxLen; omega
  · have : (n + 1) * bytes ≤ 1000000000 * 1000 := Nat.mul_le_mul (by omega) hby
    omega
end

theorem Fold_allS (k : Int) (v : Value) (ss : List ByteArray) (w : World) (hv : Strs w v ss) (hz : ∀ s ∈ ss, s.size ≤ 1000000) :
    Calls Try.prog 13 #[.int .i64 k, v] w fun e w' => Below w.heap.size w w' ∧ ((wordsErr k ss ≠ 0 ∧ e = .returned (.tuple #[.agg #[.int .i64 0, .slice none 0 0], .int .i64 (wordsErr k ss)])) ∨
      (wordsErr k ss = 0 ∧ ∃ (kk : Nat) (rva : Option Addr) (rvc : Nat) (g : List (List Int)), k = kk ∧ e = .returned (.tuple #[.agg #[.int .i64 kk, .slice rva g.length rvc], .int .i64 0]) ∧ IsGraph kk (setS ss) g ∧ RowsAt w' w.heap.size (.slice rva g.length rvc) g (fun _ => True))) := by
  refine (Fold_all k v ss w hv hz).mono ?_
  rintro e w' ⟨hb, h | ⟨h0, kk, rv, g, h1, h2, h3, h4⟩⟩
  · exact ⟨hb, .inl h⟩
  · obtain ⟨rva, rvc, rfl, -, -⟩ := row_shapeV h4.choose_spec.1
    exact ⟨hb, .inr ⟨h0, kk, rva, rvc, g, h1, h2, h3, h4⟩⟩

set_option maxRecDepth 100000 in
set_option maxHeartbeats 4000000 in
theorem FoldFolds_any (w : World) (k : Int) (v : Value) (ss : List ByteArray) (hv : Strs w v ss) (hz : ∀ s ∈ ss, s.size ≤ 9223372036854775807) :
    Calls Try.prog 3 #[.int .i64 k, v] w fun e w' => e = .returned (.bool true) ∧ Below w.heap.size w w' := by
  obtain ⟨a, n, cap, rfl, HN, hn1, hn2⟩ := hv.open
  have HV := Lib.hid hv
  have HZ := Lib.hid hz
  have HO : Hid (w.ownsRow w.heap.size 9 1 (.slice none 0 0) ((ss.take 0).map cutS).length (((ss.take 0).map cutS).map Value.string)) := Lib.hid (World.ownsRow_nil _ _ _ _)
  have HB := Lib.hid (Below.refl w.heap.size w)
  clear hv hz
  go_enter Try.func3, Try.ntmps3
  go_wp2_with fail
  go_loopw [6, 5] (fun iv ov wr => ∃ (i : Nat) (lw : Value), i ≤ n ∧ i ≤ 14 ∧ iv = .int .i64 i ∧ lw = ov ∧ Hid (wr.ownsRow w.heap.size 9 1 lw ((ss.take i).map cutS).length (((ss.take i).map cutS).map Value.string)) ∧ Hid (Below w.heap.size w wr)) (fun iv _ _ => n - (intOf iv).toNat)
  case atStart => exact ⟨0, _, by omega, by omega, rfl, rfl, HO, HB⟩
  case round =>
    clear HO HB
    obtain ⟨i, lw, hi, hi14, rfl, rfl, HO, HB⟩ := hrel
    have hbsz := HB.out.size
    by_cases hlt : i < n ∧ i < 14
    · obtain ⟨hin, hi4⟩ := hlt
      obtain ⟨b, o, s, rfl, hbl, hgs, hc0⟩ := HV.out.at_ hin
      have hc1 := (HB.out.cell (p := ⟨b, o + i, none⟩) hbl).trans hc0
      have hs9 := HZ.out s (List.mem_of_getElem? hgs.out)
      have htk : (ss.take (i + 1)).map cutS = (ss.take i).map cutS ++ [cutS s] := by rw [List.take_add_one, hgs.out]; simp
      obtain ⟨P, hP⟩ : ∃ P, (ss.take i).map cutS = P := ⟨_, rfl⟩
      have hPl : P.length ≤ 14 := by rw [← hP]; simp; omega
      rw [hP] at HO htk
      have HTK := Lib.hid htk
      have i0 : (0 : Int) ≤ i := by omega
      have i1 : (i : Int) < n := by omega
      clear hc0 htk hP hgs
      by_cases hs2 : s.size ≤ 202
      · have hs2I : (s.size : Int) ≤ 202 := by omega
        have hX : cutS s = s := by
          unfold cutS
          rw [show min s.size 202 = s.size by omega]
          exact ByteArray.extract_zero_size
        have hmin : min (s.size : Int) 202 = s.size := by omega
        rw [hX] at HTK
        clear hX
        have HA : Hid ((wr.alloc (.cells #[.string s] 9)).drew.ownsRow w.heap.size 9 1 lw P.length (P.map Value.string)) := Lib.hid (World.ownsRow.keep HO.out (((Below.refl wr.heap.size wr).alloc (Nat.le_refl _) (.cells #[.string s] 9)).trans ((Below.refl _ _).drewN' 1)))
        have HC : Hid (Blk (wr.alloc (.cells #[.string s] 9)).drew wr.heap.size 9 [.string s]) := Lib.hid (Blk.new wr 9 [.string s])
        have HBS : Hid (w.heap.size ≤ (wr.alloc (.cells #[.string s] 9)).drew.heap.size) := Lib.hid (by show w.heap.size ≤ (wr.alloc (.cells #[.string s] 9)).heap.size; simp; omega)
        have HBA : Hid (Below w.heap.size w (wr.alloc (.cells #[.string s] 9)).drew) := Lib.hid ((HB.out.alloc hbsz _).trans ((Below.refl _ _).drewN' 1))
        have HPL : Hid (P.length < 1000000000) := Lib.hid (by omega)
        go_upto_region 5 with fail
        go_region_law ((refine step_appV Try.info9 rfl (by decide) Try.underlying22 HA.out HPL.out rfl (.tmp 23) (.tmp 35) rfl (by simp [Act.eval]) (by simp [Act.eval]) HC.out rfl HBS.out _ rfl ?_; intro g6 cap6 w6 hown6 hgrow6 hat6 hlt6))
        all_goals
          have hlo := World.ownsRow.lt HA.out
          have G1 : Hid (w6.ownsRow w.heap.size 9 1 (.slice (some ⟨g6, 0, none⟩) (P.length + 1) cap6) ((ss.take (i + 1)).map cutS).length (((ss.take (i + 1)).map cutS).map Value.string)) := Lib.hid (by rw [HTK.out, List.length_append, List.length_singleton, List.map_append]; exact hown6)
          have G2 := Lib.hid (HBA.out.grown hgrow6 HBS.out (fun k e => (hlo k e).1))
          clear hlo hown6 hgrow6 hat6 hlt6
          go_wp2_with fail
          go_roundw
          case rel => exact ⟨i + 1, _, by omega, by omega, by go_num, rfl, G1, G2⟩
          case measure => simp [intOf]; omega
      · have hs2I : ¬ (s.size : Int) ≤ 202 := by omega
        have hX : cutS s = s.extract 0 202 := by
          unfold cutS
          rw [show min s.size 202 = 202 by omega]
        have hmin : min (s.size : Int) 202 = 202 := by omega
        have h202 : (202 : Int) ≤ s.size := by omega
        rw [hX] at HTK
        clear hX
        have HA : Hid ((wr.alloc (.cells #[.string (s.extract 0 202)] 9)).drew.ownsRow w.heap.size 9 1 lw P.length (P.map Value.string)) := Lib.hid (World.ownsRow.keep HO.out (((Below.refl wr.heap.size wr).alloc (Nat.le_refl _) (.cells #[.string (s.extract 0 202)] 9)).trans ((Below.refl _ _).drewN' 1)))
        have HC : Hid (Blk (wr.alloc (.cells #[.string (s.extract 0 202)] 9)).drew wr.heap.size 9 [.string (s.extract 0 202)]) := Lib.hid (Blk.new wr 9 [.string (s.extract 0 202)])
        have HBS : Hid (w.heap.size ≤ (wr.alloc (.cells #[.string (s.extract 0 202)] 9)).drew.heap.size) := Lib.hid (by show w.heap.size ≤ (wr.alloc (.cells #[.string (s.extract 0 202)] 9)).heap.size; simp; omega)
        have HBA : Hid (Below w.heap.size w (wr.alloc (.cells #[.string (s.extract 0 202)] 9)).drew) := Lib.hid ((HB.out.alloc hbsz _).trans ((Below.refl _ _).drewN' 1))
        have HPL : Hid (P.length < 1000000000) := Lib.hid (by omega)
        go_upto_region 5 with fail
        go_region_law ((refine step_appV Try.info9 rfl (by decide) Try.underlying22 HA.out HPL.out rfl (.tmp 23) (.tmp 35) rfl (by simp [Act.eval]) (by simp [Act.eval]) HC.out rfl HBS.out _ rfl ?_; intro g6 cap6 w6 hown6 hgrow6 hat6 hlt6))
        all_goals
          have hlo := World.ownsRow.lt HA.out
          have G1 : Hid (w6.ownsRow w.heap.size 9 1 (.slice (some ⟨g6, 0, none⟩) (P.length + 1) cap6) ((ss.take (i + 1)).map cutS).length (((ss.take (i + 1)).map cutS).map Value.string)) := Lib.hid (by rw [HTK.out, List.length_append, List.length_singleton, List.map_append]; exact hown6)
          have G2 := Lib.hid (HBA.out.grown hgrow6 HBS.out (fun k e => (hlo k e).1))
          clear hlo hown6 hgrow6 hat6 hlt6
          go_wp2_with fail
          go_roundw
          case rel => exact ⟨i + 1, _, by omega, by omega, by go_num, rfl, G1, G2⟩
          case measure => simp [intOf]; omega
    · obtain ⟨O1, hO1⟩ : ∃ O, (ss.take i).map cutS = O := ⟨_, rfl⟩
      rw [hO1] at HO
      have hol : O1.length ≤ 14 ∧ ∀ s ∈ O1, s.size ≤ 202 := by
        rw [← hO1]
        refine ⟨by simp; omega, fun s hs => ?_⟩
        obtain ⟨u, _, rfl⟩ := List.mem_map.1 hs
        exact cutS_size u
      have HS := Lib.hid (Strs.of_row HO.out)
      have HOL := Lib.hid hol
      obtain ⟨sa, sc, hsv⟩ : ∃ sa sc, lw = .slice sa O1.length sc := by
        obtain ⟨a, m, c, h1, h2, -, -⟩ := HS.out.open
        rw [← h2.out] at h1
        exact ⟨a, c, h1⟩
      subst hsv
      clear hO1 HO hol
      have hcase : ((i : Int) < n ∧ ¬ (i : Int) < 14) ∨ ¬ (i : Int) < n := by omega
      rcases hcase with ⟨h1, h2⟩ | h1
      all_goals
        go_wp2_with fail
        clear h1
        go_loopw [7, 0, 5] (fun nv kv ov wr => ∃ (j : Nat) (kk : Int) (own : List ByteArray) (lw : Value), j ≤ 2 ∧ nv = .int .i64 j ∧ kv = .int .i64 kk ∧ lw = ov ∧ Hid (Strs wr lw own) ∧ Hid (own.length ≤ 14 ∧ ∀ s ∈ own, s.size ≤ 202) ∧ Hid (Below w.heap.size w wr)) (fun nv _ _ _ => 2 - (intOf nv).toNat)
        case atStart => exact ⟨0, k, O1, _, by omega, rfl, rfl, rfl, HS, HOL, HB⟩
        case round =>
          clear HS HOL HB
          obtain ⟨j, kk, own, lw, hj, rfl, rfl, rfl, HS, HOL, HB⟩ := hrel
          have hbsz := HB.out.size
          by_cases hlt : j < 2
          · have hltI : (j : Int) < 2 := by omega
            obtain ⟨oa, m, oc, rfl, HM, hm1, hm2⟩ := HS.out.open
            have hm14 : m ≤ 14 := by have := HOL.out.1; rw [HM.out] at this; exact this
            have hfa := Fold_allS kk _ own wr HS.out (fun s hs => by have := HOL.out.2 s hs; omega)
            have hwd := fun wx (hb : Below wr.heap.size wr wx) => rWords_any kk _ own wx (HS.out.keep hb) (fun s hs => by have := HOL.out.2 s hs; omega)
            obtain ⟨E, hE⟩ : ∃ E, wordsErr kk own = E := ⟨_, rfl⟩
            rw [hE] at hfa hwd
            have HFA := Lib.hid hfa
            have HWD := Lib.hid hwd
            have HEE := Lib.hid hE
            clear hfa hwd hE
            go_upto_region 10 with (go_at_call 13; refine HFA.out.mono ?_; rintro e w2 ⟨hb2, hres⟩; rcases hres with ⟨hne, rfl⟩ | ⟨he0, kn, rva, rvc, g, hkn, rfl, hg, hrows⟩)
            · obtain ⟨wA, hwA⟩ : ∃ wA, wA = w2.alloc (.cells #[.int .i64 0, .slice none 0 0] 25) := ⟨_, rfl⟩
              have hbA : Below wr.heap.size wr wA := by rw [hwA]; exact hb2.alloc hb2.size _
              have hxA : Blk wA w2.heap.size 25 [.int .i64 0, .slice none 0 0] := by rw [hwA]; exact Blk.new w2 25 [.int .i64 0, .slice none 0 0]
              have c0 := hxA.cell (j := 0) rfl
              have c1 := hxA.cell (j := 1) rfl
              have HSA := Lib.hid (HS.out.keep hbA)
              have HWA := Lib.hid (HWD.out wA hbA)
              have HNZ := Lib.hid (none_zero wA)
              have HNA := Lib.hid (fun wx => nails_any wx kk)
              have HBA := Lib.hid (HB.out.trans (hbA.mono hbsz))
              have HWO : Hid (∀ wx, Below w.heap.size w wx → Calls Try.prog 19 #[.slice a n cap, .int .i64 (nailsK kk : Nat), .int .i64 5, .int .i64 8] wx fun e w' => ∃ rv, e = .returned rv ∧ Strs w' rv (wordsL (nailsK kk) 5 8 ss) ∧ Below wx.heap.size wx w') := Lib.hid (fun wx hb => words_any _ ss (nailsK kk) 5 8 wx (HV.out.keep hb) HZ.out (nailsK_range kk).1 (by have := (nailsK_range kk).2; omega) (by omega) (by omega))
              change Code.wp _ _ _ _ (w2.alloc (.cells #[.int .i64 0, .slice none 0 0] 25))
              rw [← hwA]
              clear hwA hbA hxA hb2 HFA
              go_wp2_with (go_at_call 14; refine HWA.out.mono ?_; rintro e w4 ⟨rfl, hw4⟩; obtain rfl := hw4.symm)
              go_loopw [12, 11] (fun iv zv wx => ∃ (i z : Nat), i ≤ m ∧ iv = .int .i64 i ∧ zv = .int .i64 z ∧ z ≤ 202 * i ∧ wA = wx) (fun iv _ _ => m - (intOf iv).toNat)
              case atStart => exact ⟨0, 0, by omega, rfl, rfl, by omega, by trivial⟩
              case round =>
                obtain ⟨i2, z, hi2, rfl, rfl, hz2, rfl⟩ := hrel
                by_cases h2 : i2 < m
                · obtain ⟨b3, o3, s3, rfl, hbl3, hgs3, hc3⟩ := HSA.out.at_ h2
                  have hs3 := HOL.out.2 s3 (List.mem_of_getElem? hgs3.out)
                  have i20 : (0 : Int) ≤ i2 := by omega
                  have i21 : (i2 : Int) < m := by omega
                  have hwz : IntKind.i64.wrap ((z : Int) + s3.size) = ((z + s3.size : Nat) : Int) := by rw [IntKind.wrap_i64]; omega
                  go_wp2_with fail
                  go_roundw
                  case rel => exact ⟨i2 + 1, z + s3.size, by omega, by go_num, by go_num, by omega, by trivial⟩
                  case measure => simp [intOf]; omega
                · obtain rfl : i2 = m := by omega
                  have G1 := Lib.hid (words_bound (nailsK kk) ss)
                  go_wp2_with (first
                    | (go_at_call 15; refine HNZ.out.mono ?_; rintro e w5 ⟨rfl, hb5⟩; have HB5 := Lib.hid (HBA.out.trans (hb5.mono HBA.out.size)); clear hb5)
                    | (go_at_call 18; refine (HNA.out _).mono ?_; rintro e w6 ⟨rfl, hw6⟩; obtain rfl := hw6.symm)
                    | (go_at_call 19; refine (HWO.out _ HB5.out).mono ?_; rintro e w7 ⟨rv7, rfl, hs7, hb7⟩; have HS7 := Lib.hid hs7; have HB7 := Lib.hid (HB5.out.trans (hb7.mono HB5.out.size)); clear hs7 hb7))
                  go_roundw
                  case rel => exact ⟨j + 1, _, _, _, by omega, by go_num, rfl, rfl, HS7, G1, HB7⟩
                  case measure => simp [intOf]; omega
            · obtain rfl := hkn
              obtain rfl := he0
              obtain ⟨k3, hk3, hk1, hk4, hl12, -, hwv⟩ := wordsErr_zero HEE.out
              obtain rfl : kn = k3 := by omega
              obtain ⟨N, hN⟩ : ∃ N, g.length = N := ⟨_, rfl⟩
              rw [hN] at hrows ⊢
              obtain ⟨wA, hwA⟩ : ∃ wA, wA = w2.alloc (.cells #[.int .i64 kn, .slice rva N rvc] 25) := ⟨_, rfl⟩
              have hbB : Below w2.heap.size w2 wA := by rw [hwA]; exact (Below.refl _ _).alloc (Nat.le_refl _) _
              have hbA : Below wr.heap.size wr wA := by rw [hwA]; exact hb2.alloc hb2.size _
              have hxA : Blk wA w2.heap.size 25 [.int .i64 kn, .slice rva N rvc] := by rw [hwA]; exact Blk.new w2 25 [.int .i64 kn, .slice rva N rvc]
              have c0 := hxA.cell (j := 0) rfl
              have c1 := hxA.cell (j := 1) rfl
              have HXA := Lib.hid hxA
              have HSA := Lib.hid (HS.out.keep hbA)
              have HWA := Lib.hid (HWD.out wA hbA)
              have HRA := Lib.hid (hrows.keep hbB)
              have HGA := Lib.hid hg
              have HRF := Lib.hid (fun wx (hb : Below wA.heap.size wA wx) => rFold_any kn _ own wx (HSA.out.keep hb) hk1 hk4 hl12 hwv)
              have HK4 : Hid (kn ≤ 26) := Lib.hid (by omega)
              have HNA := Lib.hid (fun wx => nails_any wx (kn : Int))
              have HBA := Lib.hid (HB.out.trans (hbA.mono hbsz))
              have HWO : Hid (∀ wx, Below w.heap.size w wx → Calls Try.prog 19 #[.slice a n cap, .int .i64 (nailsK kn : Nat), .int .i64 5, .int .i64 8] wx fun e w' => ∃ rv, e = .returned rv ∧ Strs w' rv (wordsL (nailsK kn) 5 8 ss) ∧ Below wx.heap.size wx w') := Lib.hid (fun wx hb => words_any _ ss (nailsK kn) 5 8 wx (HV.out.keep hb) HZ.out (nailsK_range kn).1 (by have := (nailsK_range kn).2; omega) (by omega) (by omega))
              change Code.wp _ _ _ _ (w2.alloc (.cells #[.int .i64 kn, .slice rva N rvc] 25))
              rw [← hwA]
              clear hwA hbA hbB hxA hb2 HFA hk3 hk1 hk4 hl12 hwv hg hrows hN
              go_wp2_with (go_at_call 14; refine HWA.out.mono ?_; rintro e w4 ⟨rfl, hw4⟩; obtain rfl := hw4.symm)
              go_loopw [12, 11] (fun iv zv wx => ∃ (i z : Nat), i ≤ m ∧ iv = .int .i64 i ∧ zv = .int .i64 z ∧ z ≤ 202 * i ∧ wA = wx) (fun iv _ _ => m - (intOf iv).toNat)
              case atStart => exact ⟨0, 0, by omega, rfl, rfl, by omega, by trivial⟩
              case round =>
                obtain ⟨i2, z, hi2, rfl, rfl, hz2, rfl⟩ := hrel
                by_cases h2 : i2 < m
                · obtain ⟨b3, o3, s3, rfl, hbl3, hgs3, hc3⟩ := HSA.out.at_ h2
                  have hs3 := HOL.out.2 s3 (List.mem_of_getElem? hgs3.out)
                  have i20 : (0 : Int) ≤ i2 := by omega
                  have i21 : (i2 : Int) < m := by omega
                  have hwz : IntKind.i64.wrap ((z : Int) + s3.size) = ((z + s3.size : Nat) : Int) := by rw [IntKind.wrap_i64]; omega
                  go_wp2_with fail
                  go_roundw
                  case rel => exact ⟨i2 + 1, z + s3.size, by omega, by go_num, by go_num, by omega, by trivial⟩
                  case measure => simp [intOf]; omega
                · obtain rfl : i2 = m := by omega
                  have G1 := Lib.hid (words_bound (nailsK kn) ss)
                  by_cases hz60 : z ≤ 60
                  · have hz60I : (z : Int) ≤ 60 := by omega
                    go_upto_region 19 with fail
                    go_cut [86] (fun s wc => s = .bool false ∧ Hid (Below wA.heap.size wA wc))
                    case first =>
                      refine wp_region_held_drew (S := fun w' => w'.cell? ⟨w2.heap.size, 0, none⟩ = some (.int .i64 kn) ∧ w'.cell? ⟨w2.heap.size, 1, none⟩ = some (.slice rva N rvc)) (by kernel_rfl) ⟨c0, c1⟩ (fun hHeld => ?_)
                      try simp only [Act.put, List.setIfInBounds_toArray, List.set_cons_zero, List.set_cons_succ]
                      refine takeH 0 (v := ?_) rfl (by kernel_rfl) (by kernel_rfl) (by kernel_rfl) (fun _ _ _ h => h) (by rfl) ?_ hHeld ?_
                      rotate_left
                      · (intro w hSw; (try dsimp only at hSw); go_simp; try with_reducible rfl)
                      try simp only [Act.put, List.setIfInBounds_toArray, List.set_cons_zero, List.set_cons_succ]
                      refine takeH 1 (v := ?_) rfl (by kernel_rfl) (by kernel_rfl) (by kernel_rfl) (fun _ _ _ h => h) (by rfl) ?_ hHeld ?_
                      rotate_left
                      · (intro w hSw; (try dsimp only at hSw); go_simp; try with_reducible rfl)
                      try simp only [Act.put, List.setIfInBounds_toArray, List.set_cons_zero, List.set_cons_succ]
                      refine takeH 2 (v := ?_) rfl (by kernel_rfl) (by kernel_rfl) (by kernel_rfl) (fun _ _ _ h => h) (by rfl) ?_ hHeld ?_
                      rotate_left
                      · (intro w hSw; (try dsimp only at hSw); go_simp; try with_reducible rfl)
                      try simp only [Act.put, List.setIfInBounds_toArray, List.set_cons_zero, List.set_cons_succ]
                      refine takeH 3 (v := ?_) rfl (by kernel_rfl) (by kernel_rfl) (by kernel_rfl) (fun _ _ _ h => h) (by rfl) ?_ hHeld ?_
                      rotate_left
                      · (intro w hSw; (try dsimp only at hSw); go_simp; try with_reducible rfl)
                      try simp only [Act.put, List.setIfInBounds_toArray, List.set_cons_zero, List.set_cons_succ]
                      refine takeH 4 (v := ?_) rfl (by kernel_rfl) (by kernel_rfl) (by kernel_rfl) (fun _ _ _ h => h) (by rfl) ?_ hHeld ?_
                      rotate_left
                      · (intro w hSw; (try dsimp only at hSw); go_simp; try with_reducible rfl)
                      try simp only [Act.put, List.setIfInBounds_toArray, List.set_cons_zero, List.set_cons_succ]
                      refine takeH 5 (v := ?_) rfl (by kernel_rfl) (by kernel_rfl) (by kernel_rfl) (fun _ _ _ h => h) (by rfl) ?_ hHeld ?_
                      rotate_left
                      · (intro w hSw; (try dsimp only at hSw); go_simp; try with_reducible rfl)
                      try simp only [Act.put, List.setIfInBounds_toArray, List.set_cons_zero, List.set_cons_succ]
                      refine takeH 6 (v := ?_) rfl (by kernel_rfl) (by kernel_rfl) (by kernel_rfl) (fun _ _ _ h => h) (by rfl) ?_ hHeld ?_
                      rotate_left
                      · (intro w hSw; (try dsimp only at hSw); go_simp; try with_reducible rfl)
                      try simp only [Act.put, List.setIfInBounds_toArray, List.set_cons_zero, List.set_cons_succ]
                      refine takeH 7 (v := ?_) rfl (by kernel_rfl) (by kernel_rfl) (by kernel_rfl) (fun _ _ _ h => h) (by rfl) ?_ hHeld ?_
                      rotate_left
                      · (intro w hSw; (try dsimp only at hSw); go_simp; try with_reducible rfl)
                      try simp only [Act.put, List.setIfInBounds_toArray, List.set_cons_zero, List.set_cons_succ]
                      refine takeH 8 (v := ?_) rfl (by kernel_rfl) (by kernel_rfl) (by kernel_rfl) (fun _ _ _ h => h) (by rfl) ?_ hHeld ?_
                      rotate_left
                      · (intro w hSw; (try dsimp only at hSw); go_simp; try with_reducible rfl)
                      try simp only [Act.put, List.setIfInBounds_toArray, List.set_cons_zero, List.set_cons_succ]
                      refine oneH 9 (by kernel_rfl) rfl (fun K hK => ?_)
                      go_simp
                      go_at_call 17
                      refine (HRF.out _ ((Below.refl _ wA).drewN' 1)).mono ?_
                      rintro e w3 ⟨rv3, g3, rfl, hg3, hr3, hb3⟩
                      rw [← folds_same HK4.out HGA.out hg3] at hr3
                      have hb3' : Below wA.heap.size wA w3 := ((Below.refl _ wA).drewN' 1).trans (by exact hb3)
                      have cN0 := (HXA.out.keep hb3').cell (j := 0) rfl
                      have cN1 := (HXA.out.keep hb3').cell (j := 1) rfl
                      clear hg3
                      dsimp only
                      refine hK.out _ _ ⟨cN0, cN1⟩ (fun hHeld => ?_)
                      clear hK K
                      try simp only [Act.put, List.setIfInBounds_toArray, List.set_cons_zero, List.set_cons_succ]
                      refine oneH 10 (by kernel_rfl) rfl (fun K hK => ?_)
                      go_simp
                      go_at_call 16
                      refine (same_true w3 kn _ _ _ rv3 g _ _ (HRA.out.keep hb3') hr3).mono ?_
                      rintro e w5 ⟨rfl, hb5⟩
                      have hb5' := hb3'.trans (hb5.mono hb3'.size)
                      have cM0 := (HXA.out.keep hb5').cell (j := 0) rfl
                      have cM1 := (HXA.out.keep hb5').cell (j := 1) rfl
                      dsimp only
                      refine hK.out _ _ ⟨cM0, cM1⟩ (fun hHeld => ?_)
                      clear hK K
                      try simp only [Act.put, List.setIfInBounds_toArray, List.set_cons_zero, List.set_cons_succ]
                      refine takeH 11 (v := ?_) rfl (by kernel_rfl) (by kernel_rfl) (by kernel_rfl) (fun _ _ _ h => h) (by rfl) ?_ hHeld ?_
                      rotate_left
                      · (intro w hSw; (try dsimp only at hSw); go_simp; try with_reducible rfl)
                      try simp only [Act.put, List.setIfInBounds_toArray, List.set_cons_zero, List.set_cons_succ]
                      refine takeH 12 (v := ?_) rfl (by kernel_rfl) (by kernel_rfl) (by kernel_rfl) (fun _ _ _ h => h) (by rfl) ?_ hHeld ?_
                      rotate_left
                      · (intro w hSw; (try dsimp only at hSw); go_simp; try with_reducible rfl)
                      try simp only [Act.put, List.setIfInBounds_toArray, List.set_cons_zero, List.set_cons_succ]
                      refine takeH 13 (v := ?_) rfl (by kernel_rfl) (by kernel_rfl) (by kernel_rfl) (fun _ _ _ h => h) (by rfl) ?_ hHeld ?_
                      rotate_left
                      · (intro w hSw; (try dsimp only at hSw); go_simp; try with_reducible rfl)
                      try simp only [Act.put, List.setIfInBounds_toArray, List.set_cons_zero, List.set_cons_succ]
                      refine wpAnyH_done (by kernel_rfl) ?_ _
                      go_wp2_with fail
                      go_meet
                      exact ⟨rfl, Lib.hid hb5'⟩
                    case rest =>
                      obtain ⟨rfl, HBC⟩ := hcut
                      have HB5 := Lib.hid (HBA.out.trans (HBC.out.mono HBA.out.size))
                      clear HBC
                      go_wp2_with (first
                        | (go_at_call 18; refine (HNA.out _).mono ?_; rintro e w6 ⟨rfl, hw6⟩; obtain rfl := hw6.symm)
                        | (go_at_call 19; refine (HWO.out _ HB5.out).mono ?_; rintro e w7 ⟨rv7, rfl, hs7, hb7⟩; have HS7 := Lib.hid hs7; have HB7 := Lib.hid (HB5.out.trans (hb7.mono HB5.out.size)); clear hs7 hb7))
                      go_roundw
                      case rel => exact ⟨j + 1, _, _, _, by omega, by go_num, rfl, rfl, HS7, G1, HB7⟩
                      case measure => simp [intOf]; omega
                  · have hz60I : ¬ (z : Int) ≤ 60 := by omega
                    go_upto_region 19 with fail
                    go_cut [86] (fun s wc => s = .bool false ∧ Hid (Below wA.heap.size wA wc))
                    case first =>
                      go_quiet (fail)
                      generalize nq = na
                      go_wp2_with fail
                      go_meet
                      exact ⟨rfl, Lib.hid ((Below.refl _ wA).drewN' _)⟩
                    case rest =>
                      obtain ⟨rfl, HBC⟩ := hcut
                      have HB5 := Lib.hid (HBA.out.trans (HBC.out.mono HBA.out.size))
                      clear HBC
                      go_wp2_with (first
                        | (go_at_call 18; refine (HNA.out _).mono ?_; rintro e w6 ⟨rfl, hw6⟩; obtain rfl := hw6.symm)
                        | (go_at_call 19; refine (HWO.out _ HB5.out).mono ?_; rintro e w7 ⟨rv7, rfl, hs7, hb7⟩; have HS7 := Lib.hid hs7; have HB7 := Lib.hid (HB5.out.trans (hb7.mono HB5.out.size)); clear hs7 hb7))
                      go_roundw
                      case rel => exact ⟨j + 1, _, _, _, by omega, by go_num, rfl, rfl, HS7, G1, HB7⟩
                      case measure => simp [intOf]; omega
          · obtain rfl : j = 2 := by omega
            have HAW := Lib.hid (awake_any wr)
            go_wp2_with (go_at_call 20; refine HAW.out.mono ?_; rintro e w2 ⟨rfl, hb2⟩; have HB2 := Lib.hid (HB.out.trans (hb2.mono hbsz)))
            go_ret
            exact ⟨rfl, HB2.out⟩
end Go.Proofs.Ytlooclpfoeakgaa
