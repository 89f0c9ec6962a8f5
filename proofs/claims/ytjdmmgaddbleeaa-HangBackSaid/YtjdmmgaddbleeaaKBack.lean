/- HangBack: the walk. -/
import Derived.Test.YtjdmmgaddbleeaaMI
import Derived.Test.YtjdmmgaddbleeaaMF
namespace Go.Proofs.Ytjdmmgaddbleeaa
open Go.RowKit

set_option maxRecDepth 100000 in
set_option maxHeartbeats 4000000 in
theorem HangBack_any (v : Value) (zs : List Int) (w : World) (hv : Ints w v zs) :
    Calls Try.prog 9 #[v] w fun e w' => e = .returned (.bool true) ∧ Below w.heap.size w w' := by
  have hse : Calls Try.prog 18 #[v, .int .i64 5, .int .i64 5, .bool false] w fun e w' => ∃ u, e = .returned u ∧ ListT w' w.heap.size u (setsI 5 5 false zs) ∧ Below w.heap.size w w' := sets_any v zs 5 5 false w hv (by omega) (by omega)
  have hF : ∀ t ∈ setsI 5 5 false zs, isSet 0 t = true ∧ t ≠ [] ∧ fewB 5 t ∧ t.length ≤ 6 := by
    intro t ht
    unfold setsI at ht
    obtain ⟨x, _, rfl⟩ := List.mem_map.1 ht
    exact ⟨setI_set (by omega) false x, setI_ne 5 x, setI_few (by omega) (by omega) false x, setI_len 5 false x⟩
  have hFl : (setsI 5 5 false zs).length ≤ 5 := by unfold setsI; rw [List.length_map, List.length_take]; omega
  generalize setsI 5 5 false zs = F at *
  have HSE := Lib.hid hse
  have HAW := Lib.hid awake_any
  clear hse hv
  obtain ⟨n, hn⟩ : ∃ n, F.length = n := ⟨_, rfl⟩
  by_cases h0 : F = []
  · subst h0
    go_enter Try.func9, Try.ntmps9
    go_wp2_with (go_at_call 18; refine HSE.out.mono ?_)
    rintro e w1 ⟨u, rfl, hl, hb1⟩
    obtain ⟨a, c, rfl, _⟩ := hl.shape (n := 0) rfl
    go_wp2_with (go_at_call 17; refine (HAW.out _).mono ?_; rintro e w2 ⟨rfl, hb2⟩)
    go_ret
    exact ⟨rfl, hb1.trans (hb2.mono hb1.size)⟩
  · have hn0 : ((n : Int) == 0) = false := by
      have : n ≠ 0 := by rw [← hn]; exact fun e => h0 (List.eq_nil_of_length_eq_zero e)
      simp; omega
    -- the plain facts
    have hset : ∀ s ∈ F.map strB, isSet 0 (bts s) = true ∧ s.size ≤ 1000 := by
      intro s hs
      obtain ⟨t, ht, rfl⟩ := List.mem_map.1 hs
      exact ⟨(hF t ht).1, by rw [size_str]; have := (hF t ht).2.2.2; omega⟩
    have hne : ∀ s ∈ F.map strB, bts s ≠ [] := by
      intro s hs
      obtain ⟨t, ht, rfl⟩ := List.mem_map.1 hs
      exact (hF t ht).2.1
    have hfew : ∀ t ∈ F, fewB 5 t := fun t ht => (hF t ht).2.2.1
    have hss0 : F.map strB ≠ [] := by simpa using h0
    have hssl : (F.map strB).length ≤ 100 := by rw [List.length_map]; omega
    have hten : (strN (unionN ((F.map strB).map markB))).length ≤ 10 := by rw [str_marks]; have := union_few hfew; omega
    have hfs : (F.map marksOf).map strN = F := marks_map fun t ht => (hF t ht).1
    have hfs0 : F.map marksOf ≠ [] := by simpa using h0
    have hD := dual_few hfew
    have hDl : (dualS (F.map marksOf)).length ≤ 32 := by
      have h1 := dual_len (F.map marksOf)
      have h2 := Nat.pow_le_pow_right (show 2 > 0 by omega) (union_few hfew)
      omega
    have hds : ((dualS (F.map marksOf)).map marksOf).map strN = dualS (F.map marksOf) := marks_map fun t ht => (hD t ht).1
    have hdd : dualS ((dualS (F.map marksOf)).map marksOf) = minS F := by rw [dual_dual hds, hfs]
    have hsh : setsL (hangL (F.map marksOf)) = minS F := by rw [sets_hang hfs0, hfs]
    have hdne : ∀ d ∈ dualS (F.map marksOf), d ≠ [] := fun d hd => dual_ne hfs0 (mem_dualS.1 hd).2.2.1
    have hD0 : dualS (F.map marksOf) ≠ [] := by
      intro e
      obtain ⟨f, hf, hs⟩ := (dual_hits (fs := F.map marksOf) (T := [])).2 (by rw [e]; simp)
      obtain ⟨t, ht, rfl⟩ := List.mem_map.1 hf
      rw [strN_marks (hF t ht).1] at hs
      apply (hF t ht).2.1
      exact List.eq_nil_iff_forall_not_mem.2 fun c hc => by simpa using hs c hc
    have hwz : wordErr (strB (hangL (F.map marksOf))) = 0 := word_zero (hang_word _) (hang_short hfew)
    have hnt : (strN (nailsOf (bts (strB (hangL (F.map marksOf)))))).length ≤ 10 := by have := hang_nails hfew; rw [bts_str]; omega
    -- the contracts
    have cHang : ∀ (u : Value) (W : World), Strs W u (F.map strB) → Calls Try.prog 19 #[u] W fun e w' => e = .returned (.tuple #[.string (strB (hangL (F.map marksOf))), .int .i64 0]) ∧ Below W.heap.size W w' := by
      intro u W hu
      have := Hang_any u _ W hu hssl hss0 hset hne hten
      rwa [str_marks] at this
    have cSets : ∀ (W : World), Calls Try.prog 11 #[.string (strB (hangL (F.map marksOf)))] W fun e w' => ∃ u, e = .returned (.tuple #[u, .int .i64 0]) ∧ Strs w' u ((minS F).map strB) ∧ Below W.heap.size W w' := by
      intro W
      have := Sets_any _ W hwz hnt
      unfold SetsPost at this
      rw [bts_str, hsh] at this
      exact this
    have cLeast : ∀ (u : Value) (W : World), Strs W u (F.map strB) → Calls Try.prog 33 #[u] W fun e w' => ∃ u, e = .returned (.tuple #[u, .int .i64 0]) ∧ Strs w' u ((minS F).map strB) ∧ Below W.heap.size W w' := by
      intro u W hu
      have := Least_any u _ W hu hssl hset
      rwa [str_bts] at this
    have cDual : ∀ (u : Value) (W : World), Strs W u (F.map strB) → Calls Try.prog 34 #[u] W fun e w' => ∃ u, e = .returned (.tuple #[u, .int .i64 0]) ∧ Strs w' u ((dualS (F.map marksOf)).map strB) ∧ Below W.heap.size W w' := by
      intro u W hu
      have := Dual_any u _ W hu hssl hss0 hset hne hten
      rwa [str_marks] at this
    have cDual2 : ∀ (u : Value) (W : World), Strs W u ((dualS (F.map marksOf)).map strB) → Calls Try.prog 34 #[u] W fun e w' => ∃ u, e = .returned (.tuple #[u, .int .i64 0]) ∧ Strs w' u ((minS F).map strB) ∧ Below W.heap.size W w' := by
      intro u W hu
      have := Dual_any u _ W hu (by rw [List.length_map]; omega) (by simpa using hD0) (by
        intro s hs
        obtain ⟨t, ht, rfl⟩ := List.mem_map.1 hs
        exact ⟨(hD t ht).1, by rw [size_str]; have := (hD t ht).2.2; omega⟩) (by
        intro s hs
        obtain ⟨t, ht, rfl⟩ := List.mem_map.1 hs
        exact hdne t ht) (by
        rw [str_marks]
        have := union_few (n := 5) (L := dualS (F.map marksOf)) fun t ht => (hD t ht).2.1
        omega)
      rwa [str_marks, hdd] at this
    generalize strB (hangL (F.map marksOf)) = HW at *
    generalize (minS F).map strB = MS at *
    generalize (dualS (F.map marksOf)).map strB = DS at *
    have CHANG := Lib.hid cHang
    have CSETS := Lib.hid cSets
    have CLEAST := Lib.hid cLeast
    have CDUAL := Lib.hid cDual
    have CDUAL2 := Lib.hid cDual2
    have HN := Lib.hid hn
    clear hset hne hfew hss0 hssl hten hfs hfs0 hD hDl hds hdd hsh hdne hD0 hwz hnt cHang cSets cLeast cDual cDual2 hn hF hFl h0
    go_enter Try.func9, Try.ntmps9
    go_wp2_with (go_at_call 18; refine HSE.out.mono ?_)
    rintro e w1 ⟨u, rfl, hl, hb1⟩
    obtain ⟨a, c, rfl, _⟩ := hl.shape HN.out
    have hst1 := OwnT.strs hl.1
    have HST1 := Lib.hid hst1
    have h19 := CHANG.out _ _ hst1
    have H19 := Lib.hid h19
    have HB1 := Lib.hid hb1
    clear hl hst1 h19 hb1
    go_wp2_with (go_at_call 19; refine H19.out.mono ?_)
    rintro e w2 ⟨rfl, hb2⟩
    go_wp2_with (go_at_call 11; refine (CSETS.out _).mono ?_)
    rintro e w3 ⟨u3, rfl, hst3, hb3⟩
    have hb13 := hb2.trans (hb3.mono hb2.size)
    have hst13 := HST1.out.keep hb13
    have h33 := CLEAST.out _ _ hst13
    have H33 := Lib.hid h33
    have HST13 := Lib.hid hst13
    have HST3 := Lib.hid hst3
    have HB3 := Lib.hid (HB1.out.trans (hb13.mono HB1.out.size))
    clear h33 hst13 hst3 hb13 hb2 hb3
    go_wp2_with (go_at_call 33; refine H33.out.mono ?_)
    rintro e w4 ⟨u4, rfl, hst4, hb4⟩
    have hst14 := HST13.out.keep hb4
    have h34 := CDUAL.out _ _ hst14
    have H34 := Lib.hid h34
    have HST34 := Lib.hid (HST3.out.keep hb4)
    have HST4 := Lib.hid hst4
    have HB4 := Lib.hid (HB3.out.trans (hb4.mono HB3.out.size))
    clear h34 hst14 hst4 hb4
    go_wp2_with (go_at_call 34; refine H34.out.mono ?_)
    rintro e w5 ⟨u5, rfl, hst5, hb5⟩
    have h342 := CDUAL2.out _ _ hst5
    have H342 := Lib.hid h342
    have HST35 := Lib.hid (HST34.out.keep hb5)
    have HST45 := Lib.hid (HST4.out.keep hb5)
    have HB5 := Lib.hid (HB4.out.trans (hb5.mono HB4.out.size))
    clear h342 hst5 hb5
    go_wp2_with (go_at_call 34; refine H342.out.mono ?_)
    rintro e w6 ⟨u6, rfl, hst6, hb6⟩
    have hm1 := same_any _ _ _ _ w6 (HST35.out.keep hb6) (HST45.out.keep hb6)
    have hm2 := fun q => same_any _ _ _ _ (w6.drewN q) (hst6.keep ((Below.refl _ _).drewN' q)) ((HST45.out.keep hb6).keep ((Below.refl _ _).drewN' q))
    rw [decide_eq_true rfl] at hm1
    simp only [decide_true] at hm2
    have HM1 := Lib.hid hm1
    have HM2 := Lib.hid hm2
    have HB6 := Lib.hid (HB5.out.trans (hb6.mono HB5.out.size))
    clear hm1 hm2 hst6 hb6
    go_wp2_with (go_at_call 14; ((with_reducible refine HM1.out.mono ?_)))
    rintro e w7 ⟨rfl, q7, rfl⟩
    go_wp2_with (go_at_call 14; ((with_reducible refine (HM2.out _).mono ?_)))
    rintro e w8 ⟨rfl, q8, rfl⟩
    go_wp2_with (go_at_call 17; refine (HAW.out _).mono ?_; rintro e w9 ⟨rfl, hb9⟩)
    go_ret
    have h8 := (HB6.out.drewN' (q7 + q8))
    first
      | exact ⟨rfl, h8.trans (hb9.mono h8.size)⟩
      | (have h8' := (HB6.out.drewN' q7).drewN' q8; exact ⟨rfl, h8'.trans (hb9.mono h8'.size)⟩)
end Go.Proofs.Ytjdmmgaddbleeaa
