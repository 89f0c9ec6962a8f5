/- Fill: the walk. -/
import Derived.Test.YtgajaccnjjiiaaaW67
import Derived.Test.YtgajaccnjjiiaaaW68
namespace Go.Proofs.Ytgajaccnjjiiaaa
open Go.RowKit

theorem addN_small {f : TM → Nat} : ∀ {ts : List TM} {n : Nat}, addN f ts n ≤ 1000 → addN f ts n = n + (ts.map f).sum ∧ ∀ t ∈ ts, f t ≤ 1000
  | [], n, _ => by simp [addN]
  | t :: ts, n, h => by
    rw [addN] at h ⊢
    split at h
    · omega
    · rename_i h1
      rw [if_neg h1]
      obtain ⟨h2, h3⟩ := addN_small h
      refine ⟨by rw [h2]; simp; omega, fun u hu => ?_⟩
      rcases List.mem_cons.1 hu with rfl | hu
      · omega
      · exact h3 u hu
theorem size_deep : ∀ (l : Nat) (t : TM), sizeT l t ≤ 1000 → DeepAt l t ∧ nodesT l t = sizeT l t
  | 0, t, h => by rw [sizeT] at h; omega
  | l + 1, .mk k perm ps, h => by
    rw [sizeT] at h
    obtain ⟨h1, h2⟩ := addN_small h
    have h3 := fun t ht => size_deep l t (h2 t ht)
    refine ⟨by rw [DeepAt]; exact fun t ht => (h3 t ht).1, ?_⟩
    rw [nodesT, sizeT, h1, List.map_congr_left (fun t ht => (h3 t ht).2)]

def fillM (t : TM) : Option (List Int) :=
  if sizeT 100 t ≤ 1000 ∧ fitsT 100 t = true then (if checkM (filledT 100 t) = 0 ∧ eqT 61 (treeF 60 (filledT 100 t)) t = true then some (filledT 100 t) else none) else none

set_option maxRecDepth 100000 in
set_option maxHeartbeats 8000000 in
theorem Fill_any (v : Value) (t : TM) (w : World) (ok : Nat → Prop) (ht : TreeAt w ok v t) :
    Calls Try.prog 47 #[v] w fun e w' => ∃ u, e = .returned (.tuple #[u, .int .i64 (if (fillM t).isSome then 0 else 21)]) ∧ Ints w' u ((fillM t).getD []) ∧ Below w.heap.size w w' := by
  obtain ⟨k, a1, n1, c1, a2, n2, c2, rfl⟩ := ht.slices
  have hB := (Below.refl w.heap.size w).alloc (Nat.le_refl _) (.cells #[.int .i64 k, .slice a1 n1 c1, .slice a2 n2 c2] 41)
  have ht0 := ht.keep hB
  have hbk := Blk.new w 41 [.int .i64 k, .slice a1 n1 c1, .slice a2 n2 c2]
  have hsz := size_any 100 _ t _ ok (by omega) ht0
  have hbd := sizeT_le 100 t
  have HB := Lib.hid hB
  have HT0 := Lib.hid ht0
  have HBK := Lib.hid hbk
  by_cases hs : sizeT 100 t ≤ 1000
  · obtain ⟨hdp, hnd⟩ := size_deep 100 t hs
    have hfi := fun W (h : TreeAt W ok (.agg #[.int .i64 k, .slice a1 n1 c1, .slice a2 n2 c2]) t) => fits_any 100 _ t W ok h hdp
    have hF1 : fillM t = if fitsT 100 t = true then (if checkM (filledT 100 t) = 0 ∧ eqT 61 (treeF 60 (filledT 100 t)) t = true then some (filledT 100 t) else none) else none := by
      rw [fillM]
      cases fitsT 100 t <;> simp [hs]
    rw [← hnd] at hsz hbd hs
    have hsi : ¬ (1000 : Int) < (nodesT 100 t : Int) := by omega
    cases hf : fitsT 100 t
    · rw [hf] at hfi hF1
      have hF2 : fillM t = none := by rw [hF1]; rfl
      have HF := Lib.hid hF2
      have HSZ := Lib.hid hsz
      have HFI := Lib.hid hfi
      clear hF1 hF2 hsz hfi hf hdp hnd ht ht0 hbk hB hs
      generalize nodesT 100 t = s at *
      rw [HF.out]
      show Calls Try.prog 47 _ w fun e w' => ∃ u, e = .returned (.tuple #[u, .int .i64 21]) ∧ Ints w' u [] ∧ Below w.heap.size w w'
      go_enter Try.func47, Try.ntmps47
      go_wp2_with (first
        | (go_at_call 81; refine HSZ.out.mono ?_; rintro e w2 ⟨rfl, hb2⟩; have hk2 := HBK.out.keep hb2; have q0 := hk2.cell (j := 0) rfl; have q1 := hk2.cell (j := 1) rfl; have q2 := hk2.cell (j := 2) rfl; have ht2 := HT0.out.keep hb2)
        | (go_at_call 82; refine (HFI.out _ ht2).mono ?_; rintro e w3 ⟨rfl, hb3⟩))
      go_ret2
      exact ⟨_, rfl, Ints.nil _, HB.out.trans ((hb2.mono HB.out.size).trans (hb3.mono (Nat.le_trans HB.out.size hb2.size)))⟩
    · rw [hf] at hfi hF1
      have hgd : GoodT 100 t := ⟨hf, hs⟩
      have hfl := fun W (h : TreeAt W ok (.agg #[.int .i64 k, .slice a1 n1 c1, .slice a2 n2 c2]) t) => filled_any 100 (by omega) _ t W ok h hgd
      have hF2 : fillM t = if checkM (filledT 100 t) = 0 ∧ eqT 61 (treeF 60 (filledT 100 t)) t = true then some (filledT 100 t) else none := by rw [hF1]; rfl
      generalize filledT 100 t = p at *
      rcases check_or p with hc | hc
      · obtain ⟨hc1, hc2, hc3, _⟩ := check_zero hc
        have heq := fun v W ok2 (h1 : TreeAt W ok2 v (treeF 60 p)) (h2 : TreeAt W ok (.agg #[.int .i64 k, .slice a1 n1 c1, .slice a2 n2 c2]) t) => equal_any 61 v _ (treeF 60 p) t W ok2 ok (deep_treeF 60 p) h1 h2
        have hF3 : fillM t = if eqT 61 (treeF 60 p) t = true then some p else none := by
          rw [hF2]
          cases eqT 61 (treeF 60 p) t <;> simp [hc]
        have htr := fun v W (h : Ints W v p) => tree_any 60 v p W h hc1 hc2 (by omega) (fun x hx => by have := hc3 x hx; omega)
        generalize eqT 61 (treeF 60 p) t = bE at *
        generalize treeF 60 p = T at *
        generalize fillM t = FM at *
        have HF := Lib.hid hF3
        have HSZ := Lib.hid hsz
        have HFI := Lib.hid hfi
        have HFL := Lib.hid hfl
        have HEQ := Lib.hid heq
        have HTR := Lib.hid htr
        have HC := Lib.hid hc
        clear hF1 hF2 hF3 hsz hfi hf hdp hnd ht ht0 hbk hB hs hfl heq htr hc hgd hc1 hc2 hc3
        generalize nodesT 100 t = s at *
        have hBf : ∀ {w2 w3 w4 : World}, Below w.heap.size w w2 → Below w2.heap.size w2 w3 → Below w3.heap.size w3 w4 → Below w.heap.size w w4 := fun h1 h2 h3 => h1.trans ((h2.mono h1.size).trans (h3.mono (Nat.le_trans h1.size h2.size)))
        cases bE
        case' false =>
          have hF4 : FM = none := by rw [HF.out]; rfl
          subst hF4
          show Calls Try.prog 47 _ w fun e w' => ∃ u, e = .returned (.tuple #[u, .int .i64 21]) ∧ Ints w' u [] ∧ Below w.heap.size w w'
        case' true =>
          have hF4 : FM = some p := by rw [HF.out]; rfl
          subst hF4
          show Calls Try.prog 47 _ w fun e w' => ∃ u, e = .returned (.tuple #[u, .int .i64 0]) ∧ Ints w' u p ∧ Below w.heap.size w w'
        all_goals
          clear HF
          go_enter Try.func47, Try.ntmps47
          go_upto_region 4 with (first
            | (go_at_call 81; refine HSZ.out.mono ?_; rintro e w2 ⟨rfl, hb2⟩; have hk2 := HBK.out.keep hb2; have q0 := hk2.cell (j := 0) rfl; have q1 := hk2.cell (j := 1) rfl; have q2 := hk2.cell (j := 2) rfl; have ht2 := HT0.out.keep hb2)
            | (go_at_call 82; refine (HFI.out _ ht2).mono ?_; rintro e w3 ⟨rfl, hb3⟩; have hk3 := hk2.keep hb3; have d0 := hk3.cell (j := 0) rfl; have d1 := hk3.cell (j := 1) rfl; have d2 := hk3.cell (j := 2) rfl; have ht3 := ht2.keep hb3)
            | (go_at_call 83; refine (HFL.out _ ht3).mono ?_; rintro e w4 ⟨u4, rfl, ho4, hb4⟩; have hi4 := ho4.ints; obtain ⟨a4, n4, c4, rfl, _, _⟩ := hi4.open; have hk4 := hk3.keep hb4; have ht4 := ht3.keep hb4))
          have hB4 : Below w.heap.size w w4 := HB.out.trans ((hb2.mono HB.out.size).trans ((hb3.mono (Nat.le_trans HB.out.size hb2.size)).trans (hb4.mono (Nat.le_trans HB.out.size (Nat.le_trans hb2.size hb3.size)))))
          have HB4 := Lib.hid hB4
          have HI4 := Lib.hid hi4
          have HK4 := Lib.hid hk4
          have HT4 := Lib.hid ht4
          clear q0 q1 q2 d0 d1 d2 hk2 hk3 ht2 ht3 ho4 hi4 hk4 ht4 hB4 hb2 hb3 hb4
          have hi4d : Ints w4.drew (.slice a4 n4 c4) p := HI4.out.below ((Below.refl w4.heap.size w4).drewN' 1) (Nat.le_refl _)
          go_region_law ((first
            | (go_simp; go_at_call 63; refine (check_any _ p _ hi4d).mono ?_; rw [HC.out]; rintro e w5 ⟨rfl, hb5⟩; have hb5' : Below w4.heap.size w4 w5 := ((Below.refl _ w4).drewN' 1).trans (by exact hb5); have hi5 := HI4.out.below hb5' (Nat.le_refl _); have hk5 := HK4.out.keep hb5'; have q0 := hk5.cell (j := 0) rfl; have q1 := hk5.cell (j := 1) rfl; have q2 := hk5.cell (j := 2) rfl; have ht5 := HT4.out.keep hb5'; dsimp only)
            | (go_simp; go_at_call 70; refine (HTR.out _ _ (by exact hi5)).mono ?_; rintro e w6 ⟨u6, rfl, ht6, hb6⟩; obtain ⟨k6, a6, n6, c6, a6', n6', c6', rfl⟩ := ht6.slices; have hb6' : Below w5.heap.size w5 w6 := (by exact hb6); have hi6 := hi5.below hb6' (Nat.le_refl _); have hk6 := hk5.keep hb6'; have e0 := hk6.cell (j := 0) rfl; have e1 := hk6.cell (j := 1) rfl; have e2 := hk6.cell (j := 2) rfl; have ht6t := ht5.keep hb6'; dsimp only)
            | (go_simp; go_at_call 84; refine (HEQ.out _ _ _ (by exact ht6) (by exact ht6t)).mono ?_; rintro e w7 ⟨rfl, hb7⟩; dsimp only)
            | (fail "NONE")))
          all_goals
            go_wp2_with fail
            go_ret2
            have hbz := hBf HB4.out hb5' (hb6'.trans (hb7.mono hb6'.size))
            first
              | exact ⟨_, rfl, Ints.nil _, hbz⟩
              | exact ⟨_, rfl, hi6.below hb7 (Nat.le_refl _), hbz⟩
      · have hF3 : fillM t = none := by rw [hF2, if_neg (by rw [hc]; simp)]
        have HF := Lib.hid hF3
        have HSZ := Lib.hid hsz
        have HFI := Lib.hid hfi
        have HFL := Lib.hid hfl
        have HC := Lib.hid hc
        clear hF1 hF2 hF3 hsz hfi hf hdp hnd ht ht0 hbk hB hs hfl hc hgd
        rw [HF.out]
        show Calls Try.prog 47 _ w fun e w' => ∃ u, e = .returned (.tuple #[u, .int .i64 21]) ∧ Ints w' u [] ∧ Below w.heap.size w w'
        generalize nodesT 100 t = s at *
        go_enter Try.func47, Try.ntmps47
        go_upto_region 4 with (first
          | (go_at_call 81; refine HSZ.out.mono ?_; rintro e w2 ⟨rfl, hb2⟩; have hk2 := HBK.out.keep hb2; have q0 := hk2.cell (j := 0) rfl; have q1 := hk2.cell (j := 1) rfl; have q2 := hk2.cell (j := 2) rfl; have ht2 := HT0.out.keep hb2)
          | (go_at_call 82; refine (HFI.out _ ht2).mono ?_; rintro e w3 ⟨rfl, hb3⟩; have hk3 := hk2.keep hb3; have d0 := hk3.cell (j := 0) rfl; have d1 := hk3.cell (j := 1) rfl; have d2 := hk3.cell (j := 2) rfl; have ht3 := ht2.keep hb3)
          | (go_at_call 83; refine (HFL.out _ ht3).mono ?_; rintro e w4 ⟨u4, rfl, ho4, hb4⟩; have hi4 := ho4.ints; obtain ⟨a4, n4, c4, rfl, _, _⟩ := hi4.open))
        have hB4 : Below w.heap.size w w4 := HB.out.trans ((hb2.mono HB.out.size).trans ((hb3.mono (Nat.le_trans HB.out.size hb2.size)).trans (hb4.mono (Nat.le_trans HB.out.size (Nat.le_trans hb2.size hb3.size)))))
        have hi4d : Ints w4.drew (.slice a4 n4 c4) p := hi4.below ((Below.refl w4.heap.size w4).drewN' 1) (Nat.le_refl _)
        have HB4 := Lib.hid hB4
        clear q0 q1 q2 d0 d1 d2 hk2 hk3 ht2 ht3 ho4 hi4 hB4 hb2 hb3 hb4
        have hcn : (checkM p != 0) = true := by rw [HC.out]; rfl
        first
          | go_region_law ((go_simp; go_at_call 63; refine (check_any _ p _ hi4d).mono ?_; rintro e w5 ⟨rfl, hb5⟩; have hb5' : Below w4.heap.size w4 w5 := ((Below.refl _ w4).drewN' 1).trans (by exact hb5); dsimp only))
          | (fail)
        all_goals
          go_wp2_with fail
          go_ret2
          exact ⟨_, rfl, Ints.nil _, HB4.out.trans (hb5'.mono HB4.out.size)⟩
  · have hF : fillM t = none := by rw [fillM, if_neg (fun h => hs h.1)]
    have hsi : (1000 : Int) < (sizeT 100 t : Int) := by omega
    have HF := Lib.hid hF
    have HSZ := Lib.hid hsz
    clear hF hsz ht ht0 hbk hB hs
    rw [HF.out]
    show Calls Try.prog 47 _ w fun e w' => ∃ u, e = .returned (.tuple #[u, .int .i64 21]) ∧ Ints w' u [] ∧ Below w.heap.size w w'
    generalize sizeT 100 t = s at *
    go_enter Try.func47, Try.ntmps47
    go_wp2_with (go_at_call 81; refine HSZ.out.mono ?_; rintro e w2 ⟨rfl, hb2⟩)
    go_ret2
    exact ⟨_, rfl, Ints.nil _, HB.out.trans (hb2.mono HB.out.size)⟩
end Go.Proofs.Ytgajaccnjjiiaaa
