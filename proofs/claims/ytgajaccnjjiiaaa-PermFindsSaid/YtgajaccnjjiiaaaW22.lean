/- Inversions and factorials: the walks. -/
import Derived.Test.YtgajaccnjjiiaaaW21
namespace Go.Proofs.Ytgajaccnjjiiaaa
open Go.RowKit Go.Shelf
attribute [local go_sem] Oper.semAt_some

set_option maxRecDepth 100000 in
set_option maxHeartbeats 2000000 in
theorem Inversions_any (v : Value) (p : List Int) (w : World) (hv : Ints w v p) (hch : checkM p = 0) (hl : p.length ≤ 1000) :
    Calls Try.prog 31 #[v] w fun e w' => e = .returned (.tuple #[.int .i64 ((invs p).length : Nat), .int .i64 0]) ∧ Below w.heap.size w w' := by
  obtain ⟨ao, n, cap, rfl, HN, hn'⟩ := hv.open
  have hn2 : n ≤ 1000 := by have := HN.out; omega
  refine (callsIn_wide (n := 6)).1 ?_
  refine callsIn_of_wp_marks Try.func31 rfl trivial ?_ rfl
  simp only [Try.ntmps31, List.size_toArray, List.length_cons, List.length_nil, Nat.reduceAdd, Nat.reduceSub, Array.replicate_succ, Array.replicate_zero, List.push_toArray, List.append_toArray, List.nil_append, List.cons_append]
  refine wpIn_wide.2 ?_
  go_wp2_with (first | (go_at_call 63; refine (check_any _ p _ hv).mono ?_; rw [hch]; rintro e w1 ⟨rfl, hB1⟩) | (go_at_call 73; refine (inversions_plain _ _ _ _).mono ?_; rintro e w' ⟨rfl, rfl⟩))
  have hle1 := hB1.size
  have hn3 : p.length = n := HN.out
  have hvw : Ints w1 (.slice ao n cap) p := hv.below hB1 (Nat.le_refl _)
  have hB2 : Below w.heap.size w ((w1.alloc (.cells #[.int .i64 0] 3)).alloc (.cells #[.slice ao n cap] 22)) := (hB1.alloc hle1 _).alloc (by simp; omega) _
  have hbx2 := (Blk.new (w1.alloc (.cells #[.int .i64 0] 3)) 22 [.slice ao n cap]).cell (j := 0) rfl
  rw [World.size_alloc] at hbx2
  have hb0 := (Blk.new w1 3 [.int .i64 0]).alloc (.cells #[.slice ao n cap] 22)
  obtain ⟨b, hbS⟩ := hvw.slAt ((Below.refl w1.heap.size w1).alloc (Nat.le_refl _) (.cells #[.int .i64 0] 3) |>.alloc (by simp) (.cells #[.slice ao n cap] 22)) hbx2
  refine (wpIn_wide (n := 6)).1 ?_
  refine wpIn_rangeFunc_ownF rfl (by omega) (gf := 104) (lb := #[.pointer (some ⟨w1.heap.size + 1, 0, none⟩)]) rfl trivial (enters_of Try.func104 (by kernel_rfl) rfl)
    (inv_stops Fence.wide 5 trivial rfl (by omega) (w1.heap.size + 1) b (.slice ao n cap) p (by omega) _ hbS.1 (by simp) (by intro h; have := hbS.2 h; simp; omega)) KpP_t KpP_b (Below.refl _ _) (fun _ => rfl)
    (fun pre W => Blk W w1.heap.size 3 [.int .i64 (pre.length : Nat)] ∧ Below w.heap.size w W)
    (fun _ _ _ => False)
    (OwnFrom.and (Own.from (fun s A B row hs hg hr => hs.own hg hr) _) (ownFrom_below (Nat.le_refl _) (by simp; omega)))
    (fun _ _ _ _ _ hs _ _ => hs)
    ?h0
    (fun x => { tmps := #[.slice ao n cap, undef, .int .i64 0, .int .i64 0, .int .i64 0, .pointer (some ⟨w1.heap.size, 0, none⟩), .slice ao n cap, .int .i64 0, .int .i64 0, .bool false, undef, .slice ao n cap, .func (.func 104) #[] #[.pointer (some ⟨w1.heap.size + 1, 0, none⟩)], .int .i64 x.1.1, .int .i64 x.1.2, undef, undef, undef], defers := [] }) ?assign ?body ?done ?stop
  case h0 => exact ⟨hb0, hB2⟩
  case assign =>
    intro l x W K hK
    gi_wp2
    simpa using hK
  case body =>
    rintro l pre x W ⟨hb, hB⟩ hlen
    have hx := invs_lt p x.1 x.2
    have hcl : pre.length ≤ 1000000 := by
      have h2 := invs_length p hl
      omega
    have hcell := hb.cell (j := 0) rfl
    have hfr := hb.free 0
    have HB := Lib.hid hb
    clear hb
    gi_wp2
    refine ⟨KeepsOthers.setCell _ _ _, KpP.setCell (by omega) (by have := hbS.2 (by omega); omega) _ _, ?_, hB.setCell hle1 _⟩
    have := HB.out.set 0 (.int .i64 ((pre.length : Int) + 1))
    simpa using this
  case done =>
    rintro D ys W hD hys ⟨hb, hB⟩ hK
    have hyl : ys.length = (invs p).length := by rw [← hys]; simp [vals]
    rw [hyl] at hb
    have hc := hb.cell (j := 0) rfl
    have HB := Lib.hid hb
    clear hb
    go_wp2
    refine ⟨by simp, .inl ⟨_, _, rfl, run_takeDeferred hK, ?_⟩⟩
    refine ⟨_, results_tmp2 rfl _ _ _, ?_⟩
    exact ⟨rfl, hB.trans (belowK_b (w := w) (Nat.le_refl _) W D _ _ (by simp at hD; omega) hK rfl rfl)⟩
  case stop =>
    rintro D c pre W _ _ h _
    exact h.elim

theorem Inversions_bad (v : Value) (p : List Int) (w : World) (hv : Ints w v p) (hch : checkM p = 20) :
    Calls Try.prog 31 #[v] w fun e w' => e = .returned (.tuple #[.int .i64 0, .int .i64 20]) ∧ Below w.heap.size w w' := by
  go_enter Try.func31, Try.ntmps31
  go_wp2_with (go_at_call 63; refine (check_any _ p _ hv).mono ?_; rw [hch]; rintro e w1 ⟨rfl, hb⟩)
  go_ret2
  exact ⟨rfl, hb⟩

set_option maxHeartbeats 1000000 in
theorem rInversions_any (v : Value) (p : List Int) (w : World) (hv : Ints w v p) (hl : p.length ≤ 1000) :
    Calls Try.prog 35 #[v] w fun e w' => e = .returned (.int .i64 ((invs p).length : Nat)) ∧ Below w.heap.size w w' := by
  have hil := invs_length p hl
  go_enter Try.func35, Try.ntmps35
  go_wp2_with (go_at_call 36; refine (rcode_any _ p _ hv hl).mono ?_; rintro e w1 ⟨u, rfl, hown, hB⟩; obtain ⟨ad, n, cap, rfl, HN, hn'⟩ := (Own.ints hown).open)
  have hu := Own.ints hown
  have hpl : n = p.length := by rw [← HN.out, codeM_length]
  go_loop [3, 5] (fun t i => ∃ k : Nat, k ≤ n ∧ i = .int .i64 k ∧ t = .int .i64 ((invTo p k).length : Nat)) (fun _ i => n - (intOf i).toNat)
  case atStart => exact ⟨0, by omega, rfl, rfl⟩
  case round =>
    obtain ⟨k, hk, rfl, rfl⟩ := hrel
    by_cases hlt : k < n
    · obtain ⟨b, o, x, rfl, hx, hc⟩ := hu.at_ hlt
      have hkp : k < p.length := by omega
      have hx2 : x = ((rowN p k : Nat) : Int) := by
        have := hx.out
        rw [codeM_get p hkp] at this
        exact (Option.some.inj this).symm
      subst hx2
      have hst : (invTo p (k + 1)).length = (invTo p k).length + rowN p k := by rw [invTo, List.length_append]; rfl
      have hle := (invTo_prefix p (i := k + 1) (i' := p.length) (by omega)).length_le
      rw [hst] at hle
      have hle2 : (invTo p k).length + rowN p k ≤ 1000000 := Nat.le_trans hle hil
      clear hle
      generalize (invTo p k).length = c at *
      generalize rowN p k = d at *
      have HST := Lib.hid hst
      clear hst
      go_wp2_with fail
      go_round
      case rel => exact ⟨k + 1, by omega, by go_num, by rw [HST.out]; go_num⟩
      case measure => simp [intOf]; omega
    · obtain rfl : k = n := by omega
      go_wp2_with fail
      go_ret
      exact ⟨rfl, hB⟩

theorem fct_step : ∀ k, k < 20 → wrap64 (((fct k : Nat) : Int) * ((k : Int) + 1)) = ((fct (k + 1) : Nat) : Int) := by decide +kernel

set_option maxHeartbeats 400000 in
theorem factorial_any (n : Nat) (w : World) (h : n ≤ 20) :
    Calls Try.prog 76 #[.int .i64 n] w fun e w' => e = .returned (.int .i64 ((fct n : Nat) : Int)) ∧ w = w' := by
  go_enter Try.func76, Try.ntmps76
  go_wp2_with fail
  go_loop [3, 6] (fun t i => ∃ j : Nat, j ≤ n ∧ i = .int .i64 j ∧ t = .int .i64 ((fct j : Nat) : Int)) (fun _ i => n - (intOf i).toNat)
  case atStart => exact ⟨0, by omega, rfl, rfl⟩
  case round =>
    obtain ⟨j, hj, rfl, rfl⟩ := hrel
    by_cases hlt : j < n
    · have hs := fct_step j (by omega)
      generalize fct j = c at *
      have HS := Lib.hid hs
      clear hs
      go_wp2_with fail
      go_round
      case rel => exact ⟨j + 1, by omega, by go_num, by rw [← HS.out]⟩
      case measure => simp [intOf]; omega
    · obtain rfl : j = n := by omega
      go_wp2_with fail
      go_ret
      exact ⟨rfl, rfl⟩

set_option maxHeartbeats 400000 in
theorem Factorial_any (n : Nat) (w : World) (h : n ≤ 20) :
    Calls Try.prog 42 #[.int .i64 n] w fun e w' => e = .returned (.int .i64 ((fct n : Nat) : Int)) ∧ w = w' := by
  go_enter Try.func42, Try.ntmps42
  go_wp2_with fail
  go_loop [3, 4] (fun t i => ∃ j : Nat, j ≤ n - 1 ∧ i = .int .i64 ((j : Int) + 2) ∧ t = .int .i64 ((fct (j + 1) : Nat) : Int)) (fun _ i => n + 2 - (intOf i).toNat)
  case atStart => exact ⟨0, by omega, rfl, rfl⟩
  case round =>
    obtain ⟨j, hj, rfl, rfl⟩ := hrel
    by_cases hlt : j + 1 < n
    · have hs := fct_step (j + 1) (by omega)
      generalize fct (j + 1) = c at *
      have HS := Lib.hid hs
      clear hs
      have hle : (j : Int) + 2 ≤ n := by omega
      go_wp2_with fail
      go_round
      case rel => exact ⟨j + 1, by omega, by go_num, by rw [← HS.out, show (((j + 1 : Nat) : Int) + 1) = (j : Int) + 2 by omega]⟩
      case measure => simp [intOf]; omega
    · have hf : fct n = fct (j + 1) := by
        by_cases h0 : n = 0
        · subst h0
          obtain rfl : j = 0 := by omega
          rfl
        · rw [show n = j + 1 by omega]
      generalize fct (j + 1) = c at *
      have HF := Lib.hid hf
      clear hf
      have hle : ¬ (j : Int) + 2 ≤ n := by omega
      go_wp2_with fail
      go_ret
      exact ⟨by rw [HF.out]; rfl, rfl⟩

set_option maxHeartbeats 1000000 in
theorem Rank_long (v : Value) (p : List Int) (w : World) (hv : Ints w v p) (hch : checkM p = 0) (hl : 20 < p.length) :
    Calls Try.prog 33 #[v] w fun e w' => e = .returned (.tuple #[.int .i64 0, .int .i64 2]) ∧ Below w.heap.size w w' := by
  obtain ⟨ad, n, cap, rfl, HN, hn'⟩ := hv.open
  rw [HN.out] at hl
  go_enter Try.func33, Try.ntmps33
  go_wp2_with (go_at_call 63; refine (check_any _ p _ hv).mono ?_; rw [hch]; rintro e w1 ⟨rfl, hb⟩)
  go_ret2
  exact ⟨rfl, hb⟩
theorem Rank_bad (v : Value) (p : List Int) (w : World) (hv : Ints w v p) (hch : checkM p = 20) :
    Calls Try.prog 33 #[v] w fun e w' => e = .returned (.tuple #[.int .i64 0, .int .i64 20]) ∧ Below w.heap.size w w' := by
  go_enter Try.func33, Try.ntmps33
  go_wp2_with (go_at_call 63; refine (check_any _ p _ hv).mono ?_; rw [hch]; rintro e w1 ⟨rfl, hb⟩)
  go_ret2
  exact ⟨rfl, hb⟩

set_option maxHeartbeats 2000000 in
theorem Rank_any (v : Value) (p : List Int) (w : World) (hv : Ints w v p) (hch : checkM p = 0) (hl : p.length ≤ 20) :
    Calls Try.prog 33 #[v] w fun e w' => e = .returned (.tuple #[.int .i64 (hornTo p.length (codeM p) p.length), .int .i64 0]) ∧ Below w.heap.size w w' := by
  obtain ⟨ad, n, cap, rfl, HN, hn'⟩ := hv.open
  have hl' : n ≤ 20 := by have := HN.out; omega
  go_enter Try.func33, Try.ntmps33
  go_wp2_with (first | (go_at_call 63; refine (check_any _ p _ hv).mono ?_; rw [hch]; rintro e w1 ⟨rfl, hb⟩; have hv1 := hv.below hb (Nat.le_refl _)) | (go_at_call 74; refine (code_any _ p _ hv1 (by omega)).mono ?_; rintro e w2 ⟨u, rfl, hu, hb2⟩; obtain ⟨a2, n2, c2, rfl, HN2, hn2⟩ := hu.open))
  have hB := hb.trans (hb2.mono hb.size)
  have hnn : n2 = n := by
    have h1 := HN2.out
    have h2 : (cntL p.length (invs p)).length = p.length := cntL_len _ _
    have h3 := HN.out
    omega
  subst hnn
  have hu' : Ints w2 (.slice a2 n2 c2) (codeM p) := hu
  clear hu hb hb2
  go_loop [5, 19] (fun t i => ∃ k : Nat, k ≤ n2 ∧ i = .int .i64 k ∧ t = .int .i64 (hornTo n2 (codeM p) k)) (fun _ i => n2 - (intOf i).toNat)
  case atStart => exact ⟨0, by omega, rfl, rfl⟩
  case round =>
    obtain ⟨k, hk, rfl, rfl⟩ := hrel
    by_cases hlt : k < n2
    · obtain ⟨b, o, x, rfl, hx, hc⟩ := hu'.at_ hlt
      have hst : hornTo n2 (codeM p) (k + 1) = wrap64 (wrap64 (hornTo n2 (codeM p) k * ((n2 : Int) - k)) + x) := by rw [hornTo, hx.out]; rfl
      generalize hornTo n2 (codeM p) k = r at *
      have HST := Lib.hid hst
      clear hst hx hu'
      go_wp2_with fail
      go_round
      case rel => exact ⟨k + 1, by omega, by go_num, by rw [HST.out]⟩
      case measure => simp [intOf]; omega
    · obtain rfl : k = n2 := by omega
      have hpl : p.length = k := HN.out
      go_wp2_with fail
      go_ret2
      exact ⟨rfl, hB⟩

set_option maxRecDepth 100000 in
set_option maxHeartbeats 2000000 in
theorem rRank_any (v : Value) (p : List Int) (w : World) (hv : Ints w v p) (hl : p.length ≤ 20) :
    Calls Try.prog 37 #[v] w fun e w' => e = .returned (.int .i64 (rsumTo p.length (codeM p) p.length)) ∧ Below w.heap.size w w' := by
  go_enter Try.func37, Try.ntmps37
  go_wp2_with (go_at_call 36; refine (rcode_any _ p _ hv (by omega)).mono ?_; rintro e w1 ⟨u, rfl, hown, hB⟩; obtain ⟨ad, n, cap, rfl, HN, hn'⟩ := (Own.ints hown).open)
  have hu := Own.ints hown
  have hpl : n = p.length := by rw [← HN.out, codeM_length]
  have hl' : n ≤ 20 := by omega
  have HPL := Lib.hid hpl
  clear hpl hl hv
  go_loopw [4, 5] (fun t i wr => ∃ k : Nat, k ≤ n ∧ i = .int .i64 k ∧ t = .int .i64 (rsumTo n (codeM p) k) ∧ ∃ q, wr = w1.drewN q) (fun _ i _ => n - (intOf i).toNat)
  case atStart => exact ⟨0, by omega, rfl, rfl, 0, rfl⟩
  case round =>
    obtain ⟨k, hk, rfl, rfl, q, rfl⟩ := hrel
    by_cases hlt : k < n
    · obtain ⟨b, o, x, rfl, hx, hc⟩ := hu.at_ hlt
      have hst : rsumTo n (codeM p) (k + 1) = wrap64 (rsumTo n (codeM p) k + wrap64 (x * ((fct (n - 1 - k) : Nat) : Int))) := by rw [rsumTo, hx.out]; rfl
      have hfa := fun W => Factorial_any (n - 1 - k) W (by omega)
      rw [show ((n - 1 - k : Nat) : Int) = (n : Int) - 1 - k by omega] at hfa
      generalize rsumTo n (codeM p) k = r at *
      generalize fct (n - 1 - k) = f at *
      have HST := Lib.hid hst
      clear hst hx hu hown
      go_wp2_with fail
      go_quiet ((refine (hfa _).mono ?_; rintro e w3 ⟨rfl, rfl⟩; exact ⟨rfl, _, rfl⟩))
      go_wp2_with fail
      go_roundw
      case rel => exact ⟨k + 1, by omega, by go_num, by rw [HST.out], _, rfl⟩
      case measure => simp [intOf]; omega
    · obtain rfl : k = n := by omega
      go_wp2_with fail
      go_ret
      exact ⟨by rw [← HPL.out]; rfl, hB.drewN' q⟩
end Go.Proofs.Ytgajaccnjjiiaaa
