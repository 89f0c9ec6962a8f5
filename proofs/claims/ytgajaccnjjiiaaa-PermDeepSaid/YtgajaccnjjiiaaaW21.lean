/- Inverses, and the reference's codes: the walks. -/
import Derived.Test.YtgajaccnjjiiaaaL1
import Derived.Test.YtgajaccnjjiiaaaW6
namespace Go.Proofs.Ytgajaccnjjiiaaa
open Go.RowKit

theorem i64s_zero (n : Nat) : List.replicate n (Value.int .i64 0) = I64s (List.replicate n 0) := by simp [I64s]

set_option maxHeartbeats 1000000 in
theorem inverse_any (v : Value) (p : List Int) (w : World) (hv : Ints w v p) (hp : ∀ x ∈ p, 0 ≤ x ∧ x < p.length) (hl : p.length ≤ 1000) :
    Calls Try.prog 72 #[v] w fun e w' => ∃ u, e = .returned u ∧ Ints w' u (posM p) ∧ Below w.heap.size w w' := by
  obtain ⟨ad, n, cap, rfl, HN, hn'⟩ := hv.open
  have hl' : n ≤ 1000 := by have := HN.out; omega
  have HP := Lib.hid hp
  clear hp hl
  go_enter Try.func72, Try.ntmps72
  go_wp2_with (at_make; refine wpList_makeV Try.info3 Try.underlying22 rfl rfl _ _ rfl n rfl rfl (by omega) (by omega) (by omega) (by omega) ?_; intro w1 hb1 hB1 hs1)
  have hz1 := hB1.size
  rw [i64s_zero, show List.replicate n (0 : Int) = posTo p 0 by rw [posTo, HN.out]] at hb1
  go_loopw [11] (fun i wr => ∃ k : Nat, k ≤ n ∧ i = .int .i64 k ∧ Blk wr w.heap.size 3 (I64s (posTo p k)) ∧ Below w.heap.size w wr) (fun i _ => n - (intOf i).toNat)
  case atStart => exact ⟨0, by omega, rfl, hb1, hB1⟩
  case round =>
    clear hb1 hs1
    obtain ⟨k, hk, rfl, hb, hB⟩ := hrel
    by_cases hlt : k < n
    · obtain ⟨b, o, x, rfl, hx, hc⟩ := (hv.below hB (Nat.le_refl _)).at_ hlt
      obtain ⟨h0, h1⟩ := HP.out x (List.mem_of_getElem? hx.out)
      rw [HN.out] at h1
      obtain ⟨m, rfl⟩ := Int.eq_ofNat_of_zero_le h0
      have hm : m < n := by omega
      obtain ⟨y, hy⟩ := get_of_lt (zs := posTo p k) (k := m) (by rw [posTo_len, HN.out]; exact hm)
      have c2 := hb.cell (i64s_get hy)
      have f2 := hb.free m
      have hst : posTo p (k + 1) = (posTo p k).set m k := by rw [posTo, hx.out]; rfl
      have HST := Lib.hid hst
      have HB := Lib.hid hb
      clear hst hy hb
      go_wp2_with fail
      go_roundw
      case rel =>
        refine ⟨k + 1, by omega, by go_num, ?_, hB.setCell (Nat.le_refl _) _⟩
        have := HB.out.set m (.int .i64 k)
        rw [i64s_set] at this
        rw [HST.out]; exact this
      case measure => simp [intOf]; omega
    · obtain rfl : k = n := by omega
      have HB := Lib.hid hb
      clear hb
      go_wp2_with fail
      go_ret
      refine ⟨_, rfl, ?_, hB⟩
      have := HB.out.ints (n := k) (c := k) (by rw [posTo_len, HN.out]) ⟨Nat.le_refl _, by omega⟩
      unfold posM
      rw [HN.out]; exact this

set_option maxHeartbeats 1000000 in
theorem rinverse_any (v : Value) (p : List Int) (w : World) (hv : Ints w v p) (hp : ∀ x ∈ p, 0 ≤ x ∧ x < p.length) (hl : p.length ≤ 1000) :
    Calls Try.prog 34 #[v] w fun e w' => ∃ u, e = .returned u ∧ Ints w' u (posM p) ∧ Below w.heap.size w w' := by
  obtain ⟨ad, n, cap, rfl, HN, hn'⟩ := hv.open
  have hl' : n ≤ 1000 := by have := HN.out; omega
  have HP := Lib.hid hp
  clear hp hl
  go_enter Try.func34, Try.ntmps34
  go_wp2_with (at_make; refine wpList_makeV Try.info3 Try.underlying22 rfl rfl _ _ rfl n rfl rfl (by omega) (by omega) (by omega) (by omega) ?_; intro w1 hb1 hB1 hs1)
  have hz1 := hB1.size
  rw [i64s_zero, show List.replicate n (0 : Int) = posTo p 0 by rw [posTo, HN.out]] at hb1
  go_loopw [4] (fun i wr => ∃ k : Nat, k ≤ n ∧ i = .int .i64 k ∧ Blk wr w.heap.size 3 (I64s (posTo p k)) ∧ Below w.heap.size w wr) (fun i _ => n - (intOf i).toNat)
  case atStart => exact ⟨0, by omega, rfl, hb1, hB1⟩
  case round =>
    clear hb1 hs1
    obtain ⟨k, hk, rfl, hb, hB⟩ := hrel
    by_cases hlt : k < n
    · obtain ⟨b, o, x, rfl, hx, hc⟩ := (hv.below hB (Nat.le_refl _)).at_ hlt
      obtain ⟨h0, h1⟩ := HP.out x (List.mem_of_getElem? hx.out)
      rw [HN.out] at h1
      obtain ⟨m, rfl⟩ := Int.eq_ofNat_of_zero_le h0
      have hm : m < n := by omega
      obtain ⟨y, hy⟩ := get_of_lt (zs := posTo p k) (k := m) (by rw [posTo_len, HN.out]; exact hm)
      have c2 := hb.cell (i64s_get hy)
      have f2 := hb.free m
      have hst : posTo p (k + 1) = (posTo p k).set m k := by rw [posTo, hx.out]; rfl
      have HST := Lib.hid hst
      have HB := Lib.hid hb
      clear hst hy hb
      go_wp2_with fail
      go_roundw
      case rel =>
        refine ⟨k + 1, by omega, by go_num, ?_, hB.setCell (Nat.le_refl _) _⟩
        have := HB.out.set m (.int .i64 k)
        rw [i64s_set] at this
        rw [HST.out]; exact this
      case measure => simp [intOf]; omega
    · obtain rfl : k = n := by omega
      have HB := Lib.hid hb
      clear hb
      go_wp2_with fail
      go_ret
      refine ⟨_, rfl, ?_, hB⟩
      have := HB.out.ints (n := k) (c := k) (by rw [posTo_len, HN.out]) ⟨Nat.le_refl _, by omega⟩
      unfold posM
      rw [HN.out]; exact this

theorem perm_range {p : List Int} (h : checkM p = 0) : ∀ x ∈ p, 0 ≤ x ∧ x < p.length := by
  have h2 : inRange p = true := by
    unfold checkM at h
    split at h
    · cases h
    · split at h
      · cases h
      · rename_i _ h3
        simpa using h3
  unfold inRange at h2
  rw [List.all_eq_true] at h2
  intro x hx
  have := h2 x hx
  simpa using this

theorem Inverse_any (v : Value) (p : List Int) (w : World) (hv : Ints w v p) (hch : checkM p = 0) (hl : p.length ≤ 1000) :
    Calls Try.prog 30 #[v] w fun e w' => ∃ u, e = .returned (.tuple #[u, .int .i64 0]) ∧ Ints w' u (posM p) ∧ Below w.heap.size w w' := by
  have hp := perm_range hch
  have HP := Lib.hid hp
  clear hp
  go_enter Try.func30, Try.ntmps30
  go_wp2_with (first | (go_at_call 63; refine (check_any _ p _ hv).mono ?_; rw [hch]; rintro e w1 ⟨rfl, hb⟩; have hv1 := hv.below hb (Nat.le_refl _)) | (go_at_call 72; refine (inverse_any _ p _ hv1 HP.out hl).mono ?_; rintro e w2 ⟨u, rfl, hu, hb2⟩))
  go_ret2
  exact ⟨_, rfl, hu, hb.trans (hb2.mono hb.size)⟩
theorem Inverse_bad (v : Value) (p : List Int) (w : World) (hv : Ints w v p) (hch : checkM p = 20) :
    Calls Try.prog 30 #[v] w fun e w' => e = .returned (.tuple #[.slice none 0 0, .int .i64 20]) ∧ Below w.heap.size w w' := by
  go_enter Try.func30, Try.ntmps30
  go_wp2_with (go_at_call 63; refine (check_any _ p _ hv).mono ?_; rw [hch]; rintro e w1 ⟨rfl, hb⟩)
  go_ret2
  exact ⟨rfl, hb⟩

set_option maxHeartbeats 2000000 in
theorem rcode_any (v : Value) (p : List Int) (w : World) (hv : Ints w v p) (hl : p.length ≤ 1000) :
    Calls Try.prog 36 #[v] w fun e w' => ∃ u, e = .returned u ∧ Own w' w.heap.size 3 u (codeM p) ∧ Below w.heap.size w w' := by
  obtain ⟨ad, n, cap, rfl, HN, hn'⟩ := hv.open
  have hl' : n ≤ 1000 := by have := HN.out; omega
  clear hl
  go_enter Try.func36, Try.ntmps36
  go_wp2_with fail
  go_loopw [3, 4] (fun u i wr => ∃ k : Nat, k ≤ n ∧ i = .int .i64 k ∧ Own wr w.heap.size 3 u (rcTo p k) ∧ Below w.heap.size w wr) (fun _ i _ => n - (intOf i).toNat)
  case atStart => exact ⟨0, by omega, rfl, Own.nil _ _ _, Below.refl _ _⟩
  case round =>
    obtain ⟨k, hk, rfl, hown, hB⟩ := hrel
    have hsz := hB.size
    by_cases hlt : k < n
    · obtain ⟨b, o, x, rfl, hx, hc⟩ := (hv.below hB (Nat.le_refl _)).at_ hlt
      go_wp2_with fail
      go_loopw [5, 6] (fun t j wx => ∃ m : Nat, m ≤ n - (k + 1) ∧ j = .int .i64 ((k : Int) + 1 + m) ∧ t = .int .i64 ((rowTo p k m).length : Nat) ∧ ∃ q, wx = wr.drewN q) (fun _ j _ => n - (intOf j).toNat)
      case atStart => exact ⟨0, by omega, by go_num, rfl, 0, rfl⟩
      case round =>
        obtain ⟨m, hm, rfl, rfl, q, rfl⟩ := hrel
        have hrl : (rowTo p k m).length ≤ m := rowTo_length p k m
        by_cases hlm : k + 1 + m < n
        · obtain ⟨y, hy, hcy⟩ := (hv.below hB (Nat.le_refl _)).cell_ (k := k + 1 + m) hlm
          have hrow : (rowTo p k (m + 1)).length = (rowTo p k m).length + (if y < x then 1 else 0) := by
            rw [rowTo, hy.out, hx.out, List.length_append]
            simp only [Option.getD_some]
            split <;> rfl
          generalize (rowTo p k m).length = c at *
          have HROW := Lib.hid hrow
          clear hrow
          have e1 : (k : Int) + 1 + m < n := by omega
          have e2 : (0 : Int) ≤ (k : Int) + 1 + m := by omega
          by_cases hyx : y < x
          · have hd : decide (y < x) = true := by simpa using hyx
            go_wp2_with fail
            go_quiet (fail)
            go_wp2_with fail
            go_roundw
            case rel => exact ⟨m + 1, by omega, by go_num, by rw [HROW.out, if_pos hyx]; rfl, _, rfl⟩
            case measure => simp [intOf]; omega
          · have hd : decide (y < x) = false := by simpa using hyx
            go_wp2_with fail
            go_quiet (fail)
            go_wp2_with fail
            go_roundw
            case rel => exact ⟨m + 1, by omega, by go_num, by rw [HROW.out, if_neg (by omega)]; rfl, _, rfl⟩
            case measure => simp [intOf]; omega
        · have hr : rcTo p (k + 1) = rcTo p k ++ [((rowTo p k m).length : Int)] := by
            rw [rcTo_succ, rowN, HN.out, show n - (k + 1) = m by omega]
          generalize (rowTo p k m).length = c at *
          have HR := Lib.hid hr
          clear hr
          go_wp2_with (at_builtin; refine wpList_app1 Try.info3 Try.underlying22 (World.ownsRow.keep hown ((Below.refl _ _).drewN' _)) hsz (by rw [rcTo_len]; omega) rfl _ _ rfl rfl rfl ?_; intro v3 w3 hown3 hgrow3 hb3 hsh3)
          go_roundw
          case rel => exact ⟨k + 1, by omega, by go_num, by rw [HR.out]; exact hown3, (hB.drewN' q).trans hb3⟩
          case measure => simp [intOf]; omega
    · obtain rfl : k = n := by omega
      have hc : rcTo p k = codeM p := by rw [← rcTo_codeM, HN.out]
      have hown' : Own wr w.heap.size 3 u3 (codeM p) := hc ▸ hown
      go_wp2_with fail
      go_ret
      exact ⟨_, rfl, hown', hB⟩
end Go.Proofs.Ytgajaccnjjiiaaa
