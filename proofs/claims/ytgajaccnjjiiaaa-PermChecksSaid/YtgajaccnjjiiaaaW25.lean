/- The reference's FromCode: the walk. -/
import Derived.Test.YtgajaccnjjiiaaaW24
namespace Go.Proofs.Ytgajaccnjjiiaaa
open Go.RowKit

theorem Blk.own_ {w : World} {g base : Nat} {e : TypeId} {zs : List Int} (h : Blk w g e (I64s zs)) (hb : base ≤ g) (hl : zs.length ≤ 9223372036854775807) : Own w base e (.slice (some ⟨g, 0, none⟩) zs.length zs.length) zs := by
  refine ⟨by simp, .inr ⟨g, zs.length, (I64s zs).toArray, rfl, hb, h, Nat.le_refl _, by unfold maxLen; omega, by simp, ?_⟩⟩
  simp [List.take_of_length_le]

/-- the numbers, as they are stored -/
def ioTo (n k : Nat) : List Int := iota k ++ List.replicate (n - k) 0
theorem ioTo_len {n k : Nat} (h : k ≤ n) : (ioTo n k).length = n := by simp [ioTo, iota_len]; omega
theorem ioTo_set {n k : Nat} (h : k < n) : (ioTo n k).set k (k : Int) = ioTo n (k + 1) := by
  obtain ⟨d, hd⟩ : ∃ d, n - k = d + 1 := ⟨n - k - 1, by omega⟩
  rw [ioTo, ioTo, hd, show n - (k + 1) = d by omega, iota_succ, List.set_append_right _ _ (by rw [iota_len]; omega), iota_len, Nat.sub_self, List.replicate_succ]
  simp
theorem ioTo_all (n : Nat) : ioTo n n = iota n := by simp [ioTo]

set_option maxRecDepth 100000 in
set_option maxHeartbeats 4000000 in
theorem rFromCode_any (v : Value) (c : List Int) (w : World) (hv : Ints w v c) (h1 : 1 ≤ c.length) (h2 : c.length ≤ 60) (hgood : Good c) :
    Calls Try.prog 40 #[v] w fun e w' => ∃ u, e = .returned u ∧ Own w' w.heap.size 3 u (fcM c) ∧ Below w.heap.size w w' := by
  obtain ⟨ad, n, cp0, rfl, HN, hn'⟩ := hv.open
  have hn1 : 1 ≤ n := by have := HN.out; omega
  have hn2 : n ≤ 60 := by have := HN.out; omega
  clear h1 h2
  have HGD := Lib.hid hgood
  clear hgood
  go_enter Try.func40, Try.ntmps40
  go_wp2_with (at_make; refine wpList_makeV Try.info3 Try.underlying22 rfl rfl _ _ rfl n rfl rfl (by omega) (by omega) (by omega) (by omega) ?_; intro w1 hb1 hB1 hs1)
  have hz1 := hB1.size
  rw [i64s_zero, show List.replicate n (0 : Int) = ioTo n 0 by simp [ioTo, iota]] at hb1
  go_loopw [4] (fun i wr => ∃ k : Nat, k ≤ n ∧ i = .int .i64 k ∧ Blk wr w.heap.size 3 (I64s (ioTo n k)) ∧ Below w.heap.size w wr) (fun i _ => n - (intOf i).toNat)
  case atStart => exact ⟨0, by omega, rfl, hb1, hB1⟩
  case round =>
    clear hb1 hs1
    obtain ⟨k, hk, rfl, hb, hB⟩ := hrel
    by_cases hlt : k < n
    · obtain ⟨y, hy⟩ := get_of_lt (zs := ioTo n k) (k := k) (by rw [ioTo_len hk]; exact hlt)
      have c2 := hb.cell (i64s_get hy)
      have f2 := hb.free k
      have HB := Lib.hid hb
      clear hy hb
      go_wp2_with fail
      go_roundw
      case rel =>
        refine ⟨k + 1, by omega, by go_num, ?_, hB.setCell (Nat.le_refl _) _⟩
        have := HB.out.set k (.int .i64 k)
        rw [i64s_set, ioTo_set hlt] at this
        exact this
      case measure => simp [intOf]; omega
    · obtain rfl : k = n := by omega
      rw [ioTo_all] at hb
      have hown0 := hb.own_ (base := w.heap.size) (Nat.le_refl _) (by rw [iota_len]; omega)
      rw [iota_len] at hown0
      clear hb
      go_wp2_with fail
      go_loopw [3, 5, 6] (fun u o i wx => ∃ j B1 : Nat, j ≤ k ∧ i = .int .i64 j ∧ Own wx B1 3 u (fcTo c j).1 ∧ Own wx w.heap.size 3 o (fcTo c j).2 ∧ Hid (∀ g, o.ownBlock = some g → g < B1) ∧ w.heap.size ≤ B1 ∧ Below w.heap.size w wx) (fun _ _ i _ => k - (intOf i).toNat)
      case atStart =>
        exact ⟨0, w.heap.size, by omega, rfl, by rw [fcTo, HN.out]; exact hown0, Own.nil _ _ _, (show Hid (∀ g, (Value.slice none 0 0).ownBlock = some g → g < w.heap.size) from fun g h => by rw [ob_nil] at h; cases h), Nat.le_refl _, hB⟩
      case round =>
        clear hown0 hB
        obtain ⟨j, B1, hj, rfl, hownL, hownO, HAP, hwB, hB⟩ := hrel
        have hsz := hB.size
        by_cases hlj : j < k
        · obtain ⟨b, o, x, rfl, hx, hc0⟩ := hv.at_ hlj
          have hblt : b < w.heap.size := World.block_lt_of_cell? w _ hc0
          have hc := (hB.cell (p := ⟨b, o + j, none⟩) hblt).trans hc0
          clear hc0
          have hLlen : (fcTo c j).1.length = k - j := by rw [fcTo_len1 c j (by rw [HN.out]; omega) (fun a x _ h => HGD.out a x h), HN.out]
          have hOlen : (fcTo c j).2.length = j := fcTo_len2 c j
          obtain ⟨hx0, hxm⟩ := HGD.out j x hx.out
          rw [HN.out] at hxm
          obtain ⟨m, rfl⟩ := Int.eq_ofNat_of_zero_le hx0
          obtain ⟨L, hL⟩ : ∃ L, j + L = k := ⟨k - j, by omega⟩
          rw [show k - j = L by omega] at hLlen
          have hmL : m < L := by omega
          obtain ⟨g, cap, rfl, hg1, hg2, hfz, hcs⟩ := Own.open hownL hLlen (by omega)
          obtain ⟨hcap, hcap2⟩ := (Own.ints hownL).cap_
          obtain ⟨y, hy⟩ := get_of_lt (zs := (fcTo c j).1) (k := m) (by omega)
          have hcy := hcs m y hy
          have hst : fcTo c (j + 1) = ((fcTo c j).1.eraseIdx m, (fcTo c j).2 ++ [y]) := by
            rw [fcTo, hx.out]
            simp only [Option.getD_some, Int.toNat_natCast]
            rw [hy]; rfl
          have HST := Lib.hid hst
          have HLL := Lib.hid hLlen
          have HOL := Lib.hid hOlen
          have hapart : ∀ g', (Value.slice (some ⟨g, 0, none⟩) L cap).ownBlock = some g' → u5.ownBlock ≠ some g' := by
            rintro g' h1 h2
            rw [ob_some] at h1
            cases h1
            have := HAP.out _ h2
            omega
          have HAP2 := Lib.hid hapart
          clear hst hLlen hOlen hx hy hapart hfz hcs
          have hm1 : (m : Int) + 1 ≤ L := by omega
          have hcapL : (L : Int) ≤ cap := by omega
          have hsubA : ∀ W, Own W B1 3 (.slice (some ⟨g, 0, none⟩) L cap) (fcTo c j).1 → Ints W (.slice (some ⟨g, 0, none⟩) m cap) ((fcTo c j).1.take m) := by
            intro W h
            by_cases h0 : 0 < m
            · have := (Own.ints h).sub (i := 0) (j := m) h0 (by omega)
              simpa using this
            · have e : ((fcTo c j).1.take m).length = m := by rw [List.length_take, HLL.out]; omega
              refine ⟨some ⟨g, 0, none⟩, cap, by rw [e], by rw [e]; omega, fun h => ?_⟩
              rw [e] at h; omega
          have hsubB : ∀ W, Own W B1 3 (.slice (some ⟨g, 0, none⟩) L cap) (fcTo c j).1 → Ints W (.slice (some ⟨g, m + 1, none⟩) (L - (m + 1)) (cap - (m + 1))) ((fcTo c j).1.drop (m + 1)) := by
            intro W h
            by_cases h0 : m + 1 < L
            · have := (Own.ints h).sub (i := m + 1) (j := L) h0 (by omega)
              rw [List.take_of_length_le (by rw [HLL.out]; exact Nat.le_refl _)] at this
              simpa using this
            · refine ⟨some ⟨g, m + 1, none⟩, cap - (m + 1), by rw [List.length_drop, HLL.out], by rw [List.length_drop, HLL.out]; omega, fun h => ?_⟩
              simp [HLL.out] at h; omega
          have HSA := Lib.hid hsubA
          have HSB := Lib.hid hsubB
          clear hsubA hsubB
          by_cases hcm : cap = m + 1
          · obtain rfl : L = m + 1 := by omega
            subst hcm
            have hdz : ∀ W, Own W B1 3 (.slice (some ⟨g, 0, none⟩) (m + 1) (m + 1)) (fcTo c j).1 → Ints W (.slice (some ⟨g, 0, none⟩) 0 0) ((fcTo c j).1.drop (m + 1)) := by
              intro W h
              have e : ((fcTo c j).1.drop (m + 1)).length = 0 := by rw [List.length_drop, HLL.out]; omega
              exact ⟨some ⟨g, 0, none⟩, 0, by rw [e], by rw [e]; omega, fun h => by rw [e] at h; omega⟩
            have HDZ := Lib.hid hdz
            clear hdz HSB
            go_wp2_with (first
                | (at_builtin; refine wpList_app1 Try.info3 Try.underlying22 hownO hsz (by rw [HOL.out]; omega) rfl _ _ rfl rfl rfl ?_; intro v3 w3 hown3 hgrow3 hb3 hsh3; have hownL3 := hownL.kept hgrow3 HAP2.out; have hz3 := hgrow3.size; have hcx := (hb3.cell (p := ⟨b, o + j, none⟩) hblt).trans hc; have hbl3 : b < w3.heap.size := (by omega))
                | (at_builtin; refine wpList_appS (sv := .slice (some ⟨g, 0, none⟩) m (m + 1)) (ys := (fcTo c j).1.take m) Try.info3 Try.underlying22 (Own.nil _ w3.heap.size 3) (Nat.le_refl _) (by simp) rfl _ _ rfl rfl rfl (HSA.out _ hownL3) (by simp) (by rw [List.length_take, HLL.out]; omega) ?_; intro v4 w4 hown4 hgrow4 hb4; have hownL4 := hownL3.kept hgrow4 (by simp [ob_nil]); have hown34 := hown3.kept hgrow4 (by simp [ob_nil]); have hcx4 := (hb4.cell (p := ⟨b, o + j, none⟩) hbl3).trans hcx; have hz4 := hb4.size)
                | (at_builtin; refine wpList_appS (sv := .slice (some ⟨g, 0, none⟩) 0 0) (ys := (fcTo c j).1.drop (m + 1)) Try.info3 Try.underlying22 hown4 (by omega) (by simp [HLL.out]; omega) rfl _ _ rfl rfl rfl (HDZ.out _ hownL4) (by simp) (by rw [List.length_drop, HLL.out]; omega) ?_; intro v5 w5 hown5 hgrow5 hb5))
            have hO5 : Own w5 w.heap.size 3 v3 ((fcTo c j).2 ++ [y]) := hown34.kept hgrow5 (fun g' h1 h2 => by
              have h3 := (hown3.ob _ h1).2
              have h4 := (hown4.ob _ h2).1
              omega)
            go_roundw
            case rel =>
              refine ⟨j + 1, w3.heap.size, by omega, by go_num, ?_, by rw [HST.out]; exact hO5, ?_, by omega, ?_⟩
              · rw [HST.out, List.eraseIdx_eq_take_drop_succ]; simpa using hown5
              · show Hid _
                exact fun g' h1 => (hown3.ob _ h1).2
              · exact ((hB.trans hb3).trans (hb4.mono (by omega))).trans (hb5.mono (by omega))
            case measure => simp [intOf]; omega
          · go_wp2_with (first
                | (at_builtin; refine wpList_app1 Try.info3 Try.underlying22 hownO hsz (by rw [HOL.out]; omega) rfl _ _ rfl rfl rfl ?_; intro v3 w3 hown3 hgrow3 hb3 hsh3; have hownL3 := hownL.kept hgrow3 HAP2.out; have hz3 := hgrow3.size; have hcx := (hb3.cell (p := ⟨b, o + j, none⟩) hblt).trans hc; have hbl3 : b < w3.heap.size := (by omega))
                | (at_builtin; refine wpList_appS (sv := .slice (some ⟨g, 0, none⟩) m cap) (ys := (fcTo c j).1.take m) Try.info3 Try.underlying22 (Own.nil _ w3.heap.size 3) (Nat.le_refl _) (by simp) rfl _ _ rfl rfl rfl (HSA.out _ hownL3) (by simp) (by rw [List.length_take, HLL.out]; omega) ?_; intro v4 w4 hown4 hgrow4 hb4; have hownL4 := hownL3.kept hgrow4 (by simp [ob_nil]); have hown34 := hown3.kept hgrow4 (by simp [ob_nil]); have hcx4 := (hb4.cell (p := ⟨b, o + j, none⟩) hbl3).trans hcx; have hz4 := hb4.size)
                | (at_builtin; refine wpList_appS (sv := .slice (some ⟨g, m + 1, none⟩) (L - (m + 1)) (cap - (m + 1))) (ys := (fcTo c j).1.drop (m + 1)) Try.info3 Try.underlying22 hown4 (by omega) (by simp [HLL.out]; omega) rfl _ _ rfl rfl rfl (HSB.out _ hownL4) (by simp) (by rw [List.length_drop, HLL.out]; omega) ?_; intro v5 w5 hown5 hgrow5 hb5))
            have hO5 : Own w5 w.heap.size 3 v3 ((fcTo c j).2 ++ [y]) := hown34.kept hgrow5 (fun g' h1 h2 => by
              have h3 := (hown3.ob _ h1).2
              have h4 := (hown4.ob _ h2).1
              omega)
            go_roundw
            case rel =>
              refine ⟨j + 1, w3.heap.size, by omega, by go_num, ?_, by rw [HST.out]; exact hO5, ?_, by omega, ?_⟩
              · rw [HST.out, List.eraseIdx_eq_take_drop_succ]; simpa using hown5
              · show Hid _
                exact fun g' h1 => (hown3.ob _ h1).2
              · exact ((hB.trans hb3).trans (hb4.mono (by omega))).trans (hb5.mono (by omega))
            case measure => simp [intOf]; omega
        · obtain rfl : j = k := by omega
          have hfin : fcM c = (fcTo c j).2 := by unfold fcM; rw [HN.out]
          have HF := Lib.hid hfin
          clear hfin
          go_wp2_with fail
          go_ret
          exact ⟨_, rfl, by rw [HF.out]; exact hownO, hB⟩
end Go.Proofs.Ytgajaccnjjiiaaa
