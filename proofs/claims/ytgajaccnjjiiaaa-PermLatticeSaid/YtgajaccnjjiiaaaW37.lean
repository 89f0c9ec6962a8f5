/- Strong: the walk. -/
import Derived.Test.YtgajaccnjjiiaaaW34
namespace Go.Proofs.Ytgajaccnjjiiaaa
open Go.RowKit

/-- how many of the first i values are at least j -/
def gcnt (p : List Int) (i j : Nat) : Nat := (p.take i).countP (fun x => decide ((j : Int) ≤ x))
def dif (p q : List Int) (i j : Nat) : Int := (gcnt q i j : Int) - (gcnt p i j : Int)
theorem gcnt_le (p : List Int) (i j : Nat) : gcnt p i j ≤ i := by
  unfold gcnt
  have := List.countP_le_length (p := fun x => decide ((j : Int) ≤ x)) (l := p.take i)
  rw [List.length_take] at this
  omega
theorem gcnt_succ {p : List Int} {i : Nat} {x : Int} (h : p[i]? = some x) (j : Nat) : gcnt p (i + 1) j = gcnt p i j + if (j : Int) ≤ x then 1 else 0 := by
  unfold gcnt
  rw [take_snoc' h, List.countP_append]
  simp [List.countP_cons]
theorem dif_succ {p q : List Int} {i : Nat} {x y : Int} (hp : p[i]? = some x) (hq : q[i]? = some y) (j : Nat) : dif p q (i + 1) j = dif p q i j + (if (j : Int) ≤ y then 1 else 0) - (if (j : Int) ≤ x then 1 else 0) := by
  unfold dif
  rw [gcnt_succ hp, gcnt_succ hq]
  split <;> split <;> omega
def strongM (p q : List Int) (n : Nat) : Bool := (List.range n).all fun i => (List.range n).all fun j => decide (0 ≤ dif p q (i + 1) j)
def moreL (p q : List Int) (n i j : Nat) : List Int := (List.range n).map fun a => if a < j then dif p q (i + 1) a else dif p q i a
theorem moreL_len (p q : List Int) (n i j : Nat) : (moreL p q n i j).length = n := by simp [moreL]
theorem moreL_get (p q : List Int) (n i j : Nat) {a : Nat} (h : a < n) : (moreL p q n i j)[a]? = some (if a < j then dif p q (i + 1) a else dif p q i a) := by simp [moreL, h]
theorem moreL_step (p q : List Int) (n i j : Nat) (_h : j < n) : moreL p q n i (j + 1) = (moreL p q n i j).set j (dif p q (i + 1) j) := by
  apply List.ext_getElem?
  intro a
  by_cases ha : a < n
  · rw [moreL_get _ _ _ _ _ ha]
    by_cases e : j = a
    · subst e
      rw [List.getElem?_set_self (by rw [moreL_len]; exact ha), if_pos (by omega)]
    · rw [List.getElem?_set_ne e, moreL_get _ _ _ _ _ ha]
      by_cases h1 : a < j
      · rw [if_pos (by omega), if_pos h1]
      · rw [if_neg (by omega), if_neg h1]
  · rw [List.getElem?_eq_none (by rw [moreL_len]; omega), List.getElem?_eq_none (by rw [List.length_set, moreL_len]; omega)]
theorem moreL_next (p q : List Int) (n i : Nat) : moreL p q n i n = moreL p q n (i + 1) 0 := by
  unfold moreL
  apply List.map_congr_left
  intro a ha
  rw [if_pos (List.mem_range.1 ha), if_neg (by omega)]
theorem moreL_zero (p q : List Int) (n : Nat) : moreL p q n 0 0 = List.replicate n 0 := by
  apply List.ext_getElem?
  intro a
  by_cases ha : a < n
  · rw [moreL_get _ _ _ _ _ ha, if_neg (by omega), List.getElem?_replicate, if_pos ha]
    simp [dif, gcnt]
  · rw [List.getElem?_eq_none (by rw [moreL_len]; omega), List.getElem?_eq_none (by simp; omega)]
theorem set_same {L : List Int} {j : Nat} {d : Int} (h : L[j]? = some d) : L.set j d = L := by
  apply List.ext_getElem?
  intro a
  by_cases e : j = a
  · subst e
    rw [List.getElem?_set_self (List.getElem?_eq_some_iff.1 h).1, h]
  · rw [List.getElem?_set_ne e]

set_option maxHeartbeats 1000000 in
theorem Strong_bad (v u : Value) (p q : List Int) (w : World) (hv : Ints w v p) (hu : Ints w u q) (hc : ck2 p q ≠ 0) :
    Calls Try.prog 53 #[v, u] w fun e w' => e = .returned (.tuple #[.bool false, .int .i64 (ck2 p q)]) ∧ Below w.heap.size w w' := by
  have hb1 : (ck2 p q != 0) = true := by simpa using hc
  go_enter Try.func53, Try.ntmps53
  go_wp2_with (go_at_call 88; refine (checkTwo_any _ _ p q _ hv hu).mono ?_; rintro e w1 ⟨rfl, hb⟩)
  go_ret2
  exact ⟨rfl, hb⟩

set_option maxRecDepth 100000 in
set_option maxHeartbeats 4000000 in
theorem Strong_any (v u : Value) (p q : List Int) (w : World) (hv : Ints w v p) (hu : Ints w u q) (hc : ck2 p q = 0) :
    Calls Try.prog 53 #[v, u] w fun e w' => e = .returned (.tuple #[.bool (strongM p q p.length), .int .i64 0]) ∧ Below w.heap.size w w' := by
  obtain ⟨hcp, hcq, hlen⟩ := ck2_zero hc
  obtain ⟨h1, h2, _, _⟩ := check_zero hcp
  obtain ⟨a, n, cap, rfl, HN, hn'⟩ := hv.open
  obtain ⟨a2, n2, cap2, rfl, HN2, hn2'⟩ := hu.open
  rw [HN.out] at h1 h2
  obtain rfl : n2 = n := by rw [← HN.out, ← HN2.out, hlen]
  have HC := Lib.hid hc
  clear hcp hcq hlen hc
  go_enter Try.func53, Try.ntmps53
  go_wp2_with (first
    | (go_at_call 88; refine (checkTwo_any _ _ p q _ hv hu).mono ?_; rw [HC.out]; rintro e w1 ⟨rfl, hb1⟩)
    | (at_make; refine wpList_makeV Try.info3 Try.underlying22 rfl rfl _ _ rfl n2 rfl rfl (by omega) (by omega) (by omega) (by omega) ?_; intro w2 hb2 hB2 hs2))
  have hBB2 : Below w.heap.size w w2 := hb1.trans (hB2.mono hb1.size)
  have hz1 := hb1.size
  rw [i64s_zero, ← moreL_zero p q n2] at hb2
  obtain ⟨G, HG⟩ : ∃ G, Hid (w1.heap.size = G) := ⟨_, rfl⟩
  rw [HG.out] at hb2 hz1
  go_loopw [21] (fun i wr => ∃ k : Nat, k ≤ n2 ∧ i = .int .i64 k ∧ Blk wr w1.heap.size 3 (I64s (moreL p q n2 k 0)) ∧ Hid (∀ i' j' : Nat, i' < k → j' < n2 → 0 ≤ dif p q (i' + 1) j') ∧ Below w.heap.size w wr) (fun i _ => n2 - (intOf i).toNat)
  case atStart => exact ⟨0, by omega, rfl, by rw [HG.out]; exact hb2, (show Hid (∀ i' j' : Nat, i' < 0 → j' < n2 → 0 ≤ dif p q (i' + 1) j') from fun i' j' h => by omega), hBB2⟩
  case round =>
    clear hb2 hBB2 hs2
    obtain ⟨k, hk, rfl, hblk, HD, hB⟩ := hrel
    by_cases hlt : k < n2
    · have HBK := Lib.hid hblk
      clear hblk
      go_wp2_with fail
      go_loopw [26] (fun j wx => ∃ m : Nat, m ≤ n2 ∧ j = .int .i64 m ∧ Blk wx w1.heap.size 3 (I64s (moreL p q n2 k m)) ∧ Hid (∀ j' : Nat, j' < m → 0 ≤ dif p q (k + 1) j') ∧ Below w.heap.size w wx) (fun j _ => n2 - (intOf j).toNat)
      case atStart => exact ⟨0, by omega, rfl, HBK.out, (show Hid (∀ j' : Nat, j' < 0 → 0 ≤ dif p q (k + 1) j') from fun j' h => by omega), hB⟩
      case round =>
        clear hB HBK
        obtain ⟨m, hm, rfl, hblk, HE, hB⟩ := hrel
        by_cases hlm : m < n2
        · obtain ⟨b, o, x, rfl, hx, hcx0⟩ := hv.at_ hlt
          have hbl : b < w.heap.size := World.block_lt_of_cell? w _ hcx0
          have hcx := (hB.cell (p := ⟨b, o + k, none⟩) hbl).trans hcx0
          have hne1 : ¬ b = w1.heap.size := by rw [HG.out]; omega
          have hne2 : ¬ w1.heap.size = b := by rw [HG.out]; omega
          clear hcx0
          obtain ⟨b', o', y, rfl, hy, hcy⟩ := (hu.below hB (Nat.le_refl _)).at_ hlt
          have hdf := dif_succ hx.out hy.out m
          have hst := moreL_step p q n2 k m hlm
          have hget := moreL_get p q n2 k m hlm
          rw [if_neg (by omega)] at hget
          have hl1 := gcnt_le p k m
          have hl2 := gcnt_le q k m
          have hd1 : -60 ≤ dif p q k m ∧ dif p q k m ≤ 60 := by unfold dif; omega
          have c1 := hblk.cell (i64s_get hget)
          have f1 := hblk.free m
          obtain ⟨hdl, hdu⟩ := hd1
          generalize dif p q k m = d at *
          generalize hdd : dif p q (k + 1) m = d' at *
          have HDD := Lib.hid hdd
          have HST := Lib.hid hst
          have HGET := Lib.hid hget
          have HBK := Lib.hid hblk
          have HFALSE := Lib.hid (fun (h : d' < 0) => (by
            rw [HN.out]
            unfold strongM
            rw [List.all_eq_false]
            refine ⟨k, List.mem_range.2 hlt, ?_⟩
            have hin : ((List.range n2).all fun j => decide (0 ≤ dif p q (k + 1) j)) = false := by
              rw [List.all_eq_false]
              refine ⟨m, List.mem_range.2 hlm, ?_⟩
              rw [HDD.out, decide_eq_true_eq]
              omega
            rw [hin]; decide : strongM p q p.length = false))
          have HNN := Lib.hid (fun (h : ¬ d' < 0) => (fun j' hj => by
            by_cases e : j' = m
            · subst e; rw [HDD.out]; omega
            · exact HE.out j' (by omega) : ∀ j' : Nat, j' < m + 1 → 0 ≤ dif p q (k + 1) j'))
          have hB1 := hB.setCell (p := ⟨w1.heap.size, m, none⟩) (by rw [HG.out]; exact hz1) (.int .i64 (d + 1))
          have hB2 := hB.setCell (p := ⟨w1.heap.size, m, none⟩) (by rw [HG.out]; exact hz1) (.int .i64 (d - 1))
          have hB3 := hB1.setCell (p := ⟨w1.heap.size, m, none⟩) (by rw [HG.out]; exact hz1) (.int .i64 d)
          have HB1 := Lib.hid hB1
          have HB2 := Lib.hid hB2
          have HB3 := Lib.hid hB3
          clear hl1 hl2 hst hget hblk hx hy hdd hB1 hB2 hB3
          by_cases hq : (m : Int) ≤ y
          all_goals by_cases hp : (m : Int) ≤ x
          all_goals by_cases hneg : d' < 0
          all_goals
            first
            | rw [if_pos hq] at hdf
            | rw [if_neg hq] at hdf
          all_goals
            first
            | rw [if_pos hp] at hdf
            | rw [if_neg hp] at hdf
          all_goals
            go_wp2_with fail
          all_goals first
            | (go_ret2; exact ⟨by rw [HFALSE.out (by omega)]; rfl, by first | exact hB | exact HB1.out | exact HB2.out | exact HB3.out⟩)
            | (refine ⟨⟨m + 1, by omega, by go_num, ?_, HNN.out (by omega), by first | exact hB | exact HB1.out | exact HB2.out | exact HB3.out⟩, by simp [intOf]; omega⟩
               first
               | (have h := (HBK.out.set m (.int .i64 (d + 1))).set m (.int .i64 d)
                  rw [i64s_set, i64s_set, List.set_set] at h
                  rw [HST.out, show d' = d by omega]
                  exact h)
               | (have h := HBK.out.set m (.int .i64 (d + 1))
                  rw [i64s_set] at h
                  rw [HST.out, show d' = d + 1 by omega]
                  exact h)
               | (have h := HBK.out.set m (.int .i64 (d - 1))
                  rw [i64s_set] at h
                  rw [HST.out, show d' = d - 1 by omega]
                  exact h)
               | (rw [HST.out, show d' = d by omega, set_same HGET.out]
                  exact HBK.out))
        · obtain rfl : m = n2 := by omega
          have hnx := moreL_next p q m k
          rw [hnx] at hblk
          have HBK := Lib.hid hblk
          clear hblk hnx
          go_wp2_with fail
          go_roundw
          case rel =>
            refine ⟨k + 1, by omega, by go_num, HBK.out, ?_, hB⟩
            show Hid _
            intro i' j' hi hj
            by_cases e : i' = k
            · subst e; exact HE.out j' hj
            · exact HD.out i' j' (by omega) hj
          case measure => simp [intOf]; omega
    · obtain rfl : k = n2 := by omega
      have hfin : strongM p q p.length = true := by
        rw [HN.out]
        unfold strongM
        rw [List.all_eq_true]
        intro i hi
        rw [List.all_eq_true]
        intro j hj
        exact decide_eq_true (HD.out i j (List.mem_range.1 hi) (List.mem_range.1 hj))
      have HF := Lib.hid hfin
      clear hfin hblk
      go_wp2_with fail
      go_ret2
      exact ⟨by rw [HF.out]; rfl, hB⟩
end Go.Proofs.Ytgajaccnjjiiaaa
