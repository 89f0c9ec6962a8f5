/- The greatest blocks of a permutation. -/
import Derived.Test.YtgajaccnjjiiaaaW13
import Derived.StillTailTactics
namespace Go.Proofs.Ytgajaccnjjiiaaa
open Go.RowKit

def spanTo (p : List Int) (i : Nat) : Nat → Int × Int
  | 0 => (p[i]?.getD 0, p[i]?.getD 0)
  | m + 1 => (min (spanTo p i m).1 (p[i + 1 + m]?.getD 0), max (spanTo p i m).2 (p[i + 1 + m]?.getD 0))
def endTo (p : List Int) (i : Nat) : Nat → Nat
  | 0 => i + 1
  | m + 1 => if (spanTo p i (m + 1)).2 - (spanTo p i (m + 1)).1 = (m : Int) + 1 ∧ m + 2 < p.length then i + 1 + m + 1 else endTo p i m
def endM (p : List Int) (i : Nat) : Nat := endTo p i (p.length - (i + 1))
theorem endTo_lt (p : List Int) (i m : Nat) : i < endTo p i m := by
  induction m with
  | zero => simp [endTo]
  | succ m ih => rw [endTo]; split <;> omega
theorem endTo_le (p : List Int) (i m : Nat) : endTo p i m ≤ i + 1 + m := by
  induction m with
  | zero => simp [endTo]
  | succ m ih => rw [endTo]; split <;> omega
def blocksFrom (p : List Int) (i : Nat) : List Int :=
  if _h : i < p.length then (i : Int) :: blocksFrom p (endM p i) else []
termination_by p.length - i
decreasing_by have := endTo_lt p i (p.length - (i + 1)); unfold endM; omega
def blocksM (p : List Int) : List Int := blocksFrom p 0

theorem span_box {p : List Int} {i : Nat} (h : ∀ x ∈ p, 0 ≤ x ∧ x ≤ 1000) : ∀ m, 0 ≤ (spanTo p i m).1 ∧ (spanTo p i m).1 ≤ 1000 ∧ 0 ≤ (spanTo p i m).2 ∧ (spanTo p i m).2 ≤ 1000 := by
  have hx : ∀ j : Nat, 0 ≤ p[j]?.getD 0 ∧ p[j]?.getD 0 ≤ 1000 := by
    intro j
    rcases hj : p[j]? with _ | x
    · simp
    · exact h x (List.mem_of_getElem? hj)
  intro m
  induction m with
  | zero => have := hx i; simp [spanTo]; omega
  | succ m ih => have := hx (i + 1 + m); simp only [spanTo]; omega

theorem span_state {w0 w2 : World} {B base g : Nat} {u : Value} {zs : List Int} {e : TypeId} {x y : Value} (hown : Own w2 base 3 u zs) (hblk : Blk w2 g e [x, y]) (hB : Below B w0 w2) (hbase : B ≤ g)
    (hap : some g ≠ u.ownBlock) (a b : Value) :
    Own ((w2.setCell ⟨g, 0, none⟩ a).setCell ⟨g, 1, none⟩ b) base 3 u zs ∧ Blk ((w2.setCell ⟨g, 0, none⟩ a).setCell ⟨g, 1, none⟩ b) g e [a, b] ∧ Below B w0 ((w2.setCell ⟨g, 0, none⟩ a).setCell ⟨g, 1, none⟩ b) := by
  refine ⟨Own.other (Own.other hown hap _) hap _, ?_, (hB.setCell (p := ⟨g, 0, none⟩) hbase a).setCell (p := ⟨g, 1, none⟩) hbase b⟩
  have h1 := (hblk.set 0 a).set 1 b
  simpa using h1

set_option maxRecDepth 100000 in
set_option maxHeartbeats 4000000 in
theorem blocks_any (v : Value) (p : List Int) (w : World) (hv : Ints w v p) (hl : p.length ≤ 1000) (hr : ∀ x ∈ p, 0 ≤ x ∧ x ≤ 1000) :
    Calls Try.prog 101 #[v] w fun e w' => ∃ u, e = .returned u ∧ Own w' w.heap.size 3 u (blocksM p) ∧ Below w.heap.size w w' := by
  obtain ⟨ad, n, cap, rfl, HN, hn'⟩ := hv.open
  have hl' : n ≤ 1000 := by have := HN.out; omega
  clear hl
  go_enter Try.func101, Try.ntmps101
  go_wp2_with fail
  go_loopw [3, 4] (fun u i wr => ∃ (k : Nat) (zs : List Int), k ≤ n ∧ i = .int .i64 k ∧ Own wr w.heap.size 3 u zs ∧ zs.length ≤ k ∧ Hid (zs ++ blocksFrom p k = blocksM p) ∧ Below w.heap.size w wr) (fun _ i _ => n - (intOf i).toNat)
  case atStart => exact ⟨0, [], by omega, rfl, Own.nil _ _ _, by simp, rfl, Below.refl _ _⟩
  case round =>
    obtain ⟨k, zs, hk, rfl, hown, hzl, hbf, hB⟩ := hrel
    have hsz := hB.size
    by_cases hlt : k < n
    · obtain ⟨b, o, x, rfl, hx, c1⟩ := (hv.below hB (Nat.le_refl _)).at_ hlt
      have hbf2 : Hid ((zs ++ [(k : Int)]) ++ blocksFrom p (endM p k) = blocksM p) := by
        have := hbf.out
        rw [blocksFrom, dif_pos (by rw [HN.out]; exact hlt)] at this
        simpa [Hid] using this
      go_wp2_with (at_builtin; refine wpList_app1 Try.info3 Try.underlying22 hown hsz (by omega) rfl _ _ rfl rfl rfl ?_; intro v3 w3 hown3 hgrow3 hb3 hsh3)
      have hB3 := hB.trans hb3
      obtain ⟨x, hx, c1⟩ := (hv.below hB3 (Nat.le_refl _)).cell_ hlt
      have hbl : b < w3.heap.size := World.block_lt_of_cell? w3 _ c1
      go_region
      have hsp0 : spanTo p k 0 = (x, x) := by rw [spanTo, hx.out]; rfl
      have HSP0 := Lib.hid hsp0
      clear hsp0
      go_wp2_with fail
      have HG3 := Lib.hid hgrow3
      clear hgrow3
      go_loopw [6, 7] (fun e jv wx => ∃ j : Nat, k + 1 ≤ j ∧ j ≤ n ∧ jv = .int .i64 j ∧ e = .int .i64 (endTo p k (j - (k + 1))) ∧ Own wx w.heap.size 3 v3 (zs ++ [(k : Int)]) ∧ Blk wx w3.heap.size 131 [.int .i64 (spanTo p k (j - (k + 1))).1, .int .i64 (spanTo p k (j - (k + 1))).2] ∧ Below w.heap.size w wx) (fun _ j _ => n - (intOf j).toNat)
      case atStart =>
        refine ⟨k + 1, by omega, by omega, by go_num, by simp [endTo], World.ownsRow.alloc hown3 _, ?_, (hB3.alloc (by have := hB3.size; omega) _).drewN' 1⟩
        have := Blk.new w3 131 [.int .i64 x, .int .i64 x]
        rw [Nat.sub_self, HSP0.out]
        exact this
      case round =>
        obtain ⟨j, hj1, hj2, rfl, rfl, hown4, hblk, hB4⟩ := hrel
        have hsz4 := hB4.size
        by_cases hlt2 : j < n
        · obtain ⟨y, hy, c4⟩ := (hv.below hB4 (Nat.le_refl _)).cell_ hlt2
          obtain ⟨m, rfl⟩ : ∃ m, j = k + 1 + m := ⟨j - (k + 1), by omega⟩
          have hm1 : k + 1 + m - (k + 1) = m := by omega
          have hm2 : k + 1 + m + 1 - (k + 1) = m + 1 := by omega
          rw [hm1] at hblk
          have hsp : spanTo p k (m + 1) = (min (spanTo p k m).1 y, max (spanTo p k m).2 y) := by rw [spanTo, hy.out]; rfl
          have hen : endTo p k (m + 1) = if (spanTo p k (m + 1)).2 - (spanTo p k (m + 1)).1 = (m : Int) + 1 ∧ m + 2 < n then k + 1 + m + 1 else endTo p k m := by rw [endTo, HN.out]
          have hbx := span_box (i := k) hr m
          have hyx := hr y (List.mem_of_getElem? hy.out)
          have hap := Own.apartB hown4 hblk (by decide)
          have HAP := Lib.hid hap
          have HG4 := Lib.hid hB3.size
          clear hap
          have hel := endTo_le p k m
          have hel2 := endTo_lt p k m
          rw [hm1]
          generalize (spanTo p k m).1 = lo at *
          generalize (spanTo p k m).2 = hi at *
          generalize endTo p k m = en at *
          have HSP := Lib.hid hsp
          have HEN := Lib.hid hen
          have HM1 := Lib.hid hm1
          have HM2 := Lib.hid hm2
          clear hsp hen hm1 hm2
          have c2 := hblk.cell (j := 0) rfl
          have c3 := hblk.cell (j := 1) rfl
          have f2 := hblk.free 0
          have f3 := hblk.free 1
          go_wp2_with fail
          have hblkd : Blk wr.drew w3.heap.size 131 [.int .i64 lo, .int .i64 hi] := hblk
          go_region_with (first | (go_at_call 112; refine (with_any _ _ _ _).mono ?_; rintro e w2 ⟨rfl, hb2⟩; have c6 := (hblkd.keep hb2).cell (j := 0) rfl; have c5 := (hblkd.keep hb2).cell (j := 1) rfl; have f4 := (hblkd.keep hb2).free 0; have f5 := (hblkd.keep hb2).free 1; have hlk2 := (hblkd.keep hb2).lt; have hz2 := hb2.size))
          all_goals go_wp2_with fail
          all_goals
            refine ⟨⟨k + 1 + m + 1, by omega, by omega, by go_num, ?_, ?_, ?_, ?_⟩, by simp [intOf]; omega⟩
            · rw [HM2.out, HEN.out, HSP.out]
              first
              | (rw [if_pos (by constructor <;> (try simp) <;> omega)]; go_num)
              | (rw [if_neg (by simp; omega)])
            · exact (span_state (World.ownsRow.keep (World.ownsRow.drew hown4) hb2) (hblkd.keep hb2) ((hB4.drewN' 1).trans (hb2.mono hsz4)) HG4.out HAP.out _ _).1
            · rw [HM2.out, HSP.out]
              exact (span_state (World.ownsRow.keep (World.ownsRow.drew hown4) hb2) (hblkd.keep hb2) ((hB4.drewN' 1).trans (hb2.mono hsz4)) HG4.out HAP.out _ _).2.1
            · exact (span_state (World.ownsRow.keep (World.ownsRow.drew hown4) hb2) (hblkd.keep hb2) ((hB4.drewN' 1).trans (hb2.mono hsz4)) HG4.out HAP.out _ _).2.2
        · have hjn : j = n := by omega
          have hje : j - (k + 1) = p.length - (k + 1) := by rw [HN.out, hjn]
          rw [hje]
          change Blk _ _ _ _ at hblk
          have hE : endTo p k (p.length - (k + 1)) = endM p k := rfl
          rw [hE]
          have hel := endTo_le p k (p.length - (k + 1))
          have hel2 := endTo_lt p k (p.length - (k + 1))
          rw [hE] at hel hel2
          have HE := Lib.hid hE
          have HEL : endM p k ≤ n := by have := HN.out; omega
          clear hel hje hE
          generalize endM p k = en at *
          go_wp2_with fail
          exact ⟨⟨en, zs ++ [(k : Int)], HEL, rfl, hown4, by simp; omega, hbf2, hB4⟩, by simp [intOf]; omega⟩
    · obtain rfl : k = n := by omega
      have hbf3 := hbf.out
      rw [blocksFrom, dif_neg (by rw [HN.out]; omega), List.append_nil] at hbf3
      rw [hbf3] at hown
      clear hbf3
      go_wp2_with fail
      go_ret
      exact ⟨_, rfl, hown, hB⟩
end Go.Proofs.Ytgajaccnjjiiaaa
