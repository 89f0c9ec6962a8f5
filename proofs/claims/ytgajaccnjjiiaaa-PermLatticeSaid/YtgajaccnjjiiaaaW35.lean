/- Tables of pairs of values in memory; the inversions as such a table. -/
import Derived.Test.YtgajaccnjjiiaaaW34
import Derived.Test.YtgajaccnjjiiaaaW9
import Derived.Test.YtgajaccnjjiiaaaFence
namespace Go.Proofs.Ytgajaccnjjiiaaa
open Go.RowKit Go.Shelf
attribute [local go_sem] Oper.semAt_some

/-- the block g holds a table of 60 times 60 bools -/
def Mat (w : World) (g : Nat) (T : Nat → Nat → Bool) : Prop := ∃ vs : List Value, Blk w g 126 vs ∧ vs.length = 3600 ∧ ∀ a b : Nat, a < 60 → b < 60 → vs[a * 60 + b]? = some (.bool (T a b))
def upd (T : Nat → Nat → Bool) (a b : Nat) (x : Bool) : Nat → Nat → Bool := fun i j => if i = a ∧ j = b then x else T i j
theorem Mat.lt {w : World} {g : Nat} {T : Nat → Nat → Bool} (h : Mat w g T) : g < w.heap.size := by obtain ⟨vs, hb, _⟩ := h; exact hb.lt
theorem Mat.cell {w : World} {g : Nat} {T : Nat → Nat → Bool} (h : Mat w g T) {a b : Nat} (ha : a < 60) (hb : b < 60) : w.cell? ⟨g, a * 60 + b, none⟩ = some (.bool (T a b)) := by
  obtain ⟨vs, hk, _, hc⟩ := h
  exact hk.cell (hc a b ha hb)
theorem Mat.free {w : World} {g : Nat} {T : Nat → Nat → Bool} (h : Mat w g T) (j : Nat) : w.frozen? ⟨g, j, none⟩ = false := by
  obtain ⟨vs, hk, _, _⟩ := h
  exact hk.free j
theorem Mat.set {w : World} {g : Nat} {T : Nat → Nat → Bool} (h : Mat w g T) {a b : Nat} (ha : a < 60) (hb : b < 60) (x : Bool) : Mat (w.setCell ⟨g, a * 60 + b, none⟩ (.bool x)) g (upd T a b x) := by
  obtain ⟨vs, hk, hl, hc⟩ := h
  refine ⟨vs.set (a * 60 + b) (.bool x), hk.set _ _, by simpa using hl, fun i j hi hj => ?_⟩
  unfold upd
  by_cases e : i = a ∧ j = b
  · obtain ⟨rfl, rfl⟩ := e
    rw [if_pos ⟨rfl, rfl⟩, List.getElem?_set_self (by omega)]
  · rw [if_neg e, List.getElem?_set_ne (by omega)]
    exact hc i j hi hj
theorem Mat.keep {w w' : World} {g : Nat} {T : Nat → Nat → Bool} (h : Mat w g T) (hb : Below w.heap.size w w') : Mat w' g T := by
  obtain ⟨vs, hk, hl, hc⟩ := h
  exact ⟨vs, hk.keep hb, hl, hc⟩
theorem Mat.below {B : Nat} {w w' : World} {g : Nat} {T : Nat → Nat → Bool} (h : Mat w g T) (hb : Below B w w') (hg : g < B) : Mat w' g T := by
  obtain ⟨vs, hk, hl, hc⟩ := h
  exact ⟨vs, hk.below hb hg, hl, hc⟩
theorem Mat.other {w : World} {g : Nat} {T : Nat → Nat → Bool} (h : Mat w g T) {a : Addr} (ha : g ≠ a.block) (x : Value) : Mat (w.setCell a x) g T := by
  obtain ⟨vs, hk, hl, hc⟩ := h
  exact ⟨vs, hk.other ha x, hl, hc⟩
theorem Mat.drewN {w : World} {g : Nat} {T : Nat → Nat → Bool} (h : Mat w g T) (n : Nat) : Mat (w.drewN n) g T := h
theorem Mat.own {W W' : World} {g : Nat} {T : Nat → Nat → Bool} (h : Mat W g T) {row : Option Nat} (hg : W.grownBy W' row) (hr : ∀ r, row = some r → ∃ o : Obj, W.heap[r]? = some o ∧ o.isCells = false) : Mat W' g T := by
  obtain ⟨vs, hk, hl, hc⟩ := h
  exact ⟨vs, hk.own hg hr, hl, hc⟩
theorem Mat.grown {W W' : World} {g : Nat} {T : Nat → Nat → Bool} (h : Mat W g T) {row : Option Nat} (hg : W.grownBy W' row) (hr : some g ≠ row) : Mat W' g T := by
  obtain ⟨vs, hk, hl, hc⟩ := h
  exact ⟨vs, hk.grown hg hr, hl, hc⟩
theorem Mat.congr {w : World} {g : Nat} {T T' : Nat → Nat → Bool} (h : Mat w g T) (e : ∀ a b, T a b = T' a b) : Mat w g T' := by
  have : T = T' := by funext a b; exact e a b
  rw [← this]; exact h

/-- the inversions among these, by values -/
def invOf (p : List Int) (l : List (Nat × Nat)) : Nat → Nat → Bool := fun a b => l.any (fun x => p[x.1]?.getD 0 == (a : Int) && p[x.2]?.getD 0 == (b : Int))
def invT (p : List Int) : Nat → Nat → Bool := invOf p (invs p)
theorem invOf_nil (p : List Int) : invOf p [] = fun _ _ => false := by funext a b; rfl
theorem invOf_snoc (p : List Int) (l : List (Nat × Nat)) (x : Nat × Nat) {a b : Nat} (ha : p[x.1]? = some (a : Int)) (hb : p[x.2]? = some (b : Int)) : invOf p (l ++ [x]) = upd (invOf p l) a b true := by
  funext i j
  unfold invOf upd
  rw [List.any_append, List.any_cons, List.any_nil, Bool.or_false, ha, hb]
  simp only [Option.getD_some]
  by_cases e : i = a ∧ j = b
  · obtain ⟨rfl, rfl⟩ := e
    rw [if_pos ⟨rfl, rfl⟩]
    simp
  · rw [if_neg e]
    have : ((a : Int) == (i : Int) && (b : Int) == (j : Int)) = false := by
      rw [Bool.and_eq_false_iff]
      by_cases h1 : i = a
      · right
        have h2 : j ≠ b := fun h => e ⟨h1, h⟩
        rw [beq_eq_false_iff_ne]; omega
      · left
        rw [beq_eq_false_iff_ne]; omega
    rw [this, Bool.or_false]

theorem zero126 : Try.zeroCells126 = (List.replicate 3600 (Value.bool false)).toArray := by kernel_rfl

set_option maxRecDepth 100000 in
set_option maxHeartbeats 4000000 in
theorem inverted_any (v : Value) (p : List Int) (w : World) (hv : Ints w v p) (hp : ∀ x ∈ p, 0 ≤ x ∧ x < p.length) (hl : p.length ≤ 60) :
    Calls Try.prog 89 #[v] w fun e w' => ∃ g, e = .returned (.pointer (some ⟨g, 0, none⟩)) ∧ w.heap.size ≤ g ∧ Mat w' g (invT p) ∧ Below w.heap.size w w' := by
  obtain ⟨ao, n, cap, rfl, HN, hn'⟩ := hv.open
  have hn2 : n ≤ 60 := by have := HN.out; omega
  have HP := Lib.hid hp
  clear hp
  refine (callsIn_wide (n := 6)).1 ?_
  refine callsIn_of_wp_marks Try.func89 rfl trivial ?_ rfl
  simp only [Try.ntmps89, List.size_toArray, List.length_cons, List.length_nil, Nat.reduceAdd, Nat.reduceSub, Array.replicate_succ, Array.replicate_zero, List.push_toArray, List.append_toArray, List.nil_append, List.cons_append]
  refine wpIn_wide.2 ?_
  go_wp2_with (go_at_call 73; refine (inversions_plain _ _ _ _).mono ?_; rintro e w' ⟨rfl, rfl⟩)
  have hn3 : p.length = n := HN.out
  have hB2 : Below w.heap.size w (((w.alloc (.cells #[.slice ao n cap] 22)).alloc (.cells Try.zeroCells126 126)).alloc (.cells #[.slice ao n cap] 22)) := (((Below.refl _ _).alloc (Nat.le_refl _) _).alloc (by simp) _).alloc (by simp; omega) _
  have hbx2 := (Blk.new ((w.alloc (.cells #[.slice ao n cap] 22)).alloc (.cells Try.zeroCells126 126)) 22 [.slice ao n cap]).cell (j := 0) rfl
  rw [World.size_alloc, World.size_alloc] at hbx2
  have hbx0 := (((Blk.new w 22 [.slice ao n cap]).alloc (.cells Try.zeroCells126 126)).alloc (.cells #[.slice ao n cap] 22)).cell (j := 0) rfl
  have hm0 : Mat (((w.alloc (.cells #[.slice ao n cap] 22)).alloc (.cells Try.zeroCells126 126)).alloc (.cells #[.slice ao n cap] 22)) (w.heap.size + 1) (fun _ _ => false) := by
    have h := (Blk.new (w.alloc (.cells #[.slice ao n cap] 22)) 126 (List.replicate 3600 (.bool false))).alloc (.cells #[.slice ao n cap] 22)
    rw [World.size_alloc] at h
    refine ⟨List.replicate 3600 (.bool false), ?_, by rw [List.length_replicate], fun a b ha hb => by rw [List.getElem?_replicate, if_pos (by omega)]⟩
    rw [zero126]
    exact h
  generalize hW0 : (((w.alloc (.cells #[.slice ao n cap] 22)).alloc (.cells Try.zeroCells126 126)).alloc (.cells #[.slice ao n cap] 22)) = W0 at *
  have hsW : W0.heap.size = w.heap.size + 3 := by rw [← hW0]; simp
  clear hW0
  obtain ⟨b, hbS⟩ := hv.slAt hB2 hbx2
  refine (wpIn_wide (n := 6)).1 ?_
  refine wpIn_rangeFunc_ownF rfl (by omega) (gf := 104) (lb := #[.pointer (some ⟨w.heap.size + 1 + 1, 0, none⟩)]) rfl trivial (enters_of Try.func104 (by kernel_rfl) rfl)
    (inv_stops Fence.wide 5 trivial rfl (by omega) (w.heap.size + 1 + 1) b (.slice ao n cap) p (by omega) _ hbS.1 (by omega) (by intro h; have := hbS.2 h; omega)) KpP_t KpP_b (Below.refl _ _) (fun _ => rfl)
    (fun pre W => (Mat W (w.heap.size + 1) (invOf p (vals pre)) ∧ W.cell? ⟨w.heap.size, 0, none⟩ = some (.slice ao n cap)) ∧ Below w.heap.size w W)
    (fun _ _ _ => False)
    (OwnFrom.and (Own.from (fun s A B row hs hg hr => ⟨hs.1.own hg hr, cell_kept hs.2 hg hr⟩) _) (ownFrom_below (Nat.le_refl _) (by omega)))
    (fun _ _ _ _ _ hs _ _ => hs)
    ?h0
    (fun x => { tmps := #[.slice ao n cap, .pointer (some ⟨w.heap.size, 0, none⟩), .pointer none, .pointer (some ⟨w.heap.size + 1, 0, none⟩), .int .i64 x.1.1, .int .i64 x.1.2, .slice ao n cap, .func (.func 104) #[] #[.pointer (some ⟨w.heap.size + 1 + 1, 0, none⟩)], .int .i64 x.1.1, .int .i64 x.1.2, undef, undef, undef, undef, undef, undef, undef, undef, undef, undef], defers := [] }) ?assign ?body ?done ?stop
  case h0 => exact ⟨⟨by simpa [vals, invOf_nil] using hm0, hbx0⟩, hB2⟩
  case assign =>
    intro l x W K hK
    gi_wp2
    simpa using hK
  case body =>
    rintro l pre x W ⟨⟨hm, hc⟩, hB⟩ hlen
    have hx := invs_lt p x.1 x.2
    have hx1 : x.1.1 < n := by omega
    have hx2 : x.1.2 < n := by omega
    have hvW := hv.below hB (Nat.le_refl _)
    obtain ⟨b2, o2, y1, rfl, hy1, hc1⟩ := hvW.at_ hx1
    obtain ⟨y2, hy2, hc2⟩ := hvW.cell_ hx2
    obtain ⟨q1, q2⟩ := HP.out y1 (List.mem_of_getElem? hy1.out)
    obtain ⟨q3, q4⟩ := HP.out y2 (List.mem_of_getElem? hy2.out)
    obtain ⟨a1, rfl⟩ := Int.eq_ofNat_of_zero_le q1
    obtain ⟨a2, rfl⟩ := Int.eq_ofNat_of_zero_le q3
    have r1 : a1 < 60 := by omega
    have r2 : a2 < 60 := by omega
    have r3 : (a1 : Int) < 60 := by omega
    have r4 : (a2 : Int) < 60 := by omega
    have hcell := hm.cell r1 r2
    have hfr := hm.free (a1 * 60 + a2)
    have hinv := invOf_snoc p (vals pre) x.1 hy1.out hy2.out
    have HINV := Lib.hid hinv
    have HM := Lib.hid hm
    have HBS := Lib.hid hbS
    clear hm hinv hy1 hy2 hvW hbS hm0 hbx2 hbx0
    gi_wp2
    refine wpIn_tail (fun _ => trivial) 10 (by kernel_rfl) (by kernel_rfl) (by rfl) ?_
    simp only [List.take_succ_cons, List.take_zero, List.drop_succ_cons, List.drop_zero]
    repeat still_step
    try refine wpStill_nil ?_
    go_wp2
    refine ⟨fun h => (by cases h), ?_⟩
    have hset := (HM.out.set r1 r2 true)
    rw [← HINV.out] at hset
    refine ⟨(KeepsOthers.setCell _ _ _).trans (KeepsOthers.drew _), ?_, ⟨?_, ?_⟩, (hB.setCell (p := ⟨w.heap.size + 1, a1 * 60 + a2, none⟩) (by simp) (.bool true)).drewN' 1⟩
    · exact KpP.setCell (by omega) (by have := HBS.out.2 (by omega); omega) W (.bool true)
    · rw [vals_snoc]; exact hset
    · exact (World.cell?_of_block (a := ⟨w.heap.size, 0, none⟩) (heap_setCell_other W ⟨w.heap.size + 1, a1 * 60 + a2, none⟩ w.heap.size _ (by simp))).trans hc
  case done =>
    rintro D ys W hD hys ⟨⟨hm, hc⟩, hB⟩ hK
    rw [hys] at hm
    have HM := Lib.hid hm
    clear hm
    go_wp2
    refine ⟨by simp, .inl ⟨_, _, rfl, run_takeDeferred hK, ?_⟩⟩
    refine ⟨_, results_tmp rfl _ _ _, ?_⟩
    refine ⟨w.heap.size + 1, rfl, by omega, HM.out.own (grownBy_putObj' W D (.deferred none)) (fun r e => by cases e; exact ⟨_, hK, rfl⟩), ?_⟩
    exact hB.trans (belowK_b (w := w) (Nat.le_refl _) W D _ _ (by omega) hK rfl rfl)
  case stop =>
    rintro D c pre W _ _ h _
    exact h.elim
end Go.Proofs.Ytgajaccnjjiiaaa
