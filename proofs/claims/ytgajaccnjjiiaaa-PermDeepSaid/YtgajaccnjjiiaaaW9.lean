/- Code. -/
import Derived.Test.YtgajaccnjjiiaaaW8
import Derived.Test.YtgajaccnjjiiaaaW2
namespace Go.Proofs.Ytgajaccnjjiiaaa
open Go.RowKit Go.Shelf
attribute [local go_sem] Oper.semAt_some

theorem Blk.own {W W' : World} {g : Nat} {e : TypeId} {vs : List Value} (h : Blk W g e vs) {row : Option Nat} (hg : W.grownBy W' row) (hr : ∀ r, row = some r → ∃ o : Obj, W.heap[r]? = some o ∧ o.isCells = false) : Blk W' g e vs := by
  refine h.grown hg (fun e => ?_)
  obtain ⟨o, ho, hc⟩ := hr g e.symm
  rw [h] at ho
  cases ho
  simp [Obj.isCells] at hc

def cntL (n : Nat) (pre : List (Nat × Nat)) : List Int := (List.range n).map (fun i => ((pre.countP (fun x => x.1 == i) : Nat) : Int))
theorem cntL_len (n : Nat) (pre : List (Nat × Nat)) : (cntL n pre).length = n := by simp [cntL]
theorem cntL_get {n i : Nat} (pre : List (Nat × Nat)) (h : i < n) : (cntL n pre)[i]? = some ((pre.countP (fun x => x.1 == i) : Nat) : Int) := by simp [cntL, h]
theorem cntL_snoc {n : Nat} (pre : List (Nat × Nat)) (x : Nat × Nat) : cntL n (pre ++ [x]) = (cntL n pre).set x.1 (((pre.countP (fun y => y.1 == x.1) : Nat) : Int) + 1) := by
  apply List.ext_getElem?
  intro j
  by_cases hj : j < n
  · rw [cntL_get _ hj]
    by_cases he : x.1 = j
    · subst he
      rw [List.getElem?_set_self (by rw [cntL_len]; exact hj)]
      simp [List.countP_append]
    · rw [List.getElem?_set_ne he, cntL_get _ hj]
      have : (x.1 == j) = false := by simpa using he
      simp [List.countP_append, this]
  · rw [List.getElem?_eq_none (by rw [cntL_len]; omega), List.getElem?_eq_none (by rw [List.length_set, cntL_len]; omega)]
theorem cntL_nil (n : Nat) : cntL n [] = List.replicate n 0 := by
  apply List.ext_getElem?
  intro j
  by_cases hj : j < n
  · rw [cntL_get _ hj]; simp [hj]
  · rw [List.getElem?_eq_none (by rw [cntL_len]; omega), List.getElem?_eq_none (by simp; omega)]
theorem codeM_len (n : Nat) (l : List (Nat × Nat)) : (cntL n l).length = n := cntL_len n l
theorem rowTo_lt (p : List Int) (i m : Nat) (h : m ≤ p.length - (i + 1)) : ∀ x ∈ rowTo p i m, x.1 = i ∧ i < x.2 ∧ x.2 < p.length := by
  induction m with
  | zero => simp [rowTo]
  | succ m ih =>
    intro x hx
    rw [rowTo, List.mem_append] at hx
    rcases hx with hx | hx
    · exact ih (by omega) x hx
    · split at hx
      · simp at hx; subst hx; exact ⟨rfl, by simp; omega, by simp; omega⟩
      · simp at hx
theorem invTo_lt (p : List Int) (i : Nat) (h : i ≤ p.length) : ∀ x ∈ invTo p i, x.1 < x.2 ∧ x.2 < p.length := by
  induction i with
  | zero => simp [invTo]
  | succ i ih =>
    intro x hx
    rw [invTo, List.mem_append] at hx
    rcases hx with hx | hx
    · exact ih (by omega) x hx
    · have := rowTo_lt p i _ (Nat.le_refl _) x hx; omega
theorem invs_lt (p : List Int) : ∀ x ∈ invs p, x.1 < x.2 ∧ x.2 < p.length := invTo_lt p _ (Nat.le_refl _)

theorem inversions_plain (a : Option Addr) (len cap : Nat) (w : World) :
    Calls Try.prog 73 #[.slice a len cap] w fun e w' => e = .returned (.func (.func 104) #[] #[.pointer (some ⟨w.heap.size, 0, none⟩)]) ∧ w' = w.alloc (.cells #[.slice a len cap] 22) :=
  (callsIn_wide (n := 5)).1 (inversions_in Fence.wide 5 trivial rfl _ _ _ _)

theorem rowTo_length (p : List Int) (i m : Nat) : (rowTo p i m).length ≤ m := by
  induction m with
  | zero => simp [rowTo]
  | succ m ih => rw [rowTo, List.length_append]; split <;> simp <;> omega
theorem invTo_length (p : List Int) (i : Nat) : (invTo p i).length ≤ i * p.length := by
  induction i with
  | zero => simp [invTo]
  | succ i ih =>
    rw [invTo, List.length_append, Nat.add_mul, Nat.one_mul]
    have := rowTo_length p i (p.length - (i + 1))
    omega
theorem invs_length (p : List Int) (h : p.length ≤ 1000) : (invs p).length ≤ 1000000 := by
  have h1 := invTo_length p p.length
  have h2 := Nat.mul_le_mul h h
  unfold invs
  omega
theorem KpP.setCell {Bs b g j : Nat} (h1 : Bs ≠ g) (h2 : b ≠ g) (W : World) (u : Value) : KpP Bs b W (W.setCell ⟨g, j, none⟩ u) :=
  ⟨fun _ hv => (World.cell?_of_block (a := ⟨Bs, 0, none⟩) (heap_setCell_other W ⟨g, j, none⟩ Bs u h1)).trans hv, fun k _ hv => (World.cell?_of_block (a := ⟨b, k, none⟩) (heap_setCell_other W ⟨g, j, none⟩ b u h2)).trans hv⟩
theorem Blk.ints {w : World} {g : Nat} {e : TypeId} {zs : List Int} (h : Blk w g e (I64s zs)) {n c : Nat} (hn : zs.length = n) (hl : n ≤ c ∧ c ≤ 9223372036854775807) : Ints w (.slice (some ⟨g, 0, none⟩) n c) zs := by
  subst hn
  exact ⟨_, c, rfl, hl, fun _ => ⟨g, 0, rfl, h.lt, fun j x hj => by rw [Nat.zero_add]; exact h.cell (i64s_get hj)⟩⟩
theorem Ints.slAt {w W : World} {v : Value} {p : List Int} (h : Ints w v p) (hB : Below w.heap.size w W) {Bs : Nat} (hbox : W.cell? ⟨Bs, 0, none⟩ = some v) :
    ∃ b, SlAt W Bs b v p ∧ (0 < p.length → b < w.heap.size) := by
  obtain ⟨a, cap, rfl, hl, h⟩ := h
  by_cases hp : 0 < p.length
  · obtain ⟨b, o, rfl, hlt, hc⟩ := h hp
    exact ⟨b, ⟨hbox, _, o, cap, rfl, fun _ => rfl, fun j x hj => (hB.cell (p := ⟨b, o + j, none⟩) hlt).trans (hc j x hj)⟩, fun _ => hlt⟩
  · refine ⟨0, ⟨hbox, _, 0, cap, rfl, fun h => absurd h hp, fun j x hj => ?_⟩, fun h => absurd h hp⟩
    rw [List.getElem?_eq_none (by omega)] at hj; cases hj

set_option maxRecDepth 100000 in
set_option maxHeartbeats 2000000 in
theorem code_any (v : Value) (p : List Int) (w : World) (hv : Ints w v p) (hl : p.length ≤ 1000) :
    Calls Try.prog 74 #[v] w fun e w' => ∃ u, e = .returned u ∧ Ints w' u (cntL p.length (invs p)) ∧ Below w.heap.size w w' := by
  obtain ⟨ao, n, cap, rfl, HN, hn'⟩ := hv.open
  have hn2 : n ≤ 1000 := by have := HN.out; omega
  refine (callsIn_wide (n := 6)).1 ?_
  refine callsIn_of_wp_marks Try.func74 rfl trivial ?_ rfl
  simp only [Try.ntmps74, List.size_toArray, List.length_cons, List.length_nil, Nat.reduceAdd, Nat.reduceSub, Array.replicate_succ, Array.replicate_zero, List.push_toArray, List.append_toArray, List.nil_append, List.cons_append]
  refine wpIn_wide.2 ?_
  go_wp2_with (first | (at_make; refine wpList_makeV Try.info3 Try.underlying22 rfl rfl _ _ rfl n rfl rfl (by omega) (by omega) (by omega) (by omega) ?_; intro w1 hb1 hB1 hs1) | (go_at_call 73; refine (inversions_plain _ _ _ _).mono ?_; rintro e w' ⟨rfl, rfl⟩))
  have hsz1 : w1.heap.size = w.heap.size + 1 := hs1
  have hle1 := hB1.size
  have hn3 : p.length = n := HN.out
  have hvw : Ints w1 (.slice ao n cap) p := hv.below hB1 (Nat.le_refl _)
  have hB2 : Below w.heap.size w ((w1.alloc (.cells #[.slice (some ⟨w.heap.size, 0, none⟩) n n] 22)).alloc (.cells #[.slice ao n cap] 22)) := (hB1.alloc hle1 _).alloc (by simp; omega) _
  have hbx2 := (Blk.new (w1.alloc (.cells #[.slice (some ⟨w.heap.size, 0, none⟩) n n] 22)) 22 [.slice ao n cap]).cell (j := 0) rfl
  rw [World.size_alloc, hsz1] at hbx2
  have hbx1 := ((Blk.new w1 22 [.slice (some ⟨w.heap.size, 0, none⟩) n n]).alloc (.cells #[.slice ao n cap] 22)).cell (j := 0) rfl
  rw [hsz1] at hbx1
  obtain ⟨b, hbS⟩ := hv.slAt hB2 hbx2
  refine (wpIn_wide (n := 6)).1 ?_
  refine wpIn_rangeFunc_ownF rfl (by omega) (gf := 104) (lb := #[.pointer (some ⟨w.heap.size + 1 + 1, 0, none⟩)]) rfl trivial (enters_of Try.func104 (by kernel_rfl) rfl)
    (inv_stops Fence.wide 5 trivial rfl (by omega) (w.heap.size + 1 + 1) b (.slice ao n cap) p (by omega) _ hbS.1 (by simp; omega) (by intro h; have := hbS.2 h; simp; omega)) KpP_t KpP_b (Below.refl _ _) (fun _ => rfl)
    (fun pre W => (Blk W w.heap.size 3 (I64s (cntL n (vals pre))) ∧ W.cell? ⟨w.heap.size + 1, 0, none⟩ = some (.slice (some ⟨w.heap.size, 0, none⟩) n n)) ∧ Below w.heap.size w W)
    (fun _ _ _ => False)
    (OwnFrom.and (Own.from (fun s A B row hs hg hr => ⟨hs.1.own hg hr, cell_kept hs.2 hg hr⟩) _) (ownFrom_below (Nat.le_refl _) (by simp; omega)))
    (fun _ _ _ _ _ hs _ _ => hs)
    ?h0
    (fun x => { tmps := #[.slice ao n cap, undef, .slice none 0 0, .pointer (some ⟨w.heap.size + 1, 0, none⟩), .int .i64 x.1.1, .slice ao n cap, .int .i64 n, .slice (some ⟨w.heap.size, 0, none⟩) n n, .slice ao n cap, .func (.func 104) #[] #[.pointer (some ⟨w.heap.size + 1 + 1, 0, none⟩)], .int .i64 x.1.1, .int .i64 x.1.2, undef, undef, undef, undef, undef, undef, undef], defers := [] }) ?assign ?body ?done ?stop
  case h0 =>
    refine ⟨⟨?_, hbx1⟩, hB2⟩
    have := (hb1.alloc (.cells #[.slice (some ⟨w.heap.size, 0, none⟩) n n] 22)).alloc (.cells #[.slice ao n cap] 22)
    simpa [vals, cntL_nil, I64s] using this
  case assign =>
    intro l x W K hK
    gi_wp2
    exact hK
  case body =>
    rintro l pre x W ⟨⟨hb, hc⟩, hB⟩ hlen
    have hx := invs_lt p x.1 x.2
    have hx1 : x.1.1 < n := by omega
    have hcell := hb.cell (i64s_get (cntL_get (vals pre) hx1))
    have hfr := hb.free x.1.1
    have hcl : List.countP (fun y => y.1 == x.1.1) (vals pre) ≤ 1000000 := by
      have h1 := List.countP_le_length (p := fun y : Nat × Nat => y.1 == x.1.1) (l := vals pre)
      have h2 := invs_length p hl
      simp only [vals, List.length_map] at h1 ⊢
      omega
    generalize hcc : List.countP (fun y => y.1 == x.1.1) (vals pre) = c at hcell hcl
    have HCC := Lib.hid hcc
    have HB := Lib.hid hb
    clear hcc hb
    gi_wp2
    refine ⟨KeepsOthers.setCell _ _ _, KpP.setCell (by omega) (by have := hbS.2 (by omega); omega) _ _, ⟨?_, ?_⟩, hB.setCell (Nat.le_refl _) _⟩
    · rw [vals_snoc, cntL_snoc, HCC.out, ← i64s_set]
      exact HB.out.set _ _
    · exact (World.cell?_of_block (a := ⟨w.heap.size + 1, 0, none⟩) (heap_setCell_other W ⟨w.heap.size, x.1.1, none⟩ (w.heap.size + 1) _ (by simp))).trans hc
  case done =>
    rintro D ys W hD hys ⟨⟨hb, hc⟩, hB⟩ hK
    rw [hys] at hb
    have HB := Lib.hid hb
    clear hb
    go_wp2
    refine ⟨by simp, .inl ⟨_, _, rfl, run_takeDeferred hK, ?_⟩⟩
    refine ⟨_, results_tmp rfl _ _ _, ?_⟩
    refine ⟨_, rfl, ?_, hB.trans (belowK_b (w := w) (Nat.le_refl _) W D _ _ (by simp at hD; omega) hK rfl rfl)⟩
    have := Blk.ints (HB.out.own (grownBy_putObj' W D (.deferred none)) (fun r e => by cases e; exact ⟨_, hK, rfl⟩)) (c := n) (n := n) (by rw [cntL_len]) ⟨Nat.le_refl _, by omega⟩
    rw [show cntL p.length (invs p) = cntL n (invs p) by rw [hn3]]
    exact this
  case stop =>
    rintro D c pre W _ _ h _
    exact h.elim

/-- what Code returns -/
def codeM (p : List Int) : List Int := cntL p.length (invs p)
theorem code_bad (v : Value) (p : List Int) (w : World) (hv : Ints w v p) (hch : checkM p = 20) :
    Calls Try.prog 32 #[v] w fun e w' => e = .returned (.tuple #[.slice none 0 0, .int .i64 20]) ∧ Below w.heap.size w w' := by
  go_enter Try.func32, Try.ntmps32
  go_wp2_with (go_at_call 63; refine (check_any _ p _ hv).mono ?_; rw [hch]; rintro e w1 ⟨rfl, hb⟩)
  go_ret2
  exact ⟨rfl, hb⟩

set_option maxHeartbeats 400000 in
theorem Code_any (v : Value) (p : List Int) (w : World) (hv : Ints w v p) (hch : checkM p = 0) (hl : p.length ≤ 1000) :
    Calls Try.prog 32 #[v] w fun e w' => ∃ u, e = .returned (.tuple #[u, .int .i64 0]) ∧ Ints w' u (codeM p) ∧ Below w.heap.size w w' := by
  go_enter Try.func32, Try.ntmps32
  go_wp2_with (first | (go_at_call 63; refine (check_any _ p _ hv).mono ?_; rw [hch]; rintro e w1 ⟨rfl, hb⟩; have hv1 := hv.below hb (Nat.le_refl _)) | (go_at_call 74; refine (code_any _ p _ hv1 hl).mono ?_; rintro e w2 ⟨u, rfl, hu, hb2⟩))
  go_ret2
  exact ⟨_, rfl, hu, hb.trans (hb2.mono hb.size)⟩
end Go.Proofs.Ytgajaccnjjiiaaa
