/- What two vertices have is put together: the walk. -/
import Derived.Test.YtlooclpfoeakgaaMB
import Derived.Deep.RegionHeld3
import Derived.Deep.LoopGhost
import Derived.StillTailTactics
import Derived.Deep.RegionWith
namespace Go.Proofs.Ytlooclpfoeakgaa
open Go.RowKit

/-! ### a drawn region, step by step: operations taken first, then those that may come up -/
section
variable {P : Program} {l : List Oper} {Q : Exit → Act → World → Prop} {md : Region.Mode} {S : World → Prop}
theorem takeH (i : Nat) {oi : Oper} {v : Value} {fuel : Nat} {listed : Array Bool} {a : Act} {w : World} (hi : l[i]? = some oi)
    (hs : Region.noSelect l.toArray = true) (hf : Region.free md l.toArray listed i = true) (hr : (Region.ready md l.toArray listed).contains i = true)
    (hQ : ∀ c a w, Q (.panic c) (a.put oi.dst v) w → Q (.panic c) a w) (hwa : Region.wanted oi (yielded l.toArray a.tmps) = true) (hy : ∀ w, S w → (execOp a.eval oi).run P w = .ok (.value v) w) (hS : S w)
    (h : wpAnyH P md l.toArray Q S fuel (listed.setIfInBounds i true) (a.put oi.dst v) w) : wpAnyH P md l.toArray Q S (fuel + 1) listed a w :=
  wpAnyH_take (ops := l.toArray) (by simpa using hi) hs hf hr hQ (Or.inl ⟨hwa, hy⟩) hS h
theorem oneH (i : Nat) {o : Oper} {fuel : Nat} {listed : Array Bool} {a : Act} {w : World} (hr : Region.ready md l.toArray listed = [i]) (hi : l[i]? = some o)
    (h : ∀ K' : Act → World → Prop, Shut (∀ a w, S w → (S w → wpAnyH P md l.toArray Q S fuel (listed.setIfInBounds i true) a w) → K' a w) → if Region.wanted o (yielded l.toArray a.tmps) = true then Oper.wp P o a w K' Q else K' (a.put o.dst undef) w) :
    wpAnyH P md l.toArray Q S (fuel + 1) listed a w :=
  wpAnyH_ready hr (by simp) (AllReadyH.cons (by simpa using hi) h AllReadyH.nil)
theorem twoH (i j : Nat) {o oj : Oper} {fuel : Nat} {listed : Array Bool} {a : Act} {w : World} (hr : Region.ready md l.toArray listed = [i, j]) (hi : l[i]? = some o) (hj : l[j]? = some oj)
    (h : ∀ K' : Act → World → Prop, Shut (∀ a w, S w → (S w → wpAnyH P md l.toArray Q S fuel (listed.setIfInBounds i true) a w) → K' a w) → if Region.wanted o (yielded l.toArray a.tmps) = true then Oper.wp P o a w K' Q else K' (a.put o.dst undef) w)
    (h2 : ∀ K' : Act → World → Prop, Shut (∀ a w, S w → (S w → wpAnyH P md l.toArray Q S fuel (listed.setIfInBounds j true) a w) → K' a w) → if Region.wanted oj (yielded l.toArray a.tmps) = true then Oper.wp P oj a w K' Q else K' (a.put oj.dst undef) w) :
    wpAnyH P md l.toArray Q S (fuel + 1) listed a w :=
  wpAnyH_ready hr (by simp) (AllReadyH.cons (by simpa using hi) h (AllReadyH.cons (by simpa using hj) h2 AllReadyH.nil))
end
theorem idx152 {M : List Value} {k : Nat} {b : Int} (hk : k < 8) (h : M[k]? = some (.int .i64 b)) (W : World) : (Instr.index 152 (.agg M.toArray) (.int .i64 (k : Int))).run Try.prog W = .ok (.int .i64 b) W := by
  have hz : ∀ w, (Go.sizeOf 3).run Try.prog w = .ok 1 w := Try.sizeOf3
  simp [Instr.index, run_underlying Try.underlying152, asIntOf, go_sem, hz, h]
  intro h2
  omega
/-- the edges of both, for the first places -/
def orK (fa fb : Nat → Option Nat) (k p : Nat) : Option Nat := if p < k then (fa p).or (fb p) else fa p
/-- what is to be joined, for the first places -/
def clashK (fa fb : Nat → Option Nat) (k : Nat) : List (Nat × Nat) := (List.range k).filterMap fun p => match fb p, fa p with
  | some t, some y => some (y, t)
  | _, _ => none
theorem clashK_succ (fa fb : Nat → Option Nat) (k : Nat) : clashK fa fb (k + 1) = clashK fa fb k ++ (match fb k, fa k with
  | some t, some y => [(y, t)]
  | _, _ => []) := by
  unfold clashK
  rw [List.range_succ, List.filterMap_append]
  congr 1
  cases h1 : fb k <;> cases h2 : fa k <;> simp [h1, h2]
theorem orK_zero (fa fb : Nat → Option Nat) : orK fa fb 0 = fa := by funext p; simp [orK]
theorem rowI_eq {f h : Nat → Option Nat} (e : ∀ p, p < 8 → f p = h p) : rowI f = rowI h := by
  unfold rowI
  apply List.map_congr_left
  intro p hp
  rw [e p (List.mem_range.1 hp)]
theorem rowI_get {f : Nat → Option Nat} {p : Nat} (h : p < 8) : (rowI f)[p]? = some (optI (f p)) := by simp [rowI, h]
theorem rowI_set {f : Nat → Option Nat} {k t : Nat} (hk : k < 8) : (rowI f).set k (t : Int) = rowI (fun p => if p = k then some t else f p) := by
  apply List.ext_getElem?
  intro j
  rw [List.getElem?_set]
  by_cases hj : j < 8
  · by_cases h : k = j
    · subst h; rw [if_pos rfl, if_pos (by rw [rowI_len]; exact hj), rowI_get hj, if_pos rfl]; rfl
    · rw [if_neg h, rowI_get hj, rowI_get hj, if_neg (fun e => h e.symm)]
  · have h1 : (rowI f)[j]? = none := by rw [List.getElem?_eq_none]; rw [rowI_len]; omega
    have h2 : (rowI fun p => if p = k then some t else f p)[j]? = none := by rw [List.getElem?_eq_none]; rw [rowI_len]; omega
    rw [h1, h2]
    split
    · rw [if_neg (by rw [rowI_len]; omega)]
    · rfl
theorem ret127 {w : World} {tmps : Array Value} {g : Nat} {M : List Value} (hM : M.length = 8) (hp : tmps.getD 5 undef = .pointer (some ⟨g, 0, none⟩)) (hb : Blk w g 152 M) : (results Try.f127 tmps).run Try.prog w = .ok (.agg M.toArray) w :=
  results_cell_row rfl tmps w g 152 _ (0, 0) _ hp hb Try.underlying152 rfl (by rw [Try.size152]; simp [hM])
theorem row_congr {w w2 : World} {base : Nat} {e : TypeId} {size n : Nat} {v : Value} {xs : List Value} (h : w.ownsRow base e size v n xs) (hh : ∀ i, v.ownBlock = some i → w2.heap[i]? = w.heap[i]?) : w2.ownsRow base e size v n xs := by
  refine ⟨h.1, ?_⟩
  rcases h.2 with hn | ⟨g, cap, cur, rfl, h1, hgg, rest⟩
  · exact .inl hn
  · exact .inr ⟨g, cap, cur, rfl, h1, (hh g rfl).trans hgg, rest⟩
theorem FZ.congr {w w2 : World} {base g k nu nh nt : Nat} {us hs ts : List Int} {uv hv tv : Value} (h : FZ w base g k nu us nh hs nt ts uv hv tv) (hh : ∀ i, i = g ∨ uv.ownBlock = some i ∨ hv.ownBlock = some i ∨ tv.ownBlock = some i → w2.heap[i]? = w.heap[i]?) : FZ w2 base g k nu us nh hs nt ts uv hv tv :=
  ⟨(hh g (.inl rfl)).trans h.blk, h.lt, row_congr h.ups fun i hi => hh i (.inr (.inl hi)), row_congr h.hass fun i hi => hh i (.inr (.inr (.inl hi))), row_congr h.todos fun i hi => hh i (.inr (.inr (.inr hi)))⟩
/-- a block of the type of a vertex's edges that is not the list's own -/
theorem FZ.apart {w : World} {base g k nu nh nt : Nat} {us hs ts : List Int} {uv hv tv : Value} (h : FZ w base g k nu us nh hs nt ts uv hv tv) {b : Nat} {vs : List Value} (hb : Blk w b 152 vs) (hh : hv.ownBlock ≠ some b) : ∀ i, i = g ∨ uv.ownBlock = some i ∨ hv.ownBlock = some i ∨ tv.ownBlock = some i → i ≠ b := by
  rintro i (rfl | e | e | e) rfl
  · have h1 := h.blk
    rw [Blk] at h1 hb
    rw [hb] at h1
    simp at h1
  · exact row_blk h.ups hb (by decide) e.symm
  · exact hh e
  · exact row_blk h.todos hb (by decide) e.symm
theorem heap_setCells_ne (b : Nat) : ∀ (vs : List Value) (o : Nat) (w : World) (k : Nat), k ≠ b → (w.setCells b o vs).heap[k]? = w.heap[k]?
  | [], _, _, _, _ => rfl
  | v :: vs, o, w, k, h => (heap_setCells_ne b vs (o + 1) _ k h).trans (Below.heap_setCell w ⟨b, o, none⟩ v k h)
theorem Frm.far {w w1 w2 : World} {g : Nat} {u h t u1 h1 t1 : Value} (a : Frm w w1 g u h t u1 h1 t1) (b : Nat) (hb : w.heap.size ≤ b) (vs : List Value) (o : Nat) (e : w2 = w1.setCells b o vs) : Frm w w2 g u h t u1 h1 t1 := by
  have hB := below_setCells (B := w.heap.size) hb vs o (Below.refl w.heap.size w1)
  rw [← e] at hB
  exact ⟨hB.os.trans a.os, hB.tape.trans a.tape, hB.output.trans a.output, Nat.le_trans a.size hB.size, fun i hi hg e1 e2 e3 => (hB.block i hi).trans (a.block i hi hg e1 e2 e3), a.nu, a.nh, a.nt⟩
theorem optI_some (t : Nat) : optI (some t) = (t : Int) := rfl

set_option maxRecDepth 100000 in
set_option maxHeartbeats 4000000 in
theorem meet_any (w : World) (base g kk c nu nh : Nat) (us hs : List Int) (td : List (Nat × Nat)) (uv hv tv : Value) (fa fb : Nat → Option Nat) (h : FZ w base g kk nu us nh hs td.length (todoL td) uv hv tv) (hb : base ≤ w.heap.size) (hn : td.length < 1000000)
    (hc : Blk w c 91 [.pointer (some ⟨g, 0, none⟩)]) (hbd : ∀ p t, p < 8 → fa p = some t ∨ fb p = some t → t < 1000000000) :
    Calls Try.prog 127 #[.agg (I64s (rowI fa)).toArray, .agg (I64s (rowI fb)).toArray, .pointer (some ⟨c, 0, none⟩)] w fun e w' => e = .returned (.agg (I64s (rowI (orK fa fb 8))).toArray) ∧ ∃ tv', FZ w' base g kk nu us nh hs (td ++ clashK fa fb 8).length (todoL (td ++ clashK fa fb 8)) uv hv tv' ∧ Frm w w' g uv hv tv uv hv tv' := by
  obtain ⟨A, hA⟩ : ∃ A, A = I64s (rowI fa) := ⟨_, rfl⟩
  obtain ⟨B, hB⟩ : ∃ B, B = I64s (rowI fb) := ⟨_, rfl⟩
  have hBg : ∀ k, k < 8 → B[k]? = some (.int .i64 (optI (fb k))) := fun k hk => by rw [hB]; simp [rowI_get hk]
  have hlA : A.length = 8 := by rw [hA]; simp [rowI_len]
  have hlB : B.length = 8 := by rw [hB]; simp [rowI_len]
  rw [← hA, ← hB]
  have hb3 := Blk.alloc (Blk.alloc (Blk.new w 152 A) (.cells B.toArray 152)) (.cells #[.int .i64 0, .int .i64 0, .int .i64 0, .int .i64 0, .int .i64 0, .int .i64 0, .int .i64 0, .int .i64 0] 152)
  have hb4 := Blk.alloc (Blk.new (w.alloc (.cells A.toArray 152)) 152 B) (.cells #[.int .i64 0, .int .i64 0, .int .i64 0, .int .i64 0, .int .i64 0, .int .i64 0, .int .i64 0, .int .i64 0] 152)
  have hb5 := Blk.new ((w.alloc (.cells A.toArray 152)).alloc (.cells B.toArray 152)) 152 [.int .i64 0, .int .i64 0, .int .i64 0, .int .i64 0, .int .i64 0, .int .i64 0, .int .i64 0, .int .i64 0]
  rw [show (w.alloc (.cells A.toArray 152)).heap.size = w.heap.size + 1 by simp] at hb4
  rw [show ((w.alloc (.cells A.toArray 152)).alloc (.cells B.toArray 152)).heap.size = w.heap.size + 2 by simp] at hb5
  have hB0 : Below w.heap.size w (((w.alloc (.cells A.toArray 152)).alloc (.cells B.toArray 152)).alloc (.cells #[.int .i64 0, .int .i64 0, .int .i64 0, .int .i64 0, .int .i64 0, .int .i64 0, .int .i64 0, .int .i64 0] 152)) := (((Below.refl _ _).alloc (Nat.le_refl _) _).alloc (by simp) _).alloc (by simp; omega) _
  have H3 := Lib.hid hb3
  have H4 := Lib.hid hb4
  have H5 := Lib.hid hb5
  have HZ := Lib.hid (h.keep hB0)
  have HF := Lib.hid (Frm.of_below hB0 g uv hv tv)
  have HC := Lib.hid (hc.keep hB0)
  have HBG := Lib.hid hBg
  have HLB := Lib.hid hlB
  have HBD := Lib.hid hbd
  have hA0 : A = I64s (rowI (orK fa fb 0)) := by rw [orK_zero]; exact hA
  have HA0 := Lib.hid hA0
  have hhl := (World.ownsRow.lt h.hass)
  have HHL := Lib.hid (show ∀ b, hv.ownBlock = some b → b < w.heap.size from fun b hb => (hhl b hb).2)
  have hgw := h.blk.lt
  have hcw := hc.lt
  clear hhl h hc hb3 hb4 hb5 hB0 hBg hlB hlA hA hB hbd hA0
  go_enter Try.func127, Try.ntmps127
  go_wp2_with (with_reducible show wpList _ _ _ (Oper.mk _ (Op.load 152 _) _ _ _ _ :: _) _ _; (refine wpList_loadB H4.out Try.size152 HLB.out Try.underlying152 rfl rfl _ rfl rfl ?_))
  obtain ⟨Z, h5z, hz8⟩ : ∃ Z : List Value, Blk _ (w.heap.size + 2) 152 Z ∧ Z.length = 8 := ⟨_, H5.out, rfl⟩
  have HZ8 := Lib.hid hz8
  clear H5 hz8
  have H5 := Lib.hid h5z
  clear h5z
  go_loopw [9] (fun iv wr => ∃ (k : Nat) (tw : Value), k ≤ 8 ∧ iv = .int .i64 k ∧ Hid (Blk wr w.heap.size 152 (I64s (rowI (orK fa fb k)))) ∧ Hid (Blk wr (w.heap.size + 2) 152 Z) ∧ Hid (Blk wr c 91 [.pointer (some ⟨g, 0, none⟩)]) ∧
      Hid (FZ wr base g kk nu us nh hs (td ++ clashK fa fb k).length (todoL (td ++ clashK fa fb k)) uv hv tw) ∧ Hid (Frm w wr g uv hv tv uv hv tw) ∧ Hid ((clashK fa fb k).length ≤ k)) (fun iv _ => 8 - (intOf iv).toNat)
  case atStart => exact ⟨0, tv, by omega, rfl, by show Blk _ _ _ _; rw [← HA0.out]; exact H3.out, H5, HC, by show FZ _ _ _ _ _ _ _ _ _ _ _ _ _; simpa [clashK] using HZ.out, HF, (show Hid (_ ≤ _) from Nat.le_refl _)⟩
  case round =>
    clear H3 H4 H5 HC HZ HF
    obtain ⟨k, tw, hk, rfl, H3, H5, HC, HZ, HF, HCL⟩ := hrel
    by_cases hlt : k < 8
    · have hix := idx152 hlt (HBG.out k hlt)
      have c3 := H3.out.cell (j := k) (v := .int .i64 (optI (orK fa fb k k))) (by simp [rowI_get hlt])
      have hok : orK fa fb k k = fa k := by simp [orK]
      rw [hok] at c3
      have hcl := clashK_succ fa fb k
      have HCS := HCL.out
      cases hb : fb k with
      | none =>
        rw [hb] at hix hcl
        have hor : rowI (orK fa fb (k + 1)) = rowI (orK fa fb k) := rowI_eq fun p hp => by
          unfold orK
          by_cases h1 : p < k
          · rw [if_pos h1, if_pos (by omega)]
          · rw [if_neg h1]
            by_cases h2 : p = k
            · subst h2; rw [if_pos (by omega), hb]; cases fa p <;> rfl
            · rw [if_neg (by omega)]
        have hcl2 : clashK fa fb (k + 1) = clashK fa fb k := by rw [hcl]; cases fa k <;> simp
        have G1 : Hid (Blk wr w.heap.size 152 (I64s (rowI (orK fa fb (k + 1))))) := by rw [hor]; exact H3
        have G2 : Hid (FZ wr base g kk nu us nh hs (td ++ clashK fa fb (k + 1)).length (todoL (td ++ clashK fa fb (k + 1))) uv hv tw) := by rw [hcl2]; exact HZ
        have G3 : Hid ((clashK fa fb (k + 1)).length ≤ k + 1) := by rw [hcl2]; exact Nat.le_succ_of_le HCL.out
        rw [show optI none = -1 from rfl] at hix
        clear hcl hcl2 hor hb HCL H3 HZ
        go_wp2_with fail
        go_roundw
        case rel => exact ⟨k + 1, tw, by omega, by go_num, G1, H5, HC, G2, HF, G3⟩
        case measure => simp [intOf]; omega
      | some t =>
        rw [hb] at hix hcl
        rw [optI_some] at hix
        have ht := HBD.out k t hlt (.inr hb)
        cases ha : fa k with
        | none =>
          rw [ha] at hcl c3
          rw [show optI none = -1 from rfl] at c3
          have hor : (rowI (orK fa fb k)).set k (t : Int) = rowI (orK fa fb (k + 1)) := by
            rw [rowI_set hlt]
            refine rowI_eq fun p hp => ?_
            unfold orK
            by_cases h2 : p = k
            · subst h2; rw [if_pos rfl, if_pos (by omega), ha, hb]; rfl
            · rw [if_neg h2]
              by_cases h1 : p < k
              · rw [if_pos h1, if_pos (by omega)]
              · rw [if_neg h1, if_neg (by omega)]
          have hcl2 : clashK fa fb (k + 1) = clashK fa fb k := by rw [hcl]; simp
          have f3 := H3.out.free k
          have G1 : Hid (Blk (wr.setCell ⟨w.heap.size, k, none⟩ (.int .i64 t)) w.heap.size 152 (I64s (rowI (orK fa fb (k + 1))))) := by
            have := H3.out.set k (.int .i64 t)
            rw [i64s_set, hor] at this
            exact this
          have hne1 : g ≠ w.heap.size := by omega
          have hne2 : c ≠ w.heap.size := by omega
          have hsz := HF.out.size
          have G2 : Hid (FZ (wr.setCell ⟨w.heap.size, k, none⟩ (.int .i64 t)) base g kk nu us nh hs (td ++ clashK fa fb (k + 1)).length (todoL (td ++ clashK fa fb (k + 1))) uv hv tw) := by
            rw [hcl2]
            exact HZ.out.congr fun i hi => Below.heap_setCell _ _ _ i (HZ.out.apart H3.out (fun e => by have := HHL.out _ e; omega) i hi)
          have G3 : Hid ((clashK fa fb (k + 1)).length ≤ k + 1) := by rw [hcl2]; exact Nat.le_succ_of_le HCL.out
          have G4 := Lib.hid (HC.out.other (a := ⟨w.heap.size, k, none⟩) hne2 (.int .i64 t))
          have G5 := Lib.hid (H5.out.other (a := ⟨w.heap.size, k, none⟩) (by simp) (.int .i64 t))
          have G6 := Lib.hid (HF.out.set ⟨w.heap.size, k, none⟩ (.int .i64 t) (.inr (.inr (.inr (.inr (Nat.le_refl _))))))
          clear hcl hcl2 hor hb ha HCL H3 HZ HC H5 HF
          go_wp2_with fail
          go_roundw
          case rel => exact ⟨k + 1, tw, by omega, by go_num, G1, G5, G4, G2, G6, G3⟩
          case measure => simp [intOf]; omega
        | some y =>
          have HA9 := Lib.hid ha
          rw [ha] at hcl c3
          rw [optI_some] at c3
          have hy := HBD.out k y hlt (.inl ha)
          have hor : rowI (orK fa fb (k + 1)) = rowI (orK fa fb k) := rowI_eq fun p hp => by
            unfold orK
            by_cases h1 : p < k
            · rw [if_pos h1, if_pos (by omega)]
            · rw [if_neg h1]
              by_cases h2 : p = k
              · subst h2; rw [if_pos (by omega), ha]; rfl
              · rw [if_neg (by omega)]
          have hcl2 : td ++ clashK fa fb (k + 1) = td ++ clashK fa fb k ++ [(y, t)] := by rw [hcl]; simp
          obtain ⟨n0, hn0⟩ : ∃ n0, (td ++ clashK fa fb k).length = n0 := ⟨_, rfl⟩
          rw [hn0] at HZ
          have HN0 := Lib.hid hn0
          have hn09 : n0 < 1000000000 := by rw [← hn0, List.length_append]; omega
          clear hn0
          have hcc := HC.out.cell (j := 0) rfl
          have htd := HZ.out.blk.cell (j := 3) rfl
          have hg1 := HZ.out.blk.lt
          have hc1 := HC.out.lt
          have hw1 := H3.out.lt
          have HN := Lib.hid hn09
          have H1 := Lib.hid (HZ.out.alloc (.cells (I64s [(y : Int), (t : Int)]).toArray 70))
          have H2 : Hid (Blk (wr.alloc (.cells (I64s [(y : Int), (t : Int)]).toArray 70)).drew wr.heap.size 70 (I64s [(y : Int), (t : Int)])) := Lib.hid (Blk.new wr 70 (I64s [(y : Int), (t : Int)]))
          have hwz := HF.out.size
          have H9 : Hid (base ≤ (wr.alloc (.cells (I64s [(y : Int), (t : Int)]).toArray 70)).drew.heap.size) := by
            show base ≤ (wr.alloc (.cells (I64s [(y : Int), (t : Int)]).toArray 70)).heap.size
            simp; omega
          have HKC : Hid (Blk (wr.alloc (.cells (I64s [(y : Int), (t : Int)]).toArray 70)).drew c 91 [.pointer (some ⟨g, 0, none⟩)]) := Lib.hid (HC.out.alloc _)
          have HOR := Lib.hid hor
          have HCL2 := Lib.hid hcl2
          have HLC := Lib.hid (show (clashK fa fb (k + 1)).length ≤ k + 1 by rw [hcl]; simp; exact HCL.out)
          obtain ⟨ta, tn, rfl, htn1, htn2, htl⟩ := row_shape HZ.out.todos
          have HTL := Lib.hid htl
          clear hcl hcl2 hor hb ha HCL htl
          go_wp2_with fail
          have HK3 : Hid (Blk (wr.alloc (.cells (I64s [(y : Int), (t : Int)]).toArray 70)).drew w.heap.size 152 (I64s (rowI (orK fa fb k)))) := Lib.hid (H3.out.alloc _)
          have HC3 := Lib.hid (show (I64s (rowI (orK fa fb k)))[k]? = some (.int .i64 (y : Int)) by simp [rowI_get hlt, hok]; rw [HA9.out]; rfl)
          have hcg : c ≠ g := by
            intro e
            subst e
            have q1 := HC.out
            have q2 := HZ.out.blk
            rw [Blk] at q1 q2
            rw [q1] at q2
            simp at q2
          have hwg : w.heap.size ≠ g := by omega
          have HCG := Lib.hid hcg
          clear hcg
          refine wp_region_held_drew (S := fun w' => w'.cell? ⟨c, 0, none⟩ = some (.pointer (some ⟨g, 0, none⟩)) ∧ w'.cell? ⟨w.heap.size, k, none⟩ = some (.int .i64 (y : Int))) (by kernel_rfl) (by simp [*]) (fun hHeld => ?_)
          refine takeH 0 (v := ?_) rfl (by kernel_rfl) (by kernel_rfl) (by kernel_rfl) (fun _ _ _ h => h) (by rfl) ?_ hHeld ?_
          rotate_left
          · (intro w hSw; (try dsimp only at hSw); go_simp; try with_reducible rfl)
          try simp only [Act.put, List.setIfInBounds_toArray, List.set_cons_zero, List.set_cons_succ]
          refine takeH 1 (v := ?_) rfl (by kernel_rfl) (by kernel_rfl) (by kernel_rfl) (fun _ _ _ h => h) (by rfl) ?_ hHeld ?_
          rotate_left
          · (intro w hSw; (try dsimp only at hSw); go_simp; try with_reducible rfl)
          try simp only [Act.put, List.setIfInBounds_toArray, List.set_cons_zero, List.set_cons_succ]
          refine takeH 2 (v := ?_) rfl (by kernel_rfl) (by kernel_rfl) (by kernel_rfl) (fun _ _ _ h => h) (by rfl) ?_ hHeld ?_
          rotate_left
          · (intro w hSw; (try dsimp only at hSw); go_simp; try with_reducible rfl)
          try simp only [Act.put, List.setIfInBounds_toArray, List.set_cons_zero, List.set_cons_succ]
          refine takeH 3 (v := ?_) rfl (by kernel_rfl) (by kernel_rfl) (by kernel_rfl) (fun _ _ _ h => h) (by rfl) ?_ hHeld ?_
          rotate_left
          · (intro w hSw; (try dsimp only at hSw); go_simp; try with_reducible rfl)
          try simp only [Act.put, List.setIfInBounds_toArray, List.set_cons_zero, List.set_cons_succ]
          refine takeH 5 (v := ?_) rfl (by kernel_rfl) (by kernel_rfl) (by kernel_rfl) (fun _ _ _ h => h) (by rfl) ?_ hHeld ?_
          rotate_left
          · (intro w hSw; (try dsimp only at hSw); go_simp; try with_reducible rfl)
          try simp only [Act.put, List.setIfInBounds_toArray, List.set_cons_zero, List.set_cons_succ]
          refine takeH 6 (v := ?_) rfl (by kernel_rfl) (by kernel_rfl) (by kernel_rfl) (fun _ _ _ h => h) (by rfl) ?_ hHeld ?_
          rotate_left
          · (intro w hSw; (try dsimp only at hSw); go_simp; try with_reducible rfl)
          try simp only [Act.put, List.setIfInBounds_toArray, List.set_cons_zero, List.set_cons_succ]
          refine takeH 7 (v := ?_) rfl (by kernel_rfl) (by kernel_rfl) (by kernel_rfl) (fun _ _ _ h => h) (by rfl) ?_ hHeld ?_
          rotate_left
          · (intro w hSw; (try dsimp only at hSw); go_simp; try with_reducible rfl)
          try simp only [Act.put, List.setIfInBounds_toArray, List.set_cons_zero, List.set_cons_succ]
          refine takeH 8 (v := ?_) rfl (by kernel_rfl) (by kernel_rfl) (by kernel_rfl) (fun _ _ _ h => h) (by rfl) ?_ hHeld ?_
          rotate_left
          · (intro w hSw; (try dsimp only at hSw); go_simp; try with_reducible rfl)
          try simp only [Act.put, List.setIfInBounds_toArray, List.set_cons_zero, List.set_cons_succ]
          refine takeH 9 (v := ?_) rfl (by kernel_rfl) (by kernel_rfl) (by kernel_rfl) (fun _ _ _ h => h) (by rfl) ?_ hHeld ?_
          rotate_left
          · (intro w hSw; (try dsimp only at hSw); go_simp; try with_reducible rfl)
          try simp only [Act.put, List.setIfInBounds_toArray, List.set_cons_zero, List.set_cons_succ]
          refine twoH 4 10 (by kernel_rfl) rfl rfl (fun K hK => ?first) (fun K hK => ?second)
          case' first =>
            go_simp
            refine hK.out _ _ (by (first | exact hHeld | go_keep)) (fun hHeld => ?_)
            clear hK K
            try simp only [Act.put, List.setIfInBounds_toArray, List.set_cons_zero, List.set_cons_succ]
            refine oneH 10 (by kernel_rfl) rfl (fun K hK => ?_)
            go_simp
            refine hK.out _ _ (by go_keep) (fun hHeld => ?_)
            clear hK K
            try simp only [Act.put, List.setIfInBounds_toArray, List.set_cons_zero, List.set_cons_succ]
            refine oneH 11 (by kernel_rfl) rfl (fun K hK => ?_)
            (refine step_appK Try.info70 rfl (by decide) (by decide) Try.underlying147 H1.out.todos HN.out rfl (.tmp 26) (.tmp 32) rfl (by simp [Act.eval]) (by simp [Act.eval]) H2.out rfl H9.out _ rfl ?_; intro g6 cap6 w6 hown6 hgrow6 hat6 hlt6; have hz6 := H1.out.appTodo hown6 hgrow6; have hb6 := H1.out.blk.grown hgrow6 (row_blk H1.out.todos H1.out.blk (by decide)); have c6 := hb6.cell (j := 3) rfl; have f6 := hb6.free 3; have cc6 := (HKC.out.grown hgrow6 (row_blk H1.out.todos HKC.out (by decide))).cell (j := 0) rfl; have c36 := (HK3.out.grown hgrow6 (row_blk H1.out.todos HK3.out (by decide))).cell HC3.out; have cc7 := ((HKC.out.grown hgrow6 (row_blk H1.out.todos HKC.out (by decide))).other (a := ⟨g, 3, none⟩) HCG.out (.slice (some ⟨g6, 0, none⟩) (n0 + 1) cap6)).cell (j := 0) rfl; have c37 := ((HK3.out.grown hgrow6 (row_blk H1.out.todos HK3.out (by decide))).other (a := ⟨g, 3, none⟩) hwg (.slice (some ⟨g6, 0, none⟩) (n0 + 1) cap6)).cell HC3.out)
            refine hK.out _ _ (by exact ⟨cc6, c36⟩) (fun hHeld => ?_)
            clear hK K
            try simp only [Act.put, List.setIfInBounds_toArray, List.set_cons_zero, List.set_cons_succ]
            refine takeH 12 (v := ?_) rfl (by kernel_rfl) (by kernel_rfl) (by kernel_rfl) (fun _ _ _ h => h) (by rfl) ?_ hHeld ?_
            rotate_left
            · (intro w hSw; (try dsimp only at hSw); go_simp; try with_reducible rfl)
            try simp only [Act.put, List.setIfInBounds_toArray, List.set_cons_zero, List.set_cons_succ]
            refine takeH 13 (v := ?_) rfl (by kernel_rfl) (by kernel_rfl) (by kernel_rfl) (fun _ _ _ h => h) (by rfl) ?_ hHeld ?_
            rotate_left
            · (intro w hSw; (try dsimp only at hSw); go_simp; try with_reducible rfl)
            try simp only [Act.put, List.setIfInBounds_toArray, List.set_cons_zero, List.set_cons_succ]
            refine oneH 14 (by kernel_rfl) rfl (fun K hK => ?_)
            go_simp
            refine hK.out _ _ (by exact ⟨cc7, c37⟩) (fun hHeld => ?_)
            clear hK K
            try simp only [Act.put, List.setIfInBounds_toArray, List.set_cons_zero, List.set_cons_succ]
            refine wpAnyH_done (by kernel_rfl) ?_ _
          case' second =>
            go_simp
            refine hK.out _ _ (by go_keep) (fun hHeld => ?_)
            clear hK K
            try simp only [Act.put, List.setIfInBounds_toArray, List.set_cons_zero, List.set_cons_succ]
            refine oneH 4 (by kernel_rfl) rfl (fun K hK => ?_)
            go_simp
            refine hK.out _ _ (by (first | exact hHeld | go_keep)) (fun hHeld => ?_)
            clear hK K
            try simp only [Act.put, List.setIfInBounds_toArray, List.set_cons_zero, List.set_cons_succ]
            refine oneH 11 (by kernel_rfl) rfl (fun K hK => ?_)
            (refine step_appK Try.info70 rfl (by decide) (by decide) Try.underlying147 H1.out.todos HN.out rfl (.tmp 26) (.tmp 32) rfl (by simp [Act.eval]) (by simp [Act.eval]) H2.out rfl H9.out _ rfl ?_; intro g6 cap6 w6 hown6 hgrow6 hat6 hlt6; have hz6 := H1.out.appTodo hown6 hgrow6; have hb6 := H1.out.blk.grown hgrow6 (row_blk H1.out.todos H1.out.blk (by decide)); have c6 := hb6.cell (j := 3) rfl; have f6 := hb6.free 3; have cc6 := (HKC.out.grown hgrow6 (row_blk H1.out.todos HKC.out (by decide))).cell (j := 0) rfl; have c36 := (HK3.out.grown hgrow6 (row_blk H1.out.todos HK3.out (by decide))).cell HC3.out; have cc7 := ((HKC.out.grown hgrow6 (row_blk H1.out.todos HKC.out (by decide))).other (a := ⟨g, 3, none⟩) HCG.out (.slice (some ⟨g6, 0, none⟩) (n0 + 1) cap6)).cell (j := 0) rfl; have c37 := ((HK3.out.grown hgrow6 (row_blk H1.out.todos HK3.out (by decide))).other (a := ⟨g, 3, none⟩) hwg (.slice (some ⟨g6, 0, none⟩) (n0 + 1) cap6)).cell HC3.out)
            refine hK.out _ _ (by exact ⟨cc6, c36⟩) (fun hHeld => ?_)
            clear hK K
            try simp only [Act.put, List.setIfInBounds_toArray, List.set_cons_zero, List.set_cons_succ]
            refine takeH 12 (v := ?_) rfl (by kernel_rfl) (by kernel_rfl) (by kernel_rfl) (fun _ _ _ h => h) (by rfl) ?_ hHeld ?_
            rotate_left
            · (intro w hSw; (try dsimp only at hSw); go_simp; try with_reducible rfl)
            try simp only [Act.put, List.setIfInBounds_toArray, List.set_cons_zero, List.set_cons_succ]
            refine takeH 13 (v := ?_) rfl (by kernel_rfl) (by kernel_rfl) (by kernel_rfl) (fun _ _ _ h => h) (by rfl) ?_ hHeld ?_
            rotate_left
            · (intro w hSw; (try dsimp only at hSw); go_simp; try with_reducible rfl)
            try simp only [Act.put, List.setIfInBounds_toArray, List.set_cons_zero, List.set_cons_succ]
            refine oneH 14 (by kernel_rfl) rfl (fun K hK => ?_)
            go_simp
            refine hK.out _ _ (by exact ⟨cc7, c37⟩) (fun hHeld => ?_)
            clear hK K
            try simp only [Act.put, List.setIfInBounds_toArray, List.set_cons_zero, List.set_cons_succ]
            refine wpAnyH_done (by kernel_rfl) ?_ _
          all_goals
            have k3 : Blk (wr.alloc (.cells (I64s [(y : Int), (t : Int)]).toArray 70)).drew w.heap.size 152 (I64s (rowI (orK fa fb k))) := H3.out.alloc _
            have k5 : Blk (wr.alloc (.cells (I64s [(y : Int), (t : Int)]).toArray 70)).drew (w.heap.size + 2) 152 Z := H5.out.alloc _
            have kc : Blk (wr.alloc (.cells (I64s [(y : Int), (t : Int)]).toArray 70)).drew c 91 [.pointer (some ⟨g, 0, none⟩)] := HC.out.alloc _
            have m3 := (k3.grown hgrow6 (row_blk H1.out.todos k3 (by decide))).other (a := ⟨g, 3, none⟩) (by show w.heap.size ≠ g; omega) (.slice (some ⟨g6, 0, none⟩) (n0 + 1) cap6)
            have m5 := (k5.grown hgrow6 (row_blk H1.out.todos k5 (by decide))).other (a := ⟨g, 3, none⟩) (by show w.heap.size + 2 ≠ g; omega) (.slice (some ⟨g6, 0, none⟩) (n0 + 1) cap6)
            have mc := (kc.grown hgrow6 (row_blk H1.out.todos kc (by decide))).other (a := ⟨g, 3, none⟩) (by
              intro e
              have e : c = g := e
              subst e
              have q1 := HC.out
              have q2 := HZ.out.blk
              rw [Blk] at q1 q2
              rw [q1] at q2
              simp at q2) (.slice (some ⟨g6, 0, none⟩) (n0 + 1) cap6)
            have hB6 := ((HF.out.trans (Frm.of_below ((Below.refl _ _).alloc (Nat.le_refl _) (.cells (I64s [(y : Int), (t : Int)]).toArray 70)) g _ _ _)).drewN 1).grow hgrow6 (fun r hr => by
              rcases HF.out.nt r hr with e | e
              · exact .inr (.inr (.inl e))
              · exact .inr (.inr (.inr e)))
            have hB7 := (hB6.set ⟨g, 3, none⟩ (.slice (some ⟨g6, 0, none⟩) (n0 + 1) cap6) (.inl rfl)).toT (v := .slice (some ⟨g6, 0, none⟩) (n0 + 1) cap6) (fun r hr => by
              have hr : some g6 = some r := hr
              rcases hat6 with e | e
              · exact HF.out.nt r (e.trans hr)
              · right
                have : (wr.alloc (.cells (I64s [(y : Int), (t : Int)]).toArray 70)).drew.heap.size = wr.heap.size + 1 := by
                  show (wr.alloc (.cells (I64s [(y : Int), (t : Int)]).toArray 70)).heap.size = _
                  simp
                have h9 := Option.some.inj hr
                have e9 : r = wr.heap.size + 1 := by rw [← h9]; exact e.trans this
                omega)
            have G2 : Hid (FZ (w6.setCell ⟨g, 3, none⟩ (.slice (some ⟨g6, 0, none⟩) (n0 + 1) cap6)) base g kk nu us nh hs (td ++ clashK fa fb (k + 1)).length (todoL (td ++ clashK fa fb (k + 1))) uv hv (.slice (some ⟨g6, 0, none⟩) (n0 + 1) cap6)) := by
              rw [HCL2.out, todoL_snoc, List.length_append, HN0.out]
              exact hz6
            have G1 : Hid (Blk (w6.setCell ⟨g, 3, none⟩ (.slice (some ⟨g6, 0, none⟩) (n0 + 1) cap6)) w.heap.size 152 (I64s (rowI (orK fa fb (k + 1))))) := by rw [HOR.out]; exact m3
            have G3 := Lib.hid m5
            have G4 := Lib.hid mc
            have G5 := Lib.hid hB7
            clear m3 m5 mc hB6 hB7 hz6 k3 k5 kc hown6 hgrow6 hat6 hlt6 c6 f6 hb6 H1 H2 H9 HZ H3 H5 HC HF
            generalize w6.setCell ⟨g, 3, none⟩ (.slice (some ⟨g6, 0, none⟩) (n0 + 1) cap6) = w7 at *
            go_wp2_with fail
            go_roundw
            case rel => exact ⟨k + 1, _, by omega, by go_num, G1, G3, G4, G2, G5, HLC⟩
            case measure => simp [intOf]; omega
    · obtain rfl : k = 8 := by omega
      obtain ⟨M, hM⟩ : ∃ M, M = I64s (rowI (orK fa fb 8)) := ⟨_, rfl⟩
      have hlen : M.length = 8 := by rw [hM]; simp [rowI_len]
      have hone : ∀ v ∈ M, v.oneCell' = true := by
        intro v hv
        rw [hM] at hv
        obtain ⟨z, _, rfl⟩ := List.mem_map.1 hv
        rfl
      have hE : Ending.returned (.agg M.toArray) = Ending.returned (.agg (I64s (rowI (orK fa fb 8))).toArray) := by rw [hM]
      rw [← hM] at H3
      have HM := Lib.hid hlen
      have HM1 := Lib.hid hone
      have HE := Lib.hid hE
      have HL := Lib.hid (show Z.length = M.length by rw [hlen]; exact HZ8.out)
      clear hM hlen hone hE
      go_wp2_with (first
        | (with_reducible show wpList _ _ _ (Oper.mk _ (Op.load 152 _) _ _ _ _ :: _) _ _; (refine wpList_loadB H3.out Try.size152 HM.out Try.underlying152 rfl rfl _ rfl rfl ?_))
        | (with_reducible show wpList _ _ _ (Oper.mk _ (Op.store 152 _ _) _ _ _ _ :: _) _ _; (refine wpList_storeB (vs := M) H5.out Try.size152 HM.out HL.out HM1.out rfl _ _ rfl rfl rfl ?_)))
      have hbk2 := H5.out.setAll (vs := M) HL.out
      have hz2 := HZ.out.congr (w2 := wr.setCells (w.heap.size + 2) 0 M) fun i hi => heap_setCells_ne _ _ _ _ i (HZ.out.apart H5.out (fun e => by have := HHL.out _ e; omega) i hi)
      have hf2 := HF.out.far (w.heap.size + 2) (by omega) M 0 rfl
      exact bodyPost_ret (ret127 HM.out rfl hbk2) rfl ⟨HE.out, _, hz2, hf2⟩
end Go.Proofs.Ytlooclpfoeakgaa

/- Two vertices are joined: the walk. -/
namespace Go.Proofs.Ytlooclpfoeakgaa
open Go.RowKit

/-! ### rows of integers in elements of some size -/
theorem OwnK.open {w : World} {base : Nat} {e : TypeId} {size : Nat} {v : Value} {n : Nat} {zs : List Int} (h : OwnK w base e size v n zs) (h0 : 0 < n) :
    ∃ g cap, v = .slice (some ⟨g, 0, none⟩) n cap ∧ base ≤ g ∧ g < w.heap.size ∧ n ≤ cap ∧ cap ≤ 9223372036854775807 ∧ (∀ j, w.frozen? ⟨g, j, none⟩ = false) ∧ ∀ j x, zs[j]? = some x → w.cell? ⟨g, j, none⟩ = some (.int .i64 x) := by
  rcases h.2 with ⟨rfl, hz⟩ | ⟨g, cap, cur, rfl, hb, hgg, hn, hm, hc, htake⟩
  · omega
  · refine ⟨g, cap, rfl, hb, (Array.getElem?_eq_some_iff.1 hgg).1, hn, by unfold maxLen at hm; omega, fun j => frozen_of_row w g j cur e hgg, fun j x hj => ?_⟩
    rw [cell_of_row w g j cur e (0, 0) hgg]
    have h2 : (I64s zs)[j]? = some (.int .i64 x) := i64s_get hj
    rw [← htake, List.getElem?_take] at h2
    split at h2
    · simpa using h2
    · cases h2
theorem OwnK.set {w : World} {base : Nat} {e : TypeId} {size g n cap : Nat} {zs : List Int} (h : OwnK w base e size (.slice (some ⟨g, 0, none⟩) n cap) n zs) (j : Nat) (x : Int) :
    OwnK (w.setCell ⟨g, j, none⟩ (.int .i64 x)) base e size (.slice (some ⟨g, 0, none⟩) n cap) n (zs.set j x) := by
  have := (World.ownsRow.stored h j (.int .i64 x)).1
  rw [i64s_set] at this
  exact this
/-- some are written one behind the other -/
def setAll (zs : List Int) (o : Nat) : List Int → List Int
  | [] => zs
  | r :: rs => setAll (zs.set o r) (o + 1) rs
theorem OwnK.setAll {base : Nat} {e : TypeId} {size g n cap : Nat} : ∀ (rs : List Int) (o : Nat) (zs : List Int) (w : World), OwnK w base e size (.slice (some ⟨g, 0, none⟩) n cap) n zs →
    OwnK (w.setCells g o (I64s rs)) base e size (.slice (some ⟨g, 0, none⟩) n cap) n (setAll zs o rs)
  | [], _, _, _, h => h
  | r :: rs, o, _, _, h => OwnK.setAll rs (o + 1) _ _ (h.set o r)
theorem setAll_len : ∀ (rs : List Int) (o : Nat) (zs : List Int), (setAll zs o rs).length = zs.length
  | [], _, _ => rfl
  | r :: rs, o, zs => by rw [Ytlooclpfoeakgaa.setAll, setAll_len rs, List.length_set]
theorem setAll_get : ∀ (rs : List Int) (o : Nat) (zs : List Int) (j : Nat), j < zs.length → (setAll zs o rs)[j]? = if o ≤ j ∧ j < o + rs.length then rs[j - o]? else zs[j]?
  | [], o, zs, j, _ => by rw [if_neg (by simp)]; rfl
  | r :: rs, o, zs, j, h => by
    rw [Ytlooclpfoeakgaa.setAll, setAll_get rs (o + 1) _ j (by simpa using h)]
    by_cases h1 : o = j
    · subst h1
      rw [if_neg (by omega), if_pos (by simp), List.getElem?_set_self h, Nat.sub_self]; rfl
    · rw [List.getElem?_set_ne h1]
      by_cases h2 : o + 1 ≤ j ∧ j < o + 1 + rs.length
      · rw [if_pos h2, if_pos (by simp; omega)]
        rw [show j - o = (j - (o + 1)) + 1 by omega, List.getElem?_cons_succ]
      · rw [if_neg h2, if_neg (by simp at h2 ⊢; omega)]
theorem hasL_congr {n : Nat} {h h2 : Nat → Nat → Option Nat} (e : ∀ v p, v < n → p < 8 → h v p = h2 v p) : hasL n h = hasL n h2 := by
  unfold hasL
  congr 1
  apply List.map_congr_left
  intro v hv
  exact rowI_eq fun p hp => e v p (List.mem_range.1 hv) hp
theorem hasL_setAll {n : Nat} {h : Nat → Nat → Option Nat} {v : Nat} {f : Nat → Option Nat} (hv : v < n) : setAll (hasL n h) (v * 8) (rowI f) = hasL n (fun u p => if u = v then f p else h u p) := by
  apply List.ext_getElem?
  intro j
  by_cases hj : j < n * 8
  · rw [setAll_get _ _ _ _ (by rw [hasL_len]; exact hj), rowI_len]
    obtain ⟨u, p, hp, rfl⟩ : ∃ u p, p < 8 ∧ j = u * 8 + p := ⟨j / 8, j % 8, Nat.mod_lt _ (by decide), by omega⟩
    have hu : u < n := by omega
    rw [hasL_get (h := fun u p => if u = v then f p else h u p) hu hp]
    by_cases h1 : u = v
    · subst h1
      rw [if_pos (by omega), show u * 8 + p - u * 8 = p by omega, rowI_get hp, if_pos rfl]
    · rw [if_neg (by omega), hasL_get hu hp]
      simp [h1]
  · rw [List.getElem?_eq_none (by rw [setAll_len, hasL_len]; omega), List.getElem?_eq_none (by rw [hasL_len]; omega)]
theorem hasL_set {n : Nat} {h : Nat → Nat → Option Nat} {v p t : Nat} (hv : v < n) (hp : p < 8) : (hasL n h).set (v * 8 + p) (t : Int) = hasL n (fun u q => if u = v ∧ q = p then some t else h u q) := by
  apply List.ext_getElem?
  intro j
  by_cases hj : j < n * 8
  · obtain ⟨u, q, hq, rfl⟩ : ∃ u q, q < 8 ∧ j = u * 8 + q := ⟨j / 8, j % 8, Nat.mod_lt _ (by decide), by omega⟩
    have hu : u < n := by omega
    rw [hasL_get hu hq]
    by_cases h1 : u = v ∧ q = p
    · obtain ⟨rfl, rfl⟩ := h1
      rw [List.getElem?_set_self (by rw [hasL_len]; omega)]
      simp [optI]
    · rw [List.getElem?_set_ne (by omega), hasL_get hu hq, if_neg h1]
  · rw [List.getElem?_eq_none (by rw [List.length_set, hasL_len]; omega), List.getElem?_eq_none (by rw [hasL_len]; omega)]
/-- the edges of one vertex, as a range of cells -/
theorem OwnK.range {w : World} {base : Nat} {b n cap : Nat} {h : Nat → Nat → Option Nat} (ho : OwnK w base 152 8 (.slice (some ⟨b, 0, none⟩) n cap) n (hasL n h)) {v : Nat} (hv : v < n) :
    w.rangeAt b (v * 8) (I64s (rowI (h v))) ∧ w.there b (v * 8) 8 := by
  obtain ⟨b', cap', e', -, -, -, -, hfr, hc⟩ := ho.open (by omega)
  obtain ⟨rfl, rfl⟩ : b = b' ∧ cap = cap' := by simpa using e'
  refine ⟨fun j u hj => ?_, fun j hj => ⟨?_, hfr _⟩⟩
  · have hj8 : j < 8 := by
      have := (List.getElem?_eq_some_iff.1 hj).1
      simpa [rowI_len] using this
    have e : u = .int .i64 (optI (h v j)) := by
      have := i64s_get (rowI_get (f := h v) hj8)
      rw [this] at hj
      exact (Option.some.inj hj).symm
    rw [e]
    exact hc _ _ (hasL_get hv hj8)
  · rw [hc _ _ (hasL_get hv hj)]; rfl
theorem exec_load_mid {P : Program} {ρ : Operand → Value} {o : Oper} {w : World} (ty : TypeId) (x : Operand) (ho : o.op = .load ty x) {b i : Nat} (hx : ρ x = .pointer (some ⟨b, i, none⟩)) {cs : List Value} {d : TypeDesc} (hc : w.rangeAt b i cs)
    (hu : P.underlying ty = some d) (hd : d.isRow = true) (hi : (P.info? ty).map (·.size) = some cs.length) : (execOp ρ o).run P w = .ok (.value (.agg cs.toArray)) w := by
  unfold execOp
  simp only [ho, hx, Instr.loadAt, Instr.sureAddr, Sem.run_bind, Sem.run_pure, Result.andThen_ok, run_loadVar_mid w b i ty cs d hc hu hd hi]
/-- what may hold of a block that a folder does not have -/
theorem Frm.blkOf {w w' : World} {base g kk nu nh nt : Nat} {us hs ts : List Int} {u h t u1 h1 t1 : Value} (a : Frm w w' g u h t u1 h1 t1) (hz : FZ w base g kk nu us nh hs nt ts u h t) {c : Nat} {e : TypeId} {vs : List Value} (hc : Blk w c e vs) (h1 : e ≠ 149) (h2 : e ≠ 3) (h3 : e ≠ 152) (h4 : e ≠ 70) : Blk w' c e vs := by
  have hb := a.block c hc.lt (fun e0 => by
    subst e0
    have q2 := hz.blk
    rw [Blk] at hc q2
    rw [hc] at q2
    simp at q2
    exact h1 q2.2) (row_blk hz.ups hc (fun e => h2 e.symm)) (row_blk hz.hass hc (fun e => h3 e.symm)) (row_blk hz.todos hc (fun e => h4 e.symm))
  rw [Blk] at hc ⊢
  rw [hb]; exact hc
theorem FZ.setRow {w : World} {base g kk nu n nt b cap : Nat} {us ts : List Int} {f : Nat → Nat → Option Nat} {uv tv : Value} (h : FZ w base g kk nu us n (hasL n f) nt ts uv (.slice (some ⟨b, 0, none⟩) n cap) tv) {v : Nat} (hv : v < n) (r : Nat → Option Nat) :
    FZ (w.setCells b (v * 8) (I64s (rowI r))) base g kk nu us n (hasL n (fun u p => if u = v then r p else f u p)) nt ts uv (.slice (some ⟨b, 0, none⟩) n cap) tv := by
  have e1 : g ≠ b := fun e => row_blk h.hass h.blk (by decide) (by rw [e]; rfl)
  refine ⟨?_, h.lt, row_congr h.ups fun i hi => heap_setCells_ne _ _ _ _ i ?_, ?_, row_congr h.todos fun i hi => heap_setCells_ne _ _ _ _ i ?_⟩
  · have := h.blk
    rw [Blk] at this ⊢
    rw [heap_setCells_ne _ _ _ _ _ e1]; exact this
  · intro e
    subst e
    rcases row_ne h.ups h.hass (by decide) with q | q
    · rw [q] at hi; cases hi
    · exact q (hi.trans rfl)
  · have := OwnK.setAll (rowI r) (v * 8) _ _ h.hass
    rwa [hasL_setAll hv] at this
  · intro e
    subst e
    rcases row_ne h.todos h.hass (by decide) with q | q
    · rw [q] at hi; cases hi
    · exact q (hi.trans rfl)
theorem Frm.setRow {w : World} {g b : Nat} {u h t u1 h1 t1 : Value} (hb : h.ownBlock = some b) : ∀ (vs : List Value) (o : Nat) (w1 : World), Frm w w1 g u h t u1 h1 t1 → Frm w (w1.setCells b o vs) g u h t u1 h1 t1
  | [], _, _, a => a
  | v :: vs, o, _, a => Frm.setRow hb vs (o + 1) _ (a.set ⟨b, o, none⟩ v (.inr (.inr (.inl hb))))
end Go.Proofs.Ytlooclpfoeakgaa

/- Two vertices are joined: the walk. -/
namespace Go.Proofs.Ytlooclpfoeakgaa
open Go.RowKit

theorem UF.join {n : Nat} {up R d : Nat → Nat} (h : UF n up R d) {a b : Nat} (ha : a < n) (hra : R a = a) (hrb : R b = b) (hne : a ≠ b) :
    UF n (fun j => if j = b then a else up j) (fun i => if R i = b then a else R i) (fun i => if R i = b then d i + d a + 1 else d i) := by
  refine ⟨fun j hj => ?_, fun j hj e => ?_, fun j hj e => ?_⟩
  · show (if j = b then a else up j) < n
    split
    · exact ha
    · exact h.lt j hj
  · have e : (if j = b then a else up j) = j := e
    show (if R j = b then a else R j) = j
    split at e
    · rename_i hjb; exact absurd (e.trans hjb) hne
    · rename_i hjb
      have := h.fix j hj e
      rw [this, if_neg hjb]
  · have e : (if j = b then a else up j) ≠ j := e
    show (if R (if j = b then a else up j) = b then a else R (if j = b then a else up j)) = (if R j = b then a else R j) ∧ (if R (if j = b then a else up j) = b then d (if j = b then a else up j) + d a + 1 else d (if j = b then a else up j)) < (if R j = b then d j + d a + 1 else d j)
    split at e
    · rename_i hjb
      subst hjb
      rw [if_pos rfl, hra, if_neg hne, if_neg hne, hrb, if_pos rfl, if_pos rfl]
      exact ⟨rfl, by omega⟩
    · rename_i hjb
      obtain ⟨s1, s2⟩ := h.step j hj e
      rw [if_neg hjb, s1]
      refine ⟨rfl, ?_⟩
      split <;> omega

def funcM (c : Nat) : Value := .func (.func 127) #[] #[.pointer (some ⟨c, 0, none⟩)]
set_option maxRecDepth 100000 in
set_option maxHeartbeats 4000000 in
theorem join_any (w : World) (base g kk c : Nat) (x : FS) (up d : Nat → Nat) (uv hv tv : Value) (a b : Nat) (h : FM w base g kk x up uv hv tv) (hu : UF x.n up x.R d) (hb : base ≤ w.heap.size) (hidem : ∀ i, x.R (x.R i) = x.R i) (hlt : ∀ i, i < x.n → x.R i < x.n)
    (hbd : ∀ v p t, x.has v p = some t → t < x.n) (ha : a < x.n) (hbb : b < x.n) (hn : x.n < 1000000) (ht : x.todo.length < 1000000) (hc : Blk w c 91 [.pointer (some ⟨g, 0, none⟩)]) :
    Calls Try.prog 128 #[.pointer (some ⟨g, 0, none⟩), .int .i64 a, .int .i64 b, funcM c] w fun e w' => e = .returned (.tuple #[]) ∧ ∃ up' d' tv', FM w' base g kk (joinF x x.todo a b) up' uv hv tv' ∧ UF x.n up' (joinF x x.todo a b).R d' ∧ Frm w w' g uv hv tv uv hv tv' := by
  have hra := hlt a ha
  have hrb := hlt b hbb
  have hn9 : x.n ≤ 1000000000 := by omega
  have HM := Lib.hid h
  have HU := Lib.hid hu
  have HF := Lib.hid (Frm.refl w g uv hv tv)
  have HC := Lib.hid hc
  have HID := Lib.hid hidem
  have HBD := Lib.hid hbd
  have HN := Lib.hid hn
  have HT := Lib.hid ht
  have h9 := h.parts
  obtain ⟨y, hy⟩ : ∃ y, y = joinF x x.todo a b := ⟨_, rfl⟩
  rw [← hy]
  have HX := Lib.hid hy
  clear hy
  have HA : Hid (x.R a = x.R a) := rfl
  have HB2 : Hid (x.R b = x.R b) := rfl
  generalize hra1 : x.R a = ra at HA hra
  generalize hrb1 : x.R b = rb at HB2 hrb
  clear h hu hc hidem hlt hbd ht
  unfold funcM
  go_enter Try.func128, Try.ntmps128
  go_upto_region 1 with (first
    | (go_at_call 105; refine (rootOf_any _ base g kk x up x.R d uv hv tv a HM.out HU.out ha hn9).mono ?_; rintro e w1 ⟨rfl, up1, hM1, hU1, hF1⟩; rw [hra1]; replace HM := Lib.hid hM1; replace HU := Lib.hid hU1; replace HF := Lib.hid (HF.out.trans hF1); clear hM1 hU1 hF1)
    | (go_at_call 105; refine (rootOf_any _ base g kk x up1 x.R d uv hv tv b HM.out HU.out hbb hn9).mono ?_; rintro e w2 ⟨rfl, up2, hM2, hU2, hF2⟩; rw [hrb1]; replace HM := Lib.hid hM2; replace HU := Lib.hid hU2; replace HF := Lib.hid (HF.out.trans hF2); clear hM2 hU2 hF2))
  by_cases hab : ra = rb
  · have hyx : y = x := by
      rw [HX.out]
      unfold joinF
      rw [hra1, hrb1, if_pos hab]
    subst hab
    go_wp2_with fail
    go_end0
    rw [hyx]
    exact ⟨rfl, _, _, _, HM.out, HU.out, HF.out⟩
  · have hyn : y.n = x.n := by rw [HX.out]; unfold joinF; split <;> rfl
    have hyR : y.R = fun i => if x.R i = rb then ra else x.R i := by rw [HX.out]; unfold joinF; rw [hra1, hrb1, if_neg hab]
    have hyh : y.has = fun v p => if v = ra then (x.has ra p).or (x.has rb p) else x.has v p := by rw [HX.out]; unfold joinF; rw [hra1, hrb1, if_neg hab]
    have hyt : y.todo = x.todo ++ clashK (x.has ra) (x.has rb) 8 := by rw [HX.out]; unfold joinF; rw [hra1, hrb1, if_neg hab]; rfl
    have hrra : x.R ra = ra := by rw [← hra1]; exact HID.out a
    have hrrb : x.R rb = rb := by rw [← hrb1]; exact HID.out b
    have hU3 := UF.join HU.out hra hrra hrrb hab
    have HYX := Lib.hid (And.intro hyn (And.intro hyR (And.intro hyh hyt)))
    clear HX hyn hyR hyh hyt hrra hrrb hra1 hrb1
    obtain ⟨ub, uc, rfl, hub, hul, ufr, ucs⟩ := Own.open HM.out.ups (upL_len _ _) (by omega)
    have HC2 := Lib.hid (HF.out.blkOf h9 HC.out (by decide) (by decide) (by decide) (by decide))
    have c0 := HM.out.blk.cell (j := 0) rfl
    have cu := ucs rb _ (upL_get hrb)
    have fu := ufr rb
    have i1 : (0 : Int) ≤ rb := by omega
    have i2 : (rb : Int) < x.n := by omega
    have hM3 := FM.setUp HM.out rb ra
    have hF3 := HF.out.set ⟨ub, rb, none⟩ (.int .i64 ra) (.inr (.inl rfl))
    have HM3 := Lib.hid hM3
    have HF3 := Lib.hid hF3
    have HU3 := Lib.hid hU3
    have hc3 := HC2.out.other (a := ⟨ub, rb, none⟩) (by
      intro e
      have e : c = ub := e
      subst e
      exact row_blk HM.out.parts.ups HC2.out (by decide) rfl) (.int .i64 ra)
    have HC3 := Lib.hid hc3
    clear ucs ufr hM3 hF3 hU3 hc3 HM HF HU HC HC2
    go_upto_region 3 with fail
    clear c0 cu fu
    generalize w2.setCell ⟨ub, rb, none⟩ (.int .i64 ra) = w3 at *
    obtain ⟨hb0, hc0, rfl, hhb, hhl, hh1, hh2, hfr, -⟩ := HM3.out.hass.open (by omega)
    obtain ⟨rA, tA⟩ := OwnK.range HM3.out.hass hra
    obtain ⟨rB, -⟩ := OwnK.range HM3.out.hass hrb
    have c1 := HM3.out.blk.cell (j := 1) rfl
    have hz3 := HM3.out.parts
    have hwz := HF3.out.size
    have hmeet := meet_any w3.drew base g kk c x.n x.n _ _ x.todo _ _ _ (x.has ra) (x.has rb) (hz3.drewN 1) (by show base ≤ w3.heap.size; omega) HT.out (by exact HC3.out) (fun p t _ h => by
      have := HBD.out
      rcases h with h | h
      · have := this _ _ _ h; omega
      · have := this _ _ _ h; omega)
    have HMEET := Lib.hid hmeet
    have hgb : g ≠ hb0 := fun e => row_blk HM3.out.hass HM3.out.blk (by decide) (by rw [e]; rfl)
    have haft : ∀ (w4 : World) (tv4 : Value), FZ w4 base g kk x.n (upL x.n fun j => if j = rb then ra else up2 j) x.n (hasL x.n x.has) (x.todo ++ clashK (x.has ra) (x.has rb) 8).length (todoL (x.todo ++ clashK (x.has ra) (x.has rb) 8)) (.slice (some ⟨ub, 0, none⟩) x.n uc) (.slice (some ⟨hb0, 0, none⟩) x.n hc0) tv4 →
        w4.cell? ⟨g, 1, none⟩ = some (.slice (some ⟨hb0, 0, none⟩) x.n hc0) ∧ w4.rangeAt hb0 (rb * 8) (I64s (rowI (x.has rb))) ∧ w4.there hb0 (ra * 8) 8 := fun w4 tv4 hz => ⟨hz.blk.cell (j := 1) rfl, (OwnK.range hz.hass hrb).1, (OwnK.range hz.hass hra).2⟩
    obtain ⟨A, hA⟩ : ∃ A, A = I64s (rowI (x.has ra)) := ⟨_, rfl⟩
    obtain ⟨B, hB⟩ : ∃ B, B = I64s (rowI (x.has rb)) := ⟨_, rfl⟩
    obtain ⟨C, hC⟩ : ∃ C, C = I64s (rowI (orK (x.has ra) (x.has rb) 8)) := ⟨_, rfl⟩
    have HLA := Lib.hid (show A.length = 8 by rw [hA]; simp [rowI_len])
    have HLB := Lib.hid (show B.length = 8 by rw [hB]; simp [rowI_len])
    have HLC := Lib.hid (show C.length = 8 by rw [hC]; simp [rowI_len])
    have HOC := Lib.hid (show ∀ v ∈ C, v.oneCell' = true by
      intro v hv
      rw [hC] at hv
      obtain ⟨z, _, rfl⟩ := List.mem_map.1 hv
      rfl)
    have HCE := Lib.hid hC
    rw [← hA, ← hB, ← hC] at HMEET
    rw [← hA] at rA
    rw [← hB] at rB haft
    have hback : ∀ w : World, w.cell? ⟨g, 1, none⟩ = some (.slice (some ⟨hb0, 0, none⟩) x.n hc0) → w.rangeAt hb0 (rb * 8) B → (w.setCells hb0 (ra * 8) C).cell? ⟨g, 1, none⟩ = some (.slice (some ⟨hb0, 0, none⟩) x.n hc0) ∧ (w.setCells hb0 (ra * 8) C).rangeAt hb0 (rb * 8) B := fun w h1 h2 =>
      ⟨by rw [World.cell?_setCells_out _ _ _ _ _ (fun e _ => absurd e hgb)]; exact h1, World.rangeAt_setCells_apart h2 _ _ _ (.inr (by rw [HLB.out, HLC.out]; omega))⟩
    have HBACK := Lib.hid hback
    have HAFT := Lib.hid haft
    have j1 : (0 : Int) ≤ ra := by omega
    have j2 : (ra : Int) < x.n := by omega
    replace rA : w3.drew.rangeAt hb0 (ra * 8) A := rA
    replace rB : w3.drew.rangeAt hb0 (rb * 8) B := rB
    replace c1 : w3.drew.cell? ⟨g, 1, none⟩ = some (.slice (some ⟨hb0, 0, none⟩) x.n hc0) := c1
    have RA := Lib.hid rA
    clear hback haft hmeet hA hB hC rA
    refine wp_region_held_drew (S := fun w' => w'.cell? ⟨g, 1, none⟩ = some (.slice (some ⟨hb0, 0, none⟩) x.n hc0) ∧ w'.rangeAt hb0 (rb * 8) B) (by kernel_rfl) ⟨c1, rB⟩ (fun hHeld => ?_)
    refine takeH 0 (v := ?_) rfl (by kernel_rfl) (by kernel_rfl) (by kernel_rfl) (fun _ _ _ h => h) (by rfl) ?_ hHeld ?_
    rotate_left
    · (intro w hSw; (try dsimp only at hSw); go_simp; try with_reducible rfl)
    try simp only [Act.put, List.setIfInBounds_toArray, List.set_cons_zero, List.set_cons_succ]
    refine takeH 1 (v := ?_) rfl (by kernel_rfl) (by kernel_rfl) (by kernel_rfl) (fun _ _ _ h => h) (by rfl) ?_ hHeld ?_
    rotate_left
    · (intro w hSw; (try dsimp only at hSw); go_simp; try with_reducible rfl)
    try simp only [Act.put, List.setIfInBounds_toArray, List.set_cons_zero, List.set_cons_succ]
    refine takeH 2 (v := ?_) rfl (by kernel_rfl) (by kernel_rfl) (by kernel_rfl) (fun _ _ _ h => h) (by rfl) ?_ hHeld ?_
    rotate_left
    · (intro w hSw; (try dsimp only at hSw); go_simp; try with_reducible rfl)
    try simp only [Act.put, List.setIfInBounds_toArray, List.set_cons_zero, List.set_cons_succ]
    refine takeH 3 (v := ?_) rfl (by kernel_rfl) (by kernel_rfl) (by kernel_rfl) (fun _ _ _ h => h) (by rfl) ?_ hHeld ?_
    rotate_left
    · (intro w hSw; (try dsimp only at hSw); go_simp; try with_reducible rfl)
    try simp only [Act.put, List.setIfInBounds_toArray, List.set_cons_zero, List.set_cons_succ]
    refine takeH 4 (v := ?_) rfl (by kernel_rfl) (by kernel_rfl) (by kernel_rfl) (fun _ _ _ h => h) (by rfl) ?_ hHeld ?_
    rotate_left
    · (intro w hSw; (try dsimp only at hSw); go_simp; try with_reducible rfl)
    try simp only [Act.put, List.setIfInBounds_toArray, List.set_cons_zero, List.set_cons_succ]
    refine takeH 5 (v := ?_) rfl (by kernel_rfl) (by kernel_rfl) (by kernel_rfl) (fun _ _ _ h => h) (by rfl) ?_ hHeld ?_
    rotate_left
    · (intro w hSw; (try dsimp only at hSw); go_simp; try with_reducible rfl)
    try simp only [Act.put, List.setIfInBounds_toArray, List.set_cons_zero, List.set_cons_succ]
    refine takeH 6 (v := ?_) rfl (by kernel_rfl) (by kernel_rfl) (by kernel_rfl) (fun _ _ _ h => h) (by rfl) ?_ hHeld ?_
    rotate_left
    · (intro w hSw; (try dsimp only at hSw); go_simp; try with_reducible rfl)
    try simp only [Act.put, List.setIfInBounds_toArray, List.set_cons_zero, List.set_cons_succ]
    refine takeH 7 (v := ?_) rfl (by kernel_rfl) (by kernel_rfl) (by kernel_rfl) (fun _ _ _ h => h) (by rfl) ?_ hHeld ?_
    rotate_left
    · (intro w hSw; (try dsimp only at hSw); go_simp; try with_reducible rfl)
    try simp only [Act.put, List.setIfInBounds_toArray, List.set_cons_zero, List.set_cons_succ]
    refine takeH 8 (v := ?_) rfl (by kernel_rfl) (by kernel_rfl) (by kernel_rfl) (fun _ _ _ h => h) (by rfl) ?_ hHeld ?_
    rotate_left
    · (intro w hSw; (try dsimp only at hSw); go_simp; try with_reducible rfl)
    try simp only [Act.put, List.setIfInBounds_toArray, List.set_cons_zero, List.set_cons_succ]
    refine takeH 9 (v := ?_) rfl (by kernel_rfl) (by kernel_rfl) (by kernel_rfl) (fun _ _ _ h => h) (by rfl) ?_ hHeld ?_
    rotate_left
    · (intro w hSw; (try dsimp only at hSw); go_simp; try with_reducible rfl)
    try simp only [Act.put, List.setIfInBounds_toArray, List.set_cons_zero, List.set_cons_succ]
    refine takeH 10 (v := ?_) rfl (by kernel_rfl) (by kernel_rfl) (by kernel_rfl) (fun _ _ _ h => h) (by rfl) ?_ hHeld ?_
    rotate_left
    · (intro w hSw; (try dsimp only at hSw); go_simp; try with_reducible rfl)
    try simp only [Act.put, List.setIfInBounds_toArray, List.set_cons_zero, List.set_cons_succ]
    refine takeH 11 (v := ?_) rfl (by kernel_rfl) (by kernel_rfl) (by kernel_rfl) (fun _ _ _ h => h) (by rfl) ?_ hHeld ?_
    rotate_left
    · (intro w hSw; (try dsimp only at hSw); go_simp; try with_reducible rfl)
    try simp only [Act.put, List.setIfInBounds_toArray, List.set_cons_zero, List.set_cons_succ]
    refine takeH 13 (v := ?_) rfl (by kernel_rfl) (by kernel_rfl) (by kernel_rfl) (fun _ _ _ h => h) (by rfl) ?_ hHeld ?_
    rotate_left
    · (intro w hSw; (try dsimp only at hSw); go_simp; try with_reducible rfl)
    try simp only [Act.put, List.setIfInBounds_toArray, List.set_cons_zero, List.set_cons_succ]
    refine takeH 14 (v := ?_) rfl (by kernel_rfl) (by kernel_rfl) (by kernel_rfl) (fun _ _ _ h => h) (by rfl) ?_ hHeld ?_
    rotate_left
    · (intro w hSw; (try dsimp only at hSw); go_simp; try with_reducible rfl)
    try simp only [Act.put, List.setIfInBounds_toArray, List.set_cons_zero, List.set_cons_succ]
    refine takeH 15 (v := ?_) rfl (by kernel_rfl) (by kernel_rfl) (by kernel_rfl) (fun _ _ _ h => h) (by rfl) ?_ hHeld ?_
    rotate_left
    · (intro w hSw; (try dsimp only at hSw); go_simp; try with_reducible rfl)
    try simp only [Act.put, List.setIfInBounds_toArray, List.set_cons_zero, List.set_cons_succ]
    refine takeH 16 (v := ?_) rfl (by kernel_rfl) (by kernel_rfl) (by kernel_rfl) (fun _ _ _ h => h) (by rfl) ?_ hHeld ?_
    rotate_left
    · (intro w hSw; (try dsimp only at hSw); go_simp; try with_reducible rfl)
    try simp only [Act.put, List.setIfInBounds_toArray, List.set_cons_zero, List.set_cons_succ]
    refine takeH 17 (v := ?_) rfl (by kernel_rfl) (by kernel_rfl) (by kernel_rfl) (fun _ _ _ h => h) (by rfl) ?_ hHeld ?_
    rotate_left
    · (intro w hSw; (try dsimp only at hSw); go_simp; try with_reducible rfl)
    try simp only [Act.put, List.setIfInBounds_toArray, List.set_cons_zero, List.set_cons_succ]
    refine takeH 18 (v := ?_) rfl (by kernel_rfl) (by kernel_rfl) (by kernel_rfl) (fun _ _ _ h => h) (by rfl) ?_ hHeld ?_
    rotate_left
    · (intro w hSw; (try dsimp only at hSw); go_simp; try with_reducible rfl)
    try simp only [Act.put, List.setIfInBounds_toArray, List.set_cons_zero, List.set_cons_succ]
    refine takeH 19 (v := ?_) rfl (by kernel_rfl) (by kernel_rfl) (by kernel_rfl) (fun _ _ _ h => h) (by rfl) ?_ hHeld ?_
    rotate_left
    · (intro w hSw; refine exec_load_mid 152 (.tmp 42) ?_ ?_ hSw.2 Try.underlying152 rfl (by rw [Try.size152]; simp [HLB.out]) <;> rfl)
    try simp only [Act.put, List.setIfInBounds_toArray, List.set_cons_zero, List.set_cons_succ]
    refine oneH 12 (by kernel_rfl) rfl (fun K hK => ?_)
    rw [if_pos (by rfl)]
    refine wp_load_mid 152 (.tmp 35) (by rfl) hb0 (ra * 8) (by rfl) A _ RA.out Try.underlying152 rfl (by rw [Try.size152]; simp [HLA.out]) ?_
    try simp only [Act.put, List.setIfInBounds_toArray, List.set_cons_zero, List.set_cons_succ]
    refine hK.out _ _ (hHeld) (fun hHeld => ?_)
    clear hK K
    try simp only [Act.put, List.setIfInBounds_toArray, List.set_cons_zero, List.set_cons_succ]
    refine oneH 20 (by kernel_rfl) rfl (fun K hK => ?_)
    go_simp
    go_at_call 127
    refine HMEET.out.mono ?_
    rintro e w4 ⟨rfl, tv4, hz4, hf4⟩
    dsimp only
    obtain ⟨k1, k2, k3⟩ := HAFT.out _ _ hz4
    refine hK.out _ _ (⟨k1, k2⟩) (fun hHeld => ?_)
    clear hK K
    try simp only [Act.put, List.setIfInBounds_toArray, List.set_cons_zero, List.set_cons_succ]
    refine takeH 21 (v := ?_) rfl (by kernel_rfl) (by kernel_rfl) (by kernel_rfl) (fun _ _ _ h => h) (by rfl) ?_ hHeld ?_
    rotate_left
    · (intro w hSw; (try dsimp only at hSw); go_simp; try with_reducible rfl)
    try simp only [Act.put, List.setIfInBounds_toArray, List.set_cons_zero, List.set_cons_succ]
    refine oneH 22 (by kernel_rfl) rfl (fun K hK => ?_)
    rw [if_pos (by rfl)]
    refine wp_store_mid 152 (.tmp 45) (.tmp 44) (by rfl) hb0 (ra * 8) C.toArray (by rfl) (by rfl) (by simpa [HLC.out] using k3) (by rw [Try.size152]; simp [HLC.out]) (all_oneCell_toArray HOC.out) ?_
    refine hK.out _ _ (HBACK.out _ k1 k2) (fun hHeld => ?_)
    clear hK K
    refine wpAnyH_done (by kernel_rfl) ?_ _
    simp only [Act.put]
    have hz5 := hz4.setRow hra (orK (x.has ra) (x.has rb) 8)
    rw [← HCE.out] at hz5
    have hf5 := Frm.setRow rfl C (ra * 8) _ (HF3.out.trans ((Frm.refl w3 g (.slice (some ⟨ub, 0, none⟩) x.n uc) (.slice (some ⟨hb0, 0, none⟩) x.n hc0) tv).drewN 1 |>.trans hf4))
    obtain ⟨y1, y2, y3, y4⟩ := HYX.out
    have hhas : hasL x.n (fun u p => if u = ra then orK (x.has ra) (x.has rb) 8 p else x.has u p) = hasL x.n y.has := by
      rw [y3]
      refine hasL_congr fun v p _ hp => ?_
      show (if v = ra then orK (x.has ra) (x.has rb) 8 p else x.has v p) = (if v = ra then (x.has ra p).or (x.has rb p) else x.has v p)
      unfold orK
      rw [if_pos hp]
    rw [hhas] at hz5
    have hM5 : FM _ base g kk y _ _ _ tv4 := FZ.whole (by rw [y1, y4]; exact hz5)
    have hU5 := HU3.out
    rw [← y2] at hU5
    clear hz5 hhas y1 y2 y3 y4
    go_wp2_with fail
    go_end0
    exact ⟨rfl, _, _, _, hM5, hU5, hf5⟩
end Go.Proofs.Ytlooclpfoeakgaa

/- How much is left to be joined. Plain laws. -/
namespace Go.Proofs.Ytlooclpfoeakgaa

def rootsN (x : FS) : Nat := ((List.range x.n).filter fun i => x.R i == i).length
def numL (x : FS) : Nat := 8 * rootsN x + x.todo.length
theorem rootsN_le (x : FS) : rootsN x ≤ x.n := by
  unfold rootsN
  have := List.length_filter_le (fun i => x.R i == i) (List.range x.n)
  simpa using this
theorem numL_le (x : FS) : numL x ≤ 8 * x.n + x.todo.length := by
  have := rootsN_le x
  unfold numL; omega
theorem clashF_len (x : FS) (a b : Nat) : (clashF x a b).length ≤ 8 := by
  unfold clashF
  exact Nat.le_trans (List.length_filterMap_le _ _) (by simp)
theorem joinF_n (x : FS) (rest : List (Nat × Nat)) (c d : Nat) : (joinF x rest c d).n = x.n := by unfold joinF; split <;> rfl
theorem joinF_num {x : FS} {rest : List (Nat × Nat)} {c d : Nat} (ht : x.todo = rest ++ [(c, d)]) (hid : ∀ i, x.R (x.R i) = x.R i) (hd : x.R d < x.n) : numL (joinF x rest c d) < numL x := by
  have hlen : x.todo.length = rest.length + 1 := by rw [ht]; simp
  unfold joinF
  by_cases h : x.R c = x.R d
  · rw [if_pos h]
    unfold numL rootsN
    simp only []
    omega
  · rw [if_neg h]
    have hcl := clashF_len x (x.R c) (x.R d)
    have hroots : rootsN { n := x.n, R := fun i => if x.R i = x.R d then x.R c else x.R i, has := fun v p => if v = x.R c then (x.has (x.R c) p).or (x.has (x.R d) p) else x.has v p, todo := rest ++ clashF x (x.R c) (x.R d) } + 1 ≤ rootsN x := by
      unfold rootsN
      simp only []
      have hmem : x.R d ∈ (List.range x.n).filter fun i => x.R i == i := by
        rw [List.mem_filter]
        exact ⟨List.mem_range.2 hd, by rw [hid]; simp⟩
      have hnd : ((List.range x.n).filter fun i => x.R i == i).Nodup := List.nodup_range.filter _
      have e1 := List.length_erase_of_mem hmem
      rw [hnd.erase_eq_filter, List.filter_filter] at e1
      have hpos := List.length_pos_of_mem hmem
      have e2 : ((List.range x.n).filter fun i => (if x.R i = x.R d then x.R c else x.R i) == i) = (List.range x.n).filter fun i => (i != x.R d) && (x.R i == i) := by
        apply List.filter_congr
        intro i _
        by_cases h1 : x.R i = x.R d
        · rw [if_pos h1]
          by_cases h2 : i = x.R d
          · subst h2
            simp [h]
          · have h3 : x.R c ≠ i := by
              intro e
              rw [← e, hid] at h1
              exact h h1
            have h4 : x.R i ≠ i := by rw [h1]; exact fun e => h2 e.symm
            rw [beq_eq_false_iff_ne.2 h3, beq_eq_false_iff_ne.2 h4, Bool.and_false]
        · rw [if_neg h1]
          have h2 : i ≠ x.R d := by
            intro e
            rw [e, hid] at h1
            exact h1 rfl
          rw [show (i != x.R d) = true by simpa using h2, Bool.true_and]
      rw [e2, e1]
      omega
    show 8 * rootsN _ + (rest ++ clashF x (x.R c) (x.R d)).length < 8 * rootsN x + x.todo.length
    rw [List.length_append]
    omega
end Go.Proofs.Ytlooclpfoeakgaa

/- What is to be joined is joined: the walk. -/
namespace Go.Proofs.Ytlooclpfoeakgaa
open Go.RowKit

theorem OwnK.cut {w : World} {base : Nat} {e : TypeId} {size g n cap : Nat} {zs : List Int} (h : OwnK w base e size (.slice (some ⟨g, 0, none⟩) n cap) n zs) {m : Nat} (hm : m ≤ n) :
    OwnK w base e size (.slice (some ⟨g, 0, none⟩) m cap) m (zs.take (m * size)) := by
  obtain ⟨h1, h2⟩ := h
  have hms : m * size ≤ n * size := Nat.mul_le_mul_right _ hm
  refine ⟨?_, ?_⟩
  · rw [List.length_map, List.length_take]
    rw [List.length_map] at h1
    omega
  · rcases h2 with ⟨h3, _⟩ | ⟨g', cap', cur, h3, hb, hgg, hn, hmx, hc, ht⟩
    · cases h3
    · obtain ⟨rfl, rfl⟩ : g = g' ∧ cap = cap' := by simpa using h3
      refine .inr ⟨g, cap, cur, rfl, hb, hgg, by omega, hmx, hc, ?_⟩
      have : I64s (zs.take (m * size)) = (I64s zs).take (m * size) := by simp [I64s]
      rw [this, ← ht, List.take_take, Nat.min_eq_left hms]
theorem FZ.setTodo {w : World} {base g k nu nh nt m : Nat} {us hs ts zs : List Int} {uv hv tv nv : Value} (h : FZ w base g k nu us nh hs nt ts uv hv tv) (hown : OwnK w base 70 2 nv m zs) : FZ (w.setCell ⟨g, 3, none⟩ nv) base g k nu us nh hs m zs uv hv nv :=
  ⟨by have := h.blk.set 3 nv; exact this, h.lt, row_other h.ups h.blk (by decide) _ _, row_other h.hass h.blk (by decide) _ _, row_other hown h.blk (by decide) _ _⟩
theorem todoL_take (l : List (Nat × Nat)) (a : Nat × Nat) : (todoL (l ++ [a])).take (l.length * 2) = todoL l := by
  rw [todoL_snoc, ← todoL_len, List.take_left']
  rfl
theorem todoL_at (l : List (Nat × Nat)) (a : Nat × Nat) : (todoL (l ++ [a]))[l.length * 2]? = some (a.1 : Int) ∧ (todoL (l ++ [a]))[l.length * 2 + 1]? = some (a.2 : Int) := by
  rw [todoL_snoc, ← todoL_len]
  constructor
  · rw [List.getElem?_append_right (Nat.le_refl _), Nat.sub_self]; rfl
  · rw [List.getElem?_append_right (by omega), show (todoL l).length + 1 - (todoL l).length = 1 by omega]; rfl

set_option maxRecDepth 100000 in
set_option maxHeartbeats 4000000 in
theorem settle_any (w : World) (base g kk : Nat) (x : FS) (up d : Nat → Nat) (uv hv tv : Value) {k : Nat} {S : List UInt8 → Prop} {φ : Nat → List UInt8} {E : List (Nat × Nat × Nat)} (hI : Inv k S φ E x) (hk : k ≤ 4)
    (h : FM w base g kk x up uv hv tv) (hu : UF x.n up x.R d) (hb : base ≤ w.heap.size) (hn : 8 * x.n + x.todo.length < 1000000) :
    Calls Try.prog 104 #[.pointer (some ⟨g, 0, none⟩)] w fun e w' => e = .returned (.tuple #[]) ∧ ∃ y up' d' tv', Inv k S φ E y ∧ y.todo = [] ∧ y.n = x.n ∧ FM w' base g kk y up' uv hv tv' ∧ UF y.n up' y.R d' ∧ Frm w w' g uv hv tv uv hv tv' := by
  have hnum := numL_le x
  have hbx : Below w.heap.size w (w.alloc (.cells #[.pointer (some ⟨g, 0, none⟩)] 91)) := (Below.refl _ _).alloc (Nat.le_refl _) _
  have HM := Lib.hid (h.keep hbx)
  have HF := Lib.hid (Frm.of_below hbx g uv hv tv)
  have HC := Lib.hid (Blk.new w 91 [.pointer (some ⟨g, 0, none⟩)])
  have HI := Lib.hid hI
  have HU := Lib.hid hu
  have hgl := h.blk.lt
  have hcg : w.heap.size ≠ g := by omega
  clear hI h hu hbx
  go_enter Try.func104, Try.ntmps104
  go_wp2_with fail
  go_loopg [3] (numL x) (fun gk _ wr => ∃ (y : FS) (up d : Nat → Nat) (tv2 : Value), Hid (Inv k S φ E y) ∧ Hid (y.n = x.n) ∧ Hid (numL y ≤ gk ∧ gk ≤ numL x) ∧ Hid (FM wr base g kk y up uv hv tv2) ∧ Hid (UF y.n up y.R d) ∧ Hid (Blk wr w.heap.size 91 [.pointer (some ⟨g, 0, none⟩)]) ∧ Hid (Frm w wr g uv hv tv uv hv tv2))
  case atStart => exact ⟨x, up, d, tv, HI, Lib.hid rfl, Lib.hid ⟨Nat.le_refl _, Nat.le_refl _⟩, HM, HU, HC, HF⟩
  case round =>
    clear HI HM HU HC HF up d
    obtain ⟨y, up, d, tv2, HI, HN, HG, HM, HU, HC, HF⟩ := hrel
    have c0 := HC.out.cell (j := 0) rfl
    have c3 := HM.out.blk.cell (j := 3) rfl
    rcases List.eq_nil_or_concat y.todo with h0 | ⟨rest, ⟨a, b⟩, h0⟩
    · have ht := HM.out.todos
      rw [h0] at ht
      obtain ⟨ta, tc, rfl, ht1, ht2, htl⟩ := row_shape ht
      simp only [List.length_nil] at *
      have HT0 := Lib.hid h0
      clear ht h0
      go_wp2_with fail
      go_end0
      exact ⟨rfl, y, up, d, _, HI.out, HT0.out, HN.out, HM.out, HU.out, HF.out⟩
    · rw [List.concat_eq_append] at h0
      obtain ⟨hab1, hab2, -⟩ := HI.out.todoG a b (by rw [h0]; simp)
      obtain ⟨m, hm⟩ : ∃ m, rest.length = m := ⟨_, rfl⟩
      have hz := HM.out.parts
      rw [h0, List.length_append, List.length_singleton, hm] at hz
      have hcut := hz.todos
      obtain ⟨tb, tc, rfl, htb, htl, ht1, ht2, hfr, hcs⟩ := hcut.open (by omega)
      have e0 := hcs _ _ (todoL_at rest (a, b)).1
      have e1 := hcs _ _ (todoL_at rest (a, b)).2
      rw [hm] at e0 e1
      have hcut := hcut.cut (Nat.le_succ m)
      rw [← hm, todoL_take, hm] at hcut
      have H0 := Lib.hid h0
      have HMM := Lib.hid hm
      have HZ := Lib.hid hz
      have HCUT := Lib.hid hcut
      have hm9 : m < 1000000 := by
        have h1 : numL y ≥ y.todo.length := by unfold numL; omega
        rw [h0, List.length_append, hm] at h1
        have := HG.out
        omega
      have hw : IntKind.i64.wrap (m : Int) = m := by rw [IntKind.wrap_i64]; omega
      have i0 : (0 : Int) ≤ m := by omega
      have i1 : (m : Int) < (m : Int) + 1 := by omega
      replace e0 : wr.cell? ⟨tb, m * 2, none⟩ = some (.int .i64 a) := e0
      replace e1 : wr.cell? ⟨tb, m * 2 + 1, none⟩ = some (.int .i64 b) := e1
      clear hz hcut hcs hfr h0 hm HM
      go_upto_region 3 with fail
      go_region_held3 (fun w' => w'.cell? ⟨w.heap.size, 0, none⟩ = some (.pointer (some ⟨g, 0, none⟩)) ∧ w'.cell? ⟨g, 3, none⟩ = some (.slice (some ⟨tb, 0, none⟩) (m + 1) tc) ∧ w'.cell? ⟨tb, m * 2, none⟩ = some (.int .i64 a) ∧ w'.cell? ⟨tb, m * 2 + 1, none⟩ = some (.int .i64 b)) (go_keep) (fail)
      have b3 := Blk.new wr 70 (I64s [(a : Int), (b : Int)])
      have hsz := HF.out.size
      have hz3 := HZ.out.alloc (.cells (I64s [(a : Int), (b : Int)]).toArray 70)
      have hcut3 := World.ownsRow.keep HCUT.out ((Below.refl _ _).alloc (Nat.le_refl _) (.cells (I64s [(a : Int), (b : Int)]).toArray 70))
      have hc3 := HC.out.alloc (.cells (I64s [(a : Int), (b : Int)]).toArray 70)
      have hf3 := (HF.out.trans (Frm.of_below ((Below.refl wr.heap.size wr).alloc (Nat.le_refl _) (.cells (I64s [(a : Int), (b : Int)]).toArray 70)) g _ _ _)).drewN 1
      replace b3 : Blk (wr.alloc (.cells (I64s [(a : Int), (b : Int)]).toArray 70)).drew wr.heap.size 70 (I64s [(a : Int), (b : Int)]) := b3
      replace hcut3 : OwnK (wr.alloc (.cells (I64s [(a : Int), (b : Int)]).toArray 70)).drew base 70 2 (.slice (some ⟨tb, 0, none⟩) m tc) m (todoL rest) := hcut3
      replace hc3 : Blk (wr.alloc (.cells (I64s [(a : Int), (b : Int)]).toArray 70)).drew w.heap.size 91 [.pointer (some ⟨g, 0, none⟩)] := hc3
      change FZ (wr.alloc (.cells (I64s [(a : Int), (b : Int)]).toArray 70)).drew _ _ _ _ _ _ _ _ _ _ _ _ at hz3
      change Frm w (wr.alloc (.cells (I64s [(a : Int), (b : Int)]).toArray 70)).drew _ _ _ _ _ _ _ at hf3
      change Exit.then _ _ _ _ (wr.alloc (.cells (I64s [(a : Int), (b : Int)]).toArray 70)).drew
      obtain ⟨q, hq⟩ : ∃ q, wr.heap.size = q := ⟨_, rfl⟩
      rw [hq] at b3 hsz ⊢
      have HQ := Lib.hid hq
      generalize (wr.alloc (.cells (I64s [(a : Int), (b : Int)]).toArray 70)).drew = w3 at *
      have c0 := hc3.cell (j := 0) rfl
      have c3 := hz3.blk.cell (j := 3) rfl
      have f3 := hz3.blk.free 3
      have hz4 := hz3.setTodo hcut3
      have hf4 := (hf3.set ⟨g, 3, none⟩ (.slice (some ⟨tb, 0, none⟩) m tc) (.inl rfl)).toT (v := .slice (some ⟨tb, 0, none⟩) m tc) (fun r hr => hf3.nt r hr)
      have hc4 := hc3.other (a := ⟨g, 3, none⟩) hcg (.slice (some ⟨tb, 0, none⟩) m tc)
      have hqg : q ≠ g := by omega
      have b4 := b3.other (a := ⟨g, 3, none⟩) hqg (.slice (some ⟨tb, 0, none⟩) m tc)
      have HZ4 := Lib.hid hz4
      have HF4 := Lib.hid hf4
      have HC4 := Lib.hid hc4
      have HB4 := Lib.hid b4
      have i2 : (m : Int) ≤ tc := by omega
      clear hz3 hz4 hf3 hf4 hc3 hc4 b3 b4 hcut3 HZ HC HF HCUT e0 e1
      go_upto_region 4 with fail
      go_still_tail 12, (by kernel_rfl)
      go_upto_region 5 with fail
      have hz5 := HZ4.out.drewN 1
      have hf5 := HF4.out.drewN 1
      have hc5 : Blk (w3.setCell ⟨g, 3, none⟩ (.slice (some ⟨tb, 0, none⟩) m tc)).drew w.heap.size 91 [.pointer (some ⟨g, 0, none⟩)] := HC4.out
      have b5 : Blk (w3.setCell ⟨g, 3, none⟩ (.slice (some ⟨tb, 0, none⟩) m tc)).drew q 70 (I64s [(a : Int), (b : Int)]) := HB4.out
      change FZ (w3.setCell ⟨g, 3, none⟩ (.slice (some ⟨tb, 0, none⟩) m tc)).drew _ _ _ _ _ _ _ _ _ _ _ _ at hz5
      change Frm w (w3.setCell ⟨g, 3, none⟩ (.slice (some ⟨tb, 0, none⟩) m tc)).drew _ _ _ _ _ _ _ at hf5
      generalize (w3.setCell ⟨g, 3, none⟩ (.slice (some ⟨tb, 0, none⟩) m tc)).drew = w5 at *
      have c0 := hc5.cell (j := 0) rfl
      have d0 := b5.cell (j := 0) rfl
      have d1 := b5.cell (j := 1) rfl
      rw [← HMM.out] at hz5
      have hM5 : FM w5 base g kk ⟨y.n, y.R, y.has, rest⟩ up uv hv _ := FZ.whole hz5
      rw [HMM.out] at hM5 hz5
      have hI6 : Inv k S φ E (joinF y rest a b) := inv_join hk HI.out H0.out
      have hN6 := joinF_num H0.out HI.out.idem (HI.out.lt b hab2)
      have hy9 := HN.out
      have hjn := join_any w5.drew base g kk w.heap.size ⟨y.n, y.R, y.has, rest⟩ up d uv hv _ a b ⟨hM5.blk, hM5.lt, hM5.ups, hM5.hass, hM5.todos⟩ HU.out (by have := hf5.size; show base ≤ w5.heap.size; omega) HI.out.idem HI.out.lt (fun v p t h => (HI.out.bound v p t h).1) hab1 hab2
        (by show y.n < 1000000; omega) (by show rest.length < 1000000; rw [HMM.out]; exact hm9) hc5
      have HJN := Lib.hid hjn
      have HI6 := Lib.hid hI6
      have HN6 := Lib.hid hN6
      have HF5 := Lib.hid (hf5.drewN 1)
      have HZ5 := Lib.hid (hz5.drewN 1)
      have HC5 : Hid (Blk w5.drew w.heap.size 91 [.pointer (some ⟨g, 0, none⟩)]) := Lib.hid hc5
      clear hz5 hf5 hc5 b5 hM5 hI6 hN6 hjn HZ4 HF4 HC4 HB4 hy9
      go_still_tail 8, (by kernel_rfl)
      change wpList _ _ _ _ _ w5.drew
      go_wp2_with (go_at_call 128; refine HJN.out.mono ?_; rintro e w6 ⟨rfl, up6, d6, tv6, hM6, hU6, hF6⟩)
      have hC6 := hF6.blkOf HZ5.out HC5.out (by decide) (by decide) (by decide) (by decide)
      have hF7 := HF5.out.trans hF6
      have G1 := Lib.hid hM6
      have G2 : Hid (UF (joinF y rest a b).n up6 (joinF y rest a b).R d6) := by rw [joinF_n]; exact Lib.hid hU6
      have G3 := Lib.hid hC6
      have G4 := Lib.hid hF7
      have G5 : Hid ((joinF y rest a b).n = x.n) := Lib.hid ((joinF_n _ _ _ _).trans HN.out)
      have hg1 := HG.out
      have hg2 := HN6.out
      clear hM6 hU6 hC6 hF7 hF6
      go_wp2_with fail
      go_roundg (numL (joinF y rest a b))
      case measure => omega
      case rel => exact ⟨joinF y rest a b, up6, d6, tv6, HI6, G5, Lib.hid ⟨Nat.le_refl _, by omega⟩, G1, G2, G3, G4⟩
end Go.Proofs.Ytlooclpfoeakgaa

/- An edge is put in: the walk. -/
namespace Go.Proofs.Ytlooclpfoeakgaa
open Go.RowKit

def zF (x : FS) (a p b : Nat) : Nat → FS
  | 0 => x
  | 1 => putF x a p b
  | _ => edgeF x a p b
def aF (a b : Nat) (i : Nat) : Nat := if i = 0 then a else b
def pF (p : Nat) (i : Nat) : Nat := if i = 0 then p else p ^^^ 1
theorem zF_succ (x : FS) (a p b : Nat) {i : Nat} (hi : i < 2) : zF x a p b (i + 1) = putF (zF x a p b i) (aF a b i) (pF p i) (aF b a i) := by
  obtain rfl | rfl : i = 0 ∨ i = 1 := by omega
  all_goals rfl
theorem zF_n (x : FS) (a p b i : Nat) : (zF x a p b i).n = x.n := by
  unfold zF
  split
  · rfl
  · exact putF_n _ _ _ _
  · unfold edgeF; rw [putF_n, putF_n]
theorem zF_R (x : FS) (a p b i : Nat) : (zF x a p b i).R = x.R := by
  unfold zF
  split
  · rfl
  · exact putF_R _ _ _ _
  · unfold edgeF; rw [putF_R, putF_R]
theorem putF_len (x : FS) (v p t : Nat) : (putF x v p t).todo.length ≤ x.todo.length + 1 := by
  unfold putF
  split
  · simp
  · simp
theorem zF_len (x : FS) (a p b : Nat) {i : Nat} (hi : i ≤ 2) : (zF x a p b i).todo.length ≤ x.todo.length + i := by
  induction i with
  | zero => exact Nat.le_refl _
  | succ i ih =>
    rw [zF_succ x a p b (by omega)]
    have := putF_len (zF x a p b i) (aF a b i) (pF p i) (aF b a i)
    have := ih (by omega)
    omega
theorem putF_bd {x : FS} (h : ∀ v p t, x.has v p = some t → t < x.n) {v p t : Nat} (ht : t < x.n) : ∀ w q u, (putF x v p t).has w q = some u → u < x.n := by
  intro w q u hu
  rcases putF_old hu with h1 | ⟨-, -, rfl⟩
  · exact h _ _ _ h1
  · exact ht
theorem zF_bd {x : FS} {a p b : Nat} (h : ∀ v p t, x.has v p = some t → t < x.n) (ha : a < x.n) (hb : b < x.n) (i : Nat) : ∀ v q t, (zF x a p b i).has v q = some t → t < x.n := by
  unfold zF
  split
  · exact h
  · exact putF_bd h hb
  · have := putF_bd (x := putF x a p b) (v := b) (p := p ^^^ 1) (t := a) (by rw [putF_n]; exact putF_bd h hb) (by rw [putF_n]; exact ha)
    rw [putF_n] at this
    exact this
theorem FZ.setHas {w : World} {base g kk nu n nt b cap : Nat} {us ts : List Int} {f : Nat → Nat → Option Nat} {uv tv : Value} (h : FZ w base g kk nu us n (hasL n f) nt ts uv (.slice (some ⟨b, 0, none⟩) n cap) tv) {v p : Nat} (hv : v < n) (hp : p < 8) (t : Nat) :
    FZ (w.setCell ⟨b, v * 8 + p, none⟩ (.int .i64 t)) base g kk nu us n (hasL n (fun u q => if u = v ∧ q = p then some t else f u q)) nt ts uv (.slice (some ⟨b, 0, none⟩) n cap) tv := by
  have e1 : g ≠ b := fun e => row_blk h.hass h.blk (by decide) (by rw [e]; rfl)
  refine ⟨h.blk.other (a := ⟨b, v * 8 + p, none⟩) e1 _, h.lt, row_congr h.ups fun i hi => Below.heap_setCell _ _ _ i ?_, ?_, row_congr h.todos fun i hi => Below.heap_setCell _ _ _ i ?_⟩
  · intro e
    subst e
    rcases row_ne h.ups h.hass (by decide) with q | q
    · rw [q] at hi; cases hi
    · exact q (hi.trans rfl)
  · have := OwnK.set h.hass (v * 8 + p) t
    rwa [hasL_set hv hp] at this
  · intro e
    subst e
    rcases row_ne h.todos h.hass (by decide) with q | q
    · rw [q] at hi; cases hi
    · exact q (hi.trans rfl)
def itemsL (a p b : Nat) : List Int := [(a : Int), p, b, b, (p ^^^ 1 : Nat), a]
theorem items_at (a p b : Nat) {i : Nat} (hi : i < 2) : (itemsL a p b)[i * 3]? = some (aF a b i : Int) ∧ (itemsL a p b)[i * 3 + 1]? = some (pF p i : Int) ∧ (itemsL a p b)[i * 3 + 2]? = some (aF b a i : Int) := by
  obtain rfl | rfl : i = 0 ∨ i = 1 := by omega
  all_goals exact ⟨rfl, rfl, rfl⟩

theorem xor_one_bits : ∀ {p : Nat}, p < 8 → bits BinOp.xor IntKind.i64 (p : Int) 1 = ((p ^^^ 1 : Nat) : Int) := by decide +kernel
set_option maxRecDepth 100000 in
set_option maxHeartbeats 4000000 in
theorem edge_any (w : World) (base g kk : Nat) (x : FS) (up d : Nat → Nat) (uv hv tv : Value) {k : Nat} {S : List UInt8 → Prop} {φ : Nat → List UInt8} {E : List (Nat × Nat × Nat)} (hI : Inv k S φ E x) (hk : k ≤ 4)
    (h : FM w base g kk x up uv hv tv) (hu : UF x.n up x.R d) (hb : base ≤ w.heap.size) (hn : 8 * x.n + x.todo.length + 2 < 1000000) {a p b : Nat} (ha : a < x.n) (hbb : b < x.n) (hp : p < 2 * k) (hG : Gen S (φ a ++ [letP p] ++ invL (φ b))) :
    Calls Try.prog 103 #[.pointer (some ⟨g, 0, none⟩), .int .i64 a, .int .i64 p, .int .i64 b] w fun e w' => e = .returned (.tuple #[]) ∧ ∃ y up' d' tv', Inv k S φ ((a, p, b) :: E) y ∧ y.todo = [] ∧ y.n = x.n ∧ FM w' base g kk y up' uv hv tv' ∧ UF y.n up' y.R d' ∧ Frm w w' g uv hv tv uv hv tv' := by
  have hp8 : p < 8 := by omega
  have hx1 : bits BinOp.xor IntKind.i64 (p : Int) 1 = ((p ^^^ 1 : Nat) : Int) := xor_one_bits hp8
  obtain ⟨M, hM⟩ : ∃ M, M = itemsL a p b := ⟨_, rfl⟩
  have hI9 : ∀ i, i ≤ 2 → Inv k S φ E x → True := fun _ _ _ => trivial
  have hbelow : Below w.heap.size w (w.alloc (.cells (I64s (itemsL a p b)).toArray 174)) := (Below.refl _ _).alloc (Nat.le_refl _) _
  have HQ := Lib.hid (Blk.new w 174 (I64s (itemsL a p b)))
  have HM := Lib.hid (h.keep hbelow)
  have HF := Lib.hid (Frm.of_below hbelow g uv hv tv)
  have HE := Lib.hid (inv_edge (by omega) hI ha hbb hp hG)
  have HBD := Lib.hid (fun v p t h => (hI.bound v p t h).1)
  have HLT := Lib.hid hI.lt
  have HU := Lib.hid hu
  have hgl := h.blk.lt
  have hqg : w.heap.size ≠ g := by omega
  clear hI9 hM M h hI hbelow hu
  go_enter Try.func103, Try.ntmps103
  go_wp2_with fail
  go_loopw [23] (fun iv wr => ∃ (i : Nat) (up d : Nat → Nat) (tv2 : Value), i ≤ 2 ∧ iv = .int .i64 i ∧ Hid (Blk wr w.heap.size 174 (I64s (itemsL a p b))) ∧ Hid (FM wr base g kk (zF x a p b i) up uv hv tv2) ∧ Hid (UF x.n up x.R d) ∧ Hid (Frm w wr g uv hv tv uv hv tv2)) (fun iv _ => 2 - (intOf iv).toNat)
  case atStart => exact ⟨0, up, d, tv, by omega, rfl, HQ, HM, HU, HF⟩
  case round =>
    clear HQ HM HU HF up d
    obtain ⟨i, up, d, tv2, hi, rfl, HQ, HM, HU, HF⟩ := hrel
    by_cases hlt : i < 2
    · obtain ⟨m1, m2, m3⟩ := items_at a p b hlt
      have q1 := HQ.out.cell (i64s_get m1)
      have q2 := HQ.out.cell (i64s_get m2)
      have q3 := HQ.out.cell (i64s_get m3)
      have hA : aF a b i < x.n := by unfold aF; split <;> assumption
      have hB : aF b a i < x.n := by unfold aF; split <;> assumption
      have hP : pF p i < 8 := by unfold pF; split <;> have := xor_one_lt k p (by omega) hp <;> omega
      have hz := zF_succ x a p b hlt
      have hzn := zF_n x a p b i
      have hzR := zF_R x a p b i
      have hzl := zF_len x a p b hi
      have hbx := zF_bd (x := x) (p := p) HBD.out ha hbb i
      generalize hX : zF x a p b i = X at *
      generalize aF a b i = A at *
      generalize aF b a i = B at *
      generalize pF p i = P at *
      have HBX := Lib.hid hbx
      clear hbx
      go_upto_region 3 with fail
      have hb1 : Below wr.heap.size wr (wr.alloc (.cells (I64s [(A : Int), P, B]).toArray 174)) := (Below.refl _ _).alloc (Nat.le_refl _) _
      have b1 := Blk.new wr 174 (I64s [(A : Int), P, B])
      have hq1 := HQ.out.alloc (.cells (I64s [(A : Int), P, B]).toArray 174)
      have hm1 := HM.out.keep hb1
      have hf1 := HF.out.trans (Frm.of_below hb1 g _ _ _)
      have hsz := HF.out.size
      change Code.wp _ _ _ _ (wr.alloc (.cells (I64s [(A : Int), P, B]).toArray 174))
      obtain ⟨q, hq⟩ : ∃ q, wr.heap.size = q := ⟨_, rfl⟩
      rw [hq] at b1 hsz ⊢
      clear hb1 hq HM HF HQ q1 q2 q3
      generalize wr.alloc (.cells (I64s [(A : Int), P, B]).toArray 174) = w1 at *
      have d0 := b1.cell (j := 0) rfl
      have hXA : X.R A < x.n := by rw [hzR]; exact HLT.out _ hA
      have hrt := rootOf_any w1.drew base g kk X up x.R d uv hv tv2 A ⟨hm1.blk, hm1.lt, hm1.ups, hm1.hass, hm1.todos⟩ (by rw [hzn]; exact HU.out) (by rw [hzn]; exact hA) (by rw [hzn]; omega)
      rw [hzn] at hrt
      obtain ⟨r, hr⟩ : ∃ r, x.R A = r := ⟨_, rfl⟩
      have hXr : X.R A = r := by rw [hzR]; exact hr
      rw [hr] at hrt
      rw [hXr] at hXA
      have HRT := Lib.hid hrt
      have hz1 := hm1.parts
      have HQ1 := Lib.hid hq1
      have HB1 := Lib.hid b1
      have HZ1 := Lib.hid hz1
      have HF1 := Lib.hid hf1
      have HXR := Lib.hid hXr
      clear hq1 b1 hz1 hf1 hm1 hrt hr hXr HU
      go_still_tail 5, (by kernel_rfl)
      change wpList _ _ _ _ _ w1.drew
      go_wp2_with (go_at_call 105; refine HRT.out.mono ?_; rintro e w2 ⟨rfl, up2, hM2, hU2, hF2⟩)
      have hz1 := HZ1.out.drewN 1
      have hq2 := hF2.blkOf hz1 (show Blk w1.drew _ _ _ from HQ1.out) (by decide) (by decide) (by decide) (by decide)
      have hb2 := hF2.blkOf hz1 (show Blk w1.drew _ _ _ from HB1.out) (by decide) (by decide) (by decide) (by decide)
      have hf2 := (HF1.out.drewN 1).trans hF2
      clear hz1 HQ1 HB1 HF1 HZ1 hF2
      have hh := hM2.hass
      rw [hzn] at hh
      obtain ⟨hb0, hc0, rfl, hhb, hhl, hh1, hh2, hfr, hcs⟩ := hh.open (by omega)
      have c1 := hM2.blk.cell (j := 1) rfl
      have cA := hcs _ _ (hasL_get hXA hP)
      have e1 := hb2.cell (j := 1) rfl
      have e2 := hb2.cell (j := 2) rfl
      have i1 : (0 : Int) ≤ r := by omega
      have i2 : (r : Int) < x.n := by omega
      have i3 : (0 : Int) ≤ P := by omega
      have i4 : (P : Int) < 8 := by omega
      have hz2 := hM2.parts
      rw [hzn] at hz2
      have hz3 := hz2.drewN 1
      have hf3 := hf2.drewN 1
      have hq3 : Blk w2.drew w.heap.size 174 (I64s (itemsL a p b)) := hq2
      have hb3 : Blk w2.drew q 174 (I64s [(A : Int), P, B]) := hb2
      change FZ w2.drew _ _ _ _ _ _ _ _ _ _ _ _ at hz3
      change Frm w w2.drew _ _ _ _ _ _ _ at hf3
      have HZ3 := Lib.hid hz3
      have HF3 := Lib.hid hf3
      have HQ3 := Lib.hid hq3
      have HB3 := Lib.hid hb3
      have HU2 := Lib.hid hU2
      have HX := Lib.hid hX
      have HHZ := Lib.hid hz
      have HZN := Lib.hid hzn
      have HZR := Lib.hid hzR
      clear hz2 hz3 hf3 hq3 hb3 hf2 hq2 hb2 hM2 hU2 hX hz hzn hzR hcs hh
      cases hX2 : X.has r P with
      | none =>
        rw [hX2, show optI none = -1 from rfl] at cA
        have HX2 := Lib.hid hX2
        clear hX2
        go_upto_region 4 with fail
        go_still (by kernel_rfl)
        go_upto_region 7 with fail
        generalize w2.drew = w3 at *
        clear c1 cA e1 e2 hfr
        have c1 := HZ3.out.blk.cell (j := 1) rfl
        obtain ⟨hb0', hc0', e', -, -, -, -, hfr, hcs⟩ := OwnK.open HZ3.out.hass (by omega)
        obtain ⟨rfl, rfl⟩ : hb0 = hb0' ∧ hc0 = hc0' := by simpa using e'
        have cA := hcs _ _ (hasL_get hXA hP)
        have fA := hfr (r * 8 + P)
        have e1 := HB3.out.cell (j := 1) rfl
        have e2 := HB3.out.cell (j := 2) rfl
        clear e' hcs hfr
        go_still_tail 11, (by kernel_rfl)
        have hz4 := (HZ3.out.drewN 1).setHas hXA hP B
        have hf4 := (HF3.out.drewN 1).set ⟨hb0, r * 8 + P, none⟩ (.int .i64 B) (.inr (.inr (.inl rfl)))
        have hq4 := (show Blk w3.drew _ _ _ from HQ3.out).other (a := ⟨hb0, r * 8 + P, none⟩) (fun e => row_blk HZ3.out.hass HQ3.out (by decide) (congrArg some e)) (.int .i64 B)
        have hpt : zF x a p b (i + 1) = ⟨x.n, x.R, fun u s => if u = r ∧ s = P then some B else X.has u s, X.todo⟩ := by
          rw [HHZ.out]
          unfold putF
          rw [HXR.out, HX2.out]
          show FS.mk X.n X.R _ _ = _
          rw [HZN.out, HZR.out]
        have hm4 : FM (w3.drew.setCell ⟨hb0, r * 8 + P, none⟩ (.int .i64 B)) base g kk (zF x a p b (i + 1)) up2 uv (.slice (some ⟨hb0, 0, none⟩) x.n hc0) tv2 := by rw [hpt]; exact FZ.whole (x := ⟨x.n, x.R, fun u s => if u = r ∧ s = P then some B else X.has u s, X.todo⟩) hz4
        have G1 := Lib.hid hm4
        have G2 := Lib.hid hq4
        have G3 := Lib.hid hf4
        clear hz4 hf4 hq4 hpt hm4
        go_wp2_with fail
        go_roundw
        case rel => exact ⟨i + 1, up2, d, tv2, by omega, by go_num, G2, G1, HU2, G3⟩
        case measure => simp [intOf]; omega
      | some t =>
        rw [hX2, optI_some] at cA
        have HX2 := Lib.hid hX2
        have ht9 : t < x.n := HBX.out _ _ _ hX2
        clear hX2
        go_upto_region 4 with fail
        go_still (by kernel_rfl)
        go_upto_region 6 with fail
        generalize w2.drew = wq at *
        clear c1 cA e1 e2 hfr
        obtain ⟨n0, hn0⟩ : ∃ n0, X.todo.length = n0 := ⟨_, rfl⟩
        rw [hn0] at HZ3
        have HN0 := Lib.hid hn0
        have hn09 : n0 < 1000000000 := by rw [hn0] at hzl; omega
        have HN := Lib.hid hn09
        clear hn0
        have e2 := HB3.out.cell (j := 2) rfl
        have htd := HZ3.out.blk.cell (j := 3) rfl
        have hg1 := HZ3.out.blk.lt
        have hb1 := HB3.out.lt
        have H1 := Lib.hid (HZ3.out.alloc (.cells (I64s [(t : Int), (B : Int)]).toArray 70))
        have H2 : Hid (Blk (wq.alloc (.cells (I64s [(t : Int), (B : Int)]).toArray 70)).drew wq.heap.size 70 (I64s [(t : Int), (B : Int)])) := Lib.hid (Blk.new wq 70 (I64s [(t : Int), (B : Int)]))
        have hwz := HF3.out.size
        have H9 : Hid (base ≤ (wq.alloc (.cells (I64s [(t : Int), (B : Int)]).toArray 70)).drew.heap.size) := by
          show base ≤ (wq.alloc (.cells (I64s [(t : Int), (B : Int)]).toArray 70)).heap.size
          simp; omega
        have HKB : Hid (Blk (wq.alloc (.cells (I64s [(t : Int), (B : Int)]).toArray 70)).drew q 174 (I64s [(A : Int), P, B])) := Lib.hid (HB3.out.alloc _)
        obtain ⟨ta, tn, rfl, htn1, htn2, htl⟩ := row_shape HZ3.out.todos
        have HTL := Lib.hid htl
        have hbg : q ≠ g := by
          intro e
          subst e
          have q1 := HB3.out
          have q2 := HZ3.out.blk
          rw [Blk] at q1 q2
          rw [q1] at q2
          simp at q2
        clear htl
        refine wp_region_held_drew (S := fun w' => w'.cell? ⟨q, 2, none⟩ = some (.int .i64 (B : Int))) (by kernel_rfl) (by go_keep) (fun hHeld => ?_)
        refine takeH 0 (v := ?_) rfl (by kernel_rfl) (by kernel_rfl) (by kernel_rfl) (fun _ _ _ h => h) (by rfl) ?_ hHeld ?_
        rotate_left
        · (intro w hSw; (try dsimp only at hSw); go_simp; try with_reducible rfl)
        try simp only [Act.put, List.setIfInBounds_toArray, List.set_cons_zero, List.set_cons_succ]
        refine takeH 1 (v := ?_) rfl (by kernel_rfl) (by kernel_rfl) (by kernel_rfl) (fun _ _ _ h => h) (by rfl) ?_ hHeld ?_
        rotate_left
        · (intro w hSw; (try dsimp only at hSw); go_simp; try with_reducible rfl)
        try simp only [Act.put, List.setIfInBounds_toArray, List.set_cons_zero, List.set_cons_succ]
        refine takeH 2 (v := ?_) rfl (by kernel_rfl) (by kernel_rfl) (by kernel_rfl) (fun _ _ _ h => h) (by rfl) ?_ hHeld ?_
        rotate_left
        · (intro w hSw; (try dsimp only at hSw); go_simp; try with_reducible rfl)
        try simp only [Act.put, List.setIfInBounds_toArray, List.set_cons_zero, List.set_cons_succ]
        refine takeH 3 (v := ?_) rfl (by kernel_rfl) (by kernel_rfl) (by kernel_rfl) (fun _ _ _ h => h) (by rfl) ?_ hHeld ?_
        rotate_left
        · (intro w hSw; (try dsimp only at hSw); go_simp; try with_reducible rfl)
        try simp only [Act.put, List.setIfInBounds_toArray, List.set_cons_zero, List.set_cons_succ]
        refine takeH 5 (v := ?_) rfl (by kernel_rfl) (by kernel_rfl) (by kernel_rfl) (fun _ _ _ h => h) (by rfl) ?_ hHeld ?_
        rotate_left
        · (intro w hSw; (try dsimp only at hSw); go_simp; try with_reducible rfl)
        try simp only [Act.put, List.setIfInBounds_toArray, List.set_cons_zero, List.set_cons_succ]
        refine takeH 6 (v := ?_) rfl (by kernel_rfl) (by kernel_rfl) (by kernel_rfl) (fun _ _ _ h => h) (by rfl) ?_ hHeld ?_
        rotate_left
        · (intro w hSw; (try dsimp only at hSw); go_simp; try with_reducible rfl)
        try simp only [Act.put, List.setIfInBounds_toArray, List.set_cons_zero, List.set_cons_succ]
        refine takeH 7 (v := ?_) rfl (by kernel_rfl) (by kernel_rfl) (by kernel_rfl) (fun _ _ _ h => h) (by rfl) ?_ hHeld ?_
        rotate_left
        · (intro w hSw; (try dsimp only at hSw); go_simp; try with_reducible rfl)
        try simp only [Act.put, List.setIfInBounds_toArray, List.set_cons_zero, List.set_cons_succ]
        refine takeH 8 (v := ?_) rfl (by kernel_rfl) (by kernel_rfl) (by kernel_rfl) (fun _ _ _ h => h) (by rfl) ?_ hHeld ?_
        rotate_left
        · (intro w hSw; (try dsimp only at hSw); go_simp; try with_reducible rfl)
        try simp only [Act.put, List.setIfInBounds_toArray, List.set_cons_zero, List.set_cons_succ]
        refine twoH 4 9 (by kernel_rfl) rfl rfl (fun K hK => ?first) (fun K hK => ?second)
        case' first =>
          go_simp
          refine hK.out _ _ (by (first | exact hHeld | go_keep)) (fun hHeld => ?_)
          clear hK K
          try simp only [Act.put, List.setIfInBounds_toArray, List.set_cons_zero, List.set_cons_succ]
          refine oneH 9 (by kernel_rfl) rfl (fun K hK => ?_)
          go_simp
          refine hK.out _ _ (by go_keep) (fun hHeld => ?_)
          clear hK K
          try simp only [Act.put, List.setIfInBounds_toArray, List.set_cons_zero, List.set_cons_succ]
          refine oneH 10 (by kernel_rfl) rfl (fun K hK => ?_)
          (refine step_appK Try.info70 rfl (by decide) (by decide) Try.underlying147 H1.out.todos HN.out rfl (.tmp 50) (.tmp 55) rfl (by simp [Act.eval]) (by simp [Act.eval]) H2.out rfl H9.out _ rfl ?_; intro g6 cap6 w6 hown6 hgrow6 hat6 hlt6; have hz6 := H1.out.appTodo hown6 hgrow6; have hb6 := H1.out.blk.grown hgrow6 (row_blk H1.out.todos H1.out.blk (by decide)); have c6 := hb6.cell (j := 3) rfl; have f6 := hb6.free 3; have cc6 := (HKB.out.grown hgrow6 (row_blk H1.out.todos HKB.out (by decide))).cell (j := 2) rfl; have cc7 := ((HKB.out.grown hgrow6 (row_blk H1.out.todos HKB.out (by decide))).other (a := ⟨g, 3, none⟩) hbg (.slice (some ⟨g6, 0, none⟩) (n0 + 1) cap6)).cell (j := 2) rfl)
          refine hK.out _ _ (by exact cc6) (fun hHeld => ?_)
          clear hK K
          try simp only [Act.put, List.setIfInBounds_toArray, List.set_cons_zero, List.set_cons_succ]
          refine takeH 11 (v := ?_) rfl (by kernel_rfl) (by kernel_rfl) (by kernel_rfl) (fun _ _ _ h => h) (by rfl) ?_ hHeld ?_
          rotate_left
          · (intro w hSw; (try dsimp only at hSw); go_simp; try with_reducible rfl)
          try simp only [Act.put, List.setIfInBounds_toArray, List.set_cons_zero, List.set_cons_succ]
          refine takeH 12 (v := ?_) rfl (by kernel_rfl) (by kernel_rfl) (by kernel_rfl) (fun _ _ _ h => h) (by rfl) ?_ hHeld ?_
          rotate_left
          · (intro w hSw; (try dsimp only at hSw); go_simp; try with_reducible rfl)
          try simp only [Act.put, List.setIfInBounds_toArray, List.set_cons_zero, List.set_cons_succ]
          refine oneH 13 (by kernel_rfl) rfl (fun K hK => ?_)
          go_simp
          refine hK.out _ _ (by exact cc7) (fun hHeld => ?_)
          clear hK K
          refine wpAnyH_done (by kernel_rfl) ?_ _
          try simp only [Act.put]
        case' second =>
          go_simp
          refine hK.out _ _ (by go_keep) (fun hHeld => ?_)
          clear hK K
          try simp only [Act.put, List.setIfInBounds_toArray, List.set_cons_zero, List.set_cons_succ]
          refine oneH 4 (by kernel_rfl) rfl (fun K hK => ?_)
          go_simp
          refine hK.out _ _ (by (first | exact hHeld | go_keep)) (fun hHeld => ?_)
          clear hK K
          try simp only [Act.put, List.setIfInBounds_toArray, List.set_cons_zero, List.set_cons_succ]
          refine oneH 10 (by kernel_rfl) rfl (fun K hK => ?_)
          (refine step_appK Try.info70 rfl (by decide) (by decide) Try.underlying147 H1.out.todos HN.out rfl (.tmp 50) (.tmp 55) rfl (by simp [Act.eval]) (by simp [Act.eval]) H2.out rfl H9.out _ rfl ?_; intro g6 cap6 w6 hown6 hgrow6 hat6 hlt6; have hz6 := H1.out.appTodo hown6 hgrow6; have hb6 := H1.out.blk.grown hgrow6 (row_blk H1.out.todos H1.out.blk (by decide)); have c6 := hb6.cell (j := 3) rfl; have f6 := hb6.free 3; have cc6 := (HKB.out.grown hgrow6 (row_blk H1.out.todos HKB.out (by decide))).cell (j := 2) rfl; have cc7 := ((HKB.out.grown hgrow6 (row_blk H1.out.todos HKB.out (by decide))).other (a := ⟨g, 3, none⟩) hbg (.slice (some ⟨g6, 0, none⟩) (n0 + 1) cap6)).cell (j := 2) rfl)
          refine hK.out _ _ (by exact cc6) (fun hHeld => ?_)
          clear hK K
          try simp only [Act.put, List.setIfInBounds_toArray, List.set_cons_zero, List.set_cons_succ]
          refine takeH 11 (v := ?_) rfl (by kernel_rfl) (by kernel_rfl) (by kernel_rfl) (fun _ _ _ h => h) (by rfl) ?_ hHeld ?_
          rotate_left
          · (intro w hSw; (try dsimp only at hSw); go_simp; try with_reducible rfl)
          try simp only [Act.put, List.setIfInBounds_toArray, List.set_cons_zero, List.set_cons_succ]
          refine takeH 12 (v := ?_) rfl (by kernel_rfl) (by kernel_rfl) (by kernel_rfl) (fun _ _ _ h => h) (by rfl) ?_ hHeld ?_
          rotate_left
          · (intro w hSw; (try dsimp only at hSw); go_simp; try with_reducible rfl)
          try simp only [Act.put, List.setIfInBounds_toArray, List.set_cons_zero, List.set_cons_succ]
          refine oneH 13 (by kernel_rfl) rfl (fun K hK => ?_)
          go_simp
          refine hK.out _ _ (by exact cc7) (fun hHeld => ?_)
          clear hK K
          refine wpAnyH_done (by kernel_rfl) ?_ _
          try simp only [Act.put]
        all_goals
          have kq : Blk (wq.alloc (.cells (I64s [(t : Int), (B : Int)]).toArray 70)).drew w.heap.size 174 (I64s (itemsL a p b)) := HQ3.out.alloc _
          have mq := (kq.grown hgrow6 (row_blk H1.out.todos kq (by decide))).other (a := ⟨g, 3, none⟩) (by show w.heap.size ≠ g; omega) (.slice (some ⟨g6, 0, none⟩) (n0 + 1) cap6)
          have hB6 := ((HF3.out.trans (Frm.of_below ((Below.refl _ _).alloc (Nat.le_refl _) (.cells (I64s [(t : Int), (B : Int)]).toArray 70)) g _ _ _)).drewN 1).grow hgrow6 (fun r hr => by
            rcases HF3.out.nt r hr with e | e
            · exact .inr (.inr (.inl e))
            · exact .inr (.inr (.inr e)))
          have hB7 := (hB6.set ⟨g, 3, none⟩ (.slice (some ⟨g6, 0, none⟩) (n0 + 1) cap6) (.inl rfl)).toT (v := .slice (some ⟨g6, 0, none⟩) (n0 + 1) cap6) (fun r hr => by
            have hr : some g6 = some r := hr
            rcases hat6 with e | e
            · exact HF3.out.nt r (e.trans hr)
            · right
              have : (wq.alloc (.cells (I64s [(t : Int), (B : Int)]).toArray 70)).drew.heap.size = wq.heap.size + 1 := by
                show (wq.alloc (.cells (I64s [(t : Int), (B : Int)]).toArray 70)).heap.size = _
                simp
              have h9 := Option.some.inj hr
              have e9 : r = wq.heap.size + 1 := by rw [← h9]; exact e.trans this
              omega)
          have hpt : zF x a p b (i + 1) = ⟨x.n, x.R, X.has, X.todo ++ [(t, B)]⟩ := by
            rw [HHZ.out]
            unfold putF
            rw [HXR.out, HX2.out]
            show FS.mk X.n X.R X.has _ = _
            rw [HZN.out, HZR.out]
          have hm7 : FM (w6.setCell ⟨g, 3, none⟩ (.slice (some ⟨g6, 0, none⟩) (n0 + 1) cap6)) base g kk (zF x a p b (i + 1)) up2 uv (.slice (some ⟨hb0, 0, none⟩) x.n hc0) (.slice (some ⟨g6, 0, none⟩) (n0 + 1) cap6) := by
            rw [hpt]
            refine FZ.whole (x := ⟨x.n, x.R, X.has, X.todo ++ [(t, B)]⟩) ?_
            show FZ _ _ _ _ _ _ _ _ (X.todo ++ [(t, B)]).length (todoL (X.todo ++ [(t, B)])) _ _ _
            rw [todoL_snoc, List.length_append, HN0.out]
            exact hz6
          have G1 := Lib.hid hm7
          have G2 := Lib.hid mq
          have G3 := Lib.hid hB7
          clear mq hB6 hB7 hz6 kq hown6 hgrow6 hat6 hlt6 c6 f6 hb6 H1 H2 H9 HZ3 HQ3 HB3 HF3 hpt hm7 cc6 cc7
          generalize w6.setCell ⟨g, 3, none⟩ (.slice (some ⟨g6, 0, none⟩) (n0 + 1) cap6) = w7 at *
          go_wp2_with fail
          go_roundw
          case rel => exact ⟨i + 1, up2, d, _, by omega, by go_num, G2, G1, HU2, G3⟩
          case measure => simp [intOf]; omega
    · obtain rfl : i = 2 := by omega
      have hE2 : zF x a p b 2 = edgeF x a p b := rfl
      have hnE : (edgeF x a p b).n = x.n := zF_n x a p b 2
      have hRE : (edgeF x a p b).R = x.R := zF_R x a p b 2
      have hlE := zF_len x a p b (Nat.le_refl 2)
      rw [hE2] at HM hlE
      have HST := Lib.hid (settle_any wr base g kk (edgeF x a p b) up d uv hv tv2 HE.out hk HM.out (by rw [hnE, hRE]; exact HU.out) (by have := HF.out.size; omega) (by rw [hnE]; omega))
      have HNE := Lib.hid hnE
      clear hE2 hnE hRE hlE
      go_wp2_with (go_at_call 104; refine HST.out.mono ?_; rintro e w9 ⟨rfl, y, up9, d9, tv9, h1, h2, h3, h4, h5, h6⟩; have G1 := Lib.hid h1; have G2 := Lib.hid h2; have G3 := Lib.hid (h3.trans HNE.out); have G4 := Lib.hid h4; have G5 := Lib.hid h5; have G6 := Lib.hid (HF.out.trans h6); clear h1 h2 h3 h4 h5 h6)
      go_end0
      exact ⟨rfl, y, up9, d9, tv9, G1.out, G2.out, G3.out, G4.out, G5.out, G6.out⟩
end Go.Proofs.Ytlooclpfoeakgaa

/- A new folder, and the way of a word: the walks. -/
namespace Go.Proofs.Ytlooclpfoeakgaa
open Go.RowKit

/-! ### plain laws -/
theorem inv_phi {k : Nat} {S : List UInt8 → Prop} {φ ψ : Nat → List UInt8} {E : List (Nat × Nat × Nat)} {x : FS} (h : Inv k S φ E x) (e : ∀ i, i < x.n → ψ i = φ i) (hlt : ∀ v p t, x.has v p = some t → v < x.n) : Inv k S ψ E x := by
  refine ⟨h.idem, h.lt, h.out, h.bound, fun v p t ht => ?_, fun i hi => ?_, fun a b hab => ?_, h.fold, h.need⟩
  · rw [e v (hlt v p t ht), e t (h.bound v p t ht).1]; exact h.edge v p t ht
  · rw [e i hi, e _ (h.lt i hi)]; exact h.root i hi
  · obtain ⟨h1, h2, h3⟩ := h.todoG a b hab
    rw [e a h1, e b h2]; exact ⟨h1, h2, h3⟩
theorem Inv.has_lt {k : Nat} {S : List UInt8 → Prop} {φ : Nat → List UInt8} {E : List (Nat × Nat × Nat)} {x : FS} (h : Inv k S φ E x) (v p t : Nat) (ht : x.has v p = some t) : v < x.n := by
  by_cases h1 : v < x.n
  · exact h1
  · rw [(h.out v (by omega)).2 p] at ht; cases ht
/-- one vertex -/
def fs1 : FS := ⟨1, id, fun _ _ => none, []⟩
theorem inv_fs1 (k : Nat) (S : List UInt8 → Prop) (φ : Nat → List UInt8) : Inv k S φ [] fs1 := by
  refine ⟨fun _ => rfl, fun i hi => hi, fun i _ => ⟨rfl, fun _ => rfl⟩, fun v p t h => ?_, fun v p t h => ?_, fun i _ => Gen.refl_ S _, fun a b h => ?_, fun r p t _ h => ?_, fun a p b h => ?_⟩
  all_goals cases h

/-! ### a vertex is added -/
theorem FM.added {w : World} {base g k : Nat} {x : FS} {up : Nat → Nat} {uv hv tv : Value} (ho : ∀ p, x.has x.n p = none) (h : FZ w base g k (x.n + 1) (upL x.n up ++ [(x.n : Int)]) (x.n + 1) (hasL x.n x.has ++ bareI) x.todo.length (todoL x.todo) uv hv tv) :
    FM w base g k (addF x) (fun j => if j = x.n then x.n else up j) uv hv tv := by
  refine FZ.whole ?_
  have e1 : upL (x.n + 1) (fun j => if j = x.n then x.n else up j) = upL x.n up ++ [(x.n : Int)] := by
    rw [upL_succ, if_pos rfl]
    congr 1
    unfold upL
    apply List.map_congr_left
    intro i hi
    have := List.mem_range.1 hi
    show (((if i = x.n then x.n else up i) : Nat) : Int) = up i
    rw [if_neg (by omega)]
  have e2 : hasL (x.n + 1) x.has = hasL x.n x.has ++ bareI := by rw [hasL_succ, bareI_row ho]
  show FZ w base g k (x.n + 1) (upL (x.n + 1) _) (x.n + 1) (hasL (x.n + 1) x.has) _ _ uv hv tv
  rw [e1, e2]
  exact h
theorem UF.added {n : Nat} {up R d : Nat → Nat} (h : UF n up R d) (hn : R n = n) : UF (n + 1) (fun j => if j = n then n else up j) R d := by
  refine ⟨fun j hj => ?_, fun j hj e => ?_, fun j hj e => ?_⟩
  · show (if j = n then n else up j) < n + 1
    split
    · omega
    · have := h.lt j (by omega); omega
  · have e : (if j = n then n else up j) = j := e
    split at e
    · rename_i h1; rw [h1]; exact hn
    · exact h.fix j (by omega) e
  · have e : (if j = n then n else up j) ≠ j := e
    show R (if j = n then n else up j) = R j ∧ d (if j = n then n else up j) < d j
    split at e
    · rename_i h1; exact absurd h1.symm e
    · rename_i h1; rw [if_neg h1]; exact h.step j (by omega) e

def fs0 : FS := ⟨0, id, fun _ _ => none, []⟩
theorem fm0 {w : World} {base g k : Nat} (hb : Blk w g 149 [.slice none 0 0, .slice none 0 0, .int .i64 k, .slice none 0 0]) (hg : base ≤ g) : FM w base g k fs0 id (.slice none 0 0) (.slice none 0 0) (.slice none 0 0) :=
  ⟨hb, hg, ⟨rfl, .inl ⟨rfl, rfl⟩⟩, ⟨rfl, .inl ⟨rfl, rfl⟩⟩, ⟨rfl, .inl ⟨rfl, rfl⟩⟩⟩
set_option maxRecDepth 100000 in
set_option maxHeartbeats 4000000 in
theorem newFolder_any (w : World) (k : Nat) :
    Calls Try.prog 58 #[.int .i64 k] w fun e w' => e = .returned (.pointer (some ⟨w.heap.size, 0, none⟩)) ∧ ∃ (up : Nat → Nat) (uv hv tv : Value), FM w' w.heap.size w.heap.size k fs1 up uv hv tv ∧ UF 1 up id (fun _ => 0) ∧ Below w.heap.size w w' := by
  have hb1 := Blk.new w 149 [.slice none 0 0, .slice none 0 0, .int .i64 k, .slice none 0 0]
  have hB1 : Below w.heap.size w (w.alloc (.cells #[.slice none 0 0, .slice none 0 0, .int .i64 k, .slice none 0 0] 149)) := (Below.refl _ _).alloc (Nat.le_refl _) _
  have HM := Lib.hid (fm0 hb1 (Nat.le_refl _))
  have HB := Lib.hid hB1
  have hs1 : (w.alloc (.cells #[.slice none 0 0, .slice none 0 0, .int .i64 k, .slice none 0 0] 149)).heap.size = w.heap.size + 1 := by simp
  have HS := Lib.hid hs1
  clear hb1 hB1 hs1
  go_enter Try.func58, Try.ntmps58
  go_upto_region 2 with fail
  generalize w.alloc (.cells #[.slice none 0 0, .slice none 0 0, .int .i64 k, .slice none 0 0] 149) = w1 at *
  go_region_with (first
    | (go_at_call 101; refine (bare_any _).mono ?_; rintro e w2 ⟨rfl, hb2⟩; have hb2' : Below w1.heap.size w1 w2 := ((Below.refl _ w1).drewN' 1).trans (by exact hb2))
    | (go_at_call 100; refine (add_any w2 w.heap.size w.heap.size k fs0 id (.slice none 0 0) (.slice none 0 0) (.slice none 0 0) (HM.out.keep hb2') (by have := HS.out; have := hb2'.size; omega) (by show 0 < 1000000; omega)).mono ?_; rintro e w3 ⟨rfl, nv, mv, hz3, hf3⟩))
  have hm3 : FM w3 w.heap.size w.heap.size k (addF fs0) _ nv mv (.slice none 0 0) := FM.added (fun _ => rfl) hz3
  have hu3 : UF 1 _ id (fun _ => 0) := UF.added (n := 0) (up := id) (R := id) (d := fun _ => 0) ⟨fun i hi => absurd hi (by omega), fun i hi => absurd hi (by omega), fun i hi => absurd hi (by omega)⟩ rfl
  have hb3 : Below w.heap.size w w3 := (HB.out.trans (hb2'.mono (by rw [HS.out]; omega))).trans (hf3.below (Nat.le_refl _) (by have := HS.out; have := hb2'.size; omega) (fun _ h => by cases h) (fun _ h => by cases h) (fun _ h => by cases h))
  have H1 := Lib.hid hm3
  have H2 := Lib.hid hu3
  have H3 := Lib.hid hb3
  clear hm3 hu3 hb3 hz3 hf3
  go_wp2_with fail
  go_ret
  exact ⟨rfl, _, nv, mv, _, H1.out, H2.out, H3.out⟩
end Go.Proofs.Ytlooclpfoeakgaa
