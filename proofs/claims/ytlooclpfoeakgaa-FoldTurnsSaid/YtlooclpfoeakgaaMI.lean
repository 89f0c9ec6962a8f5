/- The basis of a graph: the walk. -/
import Derived.Test.YtlooclpfoeakgaaMH
import Derived.Test.YtlooclpfoeakgaaMC
import Derived.Sort.QuietIn
import Derived.Sort.CutIn
import Derived.Shelf.RegionOpen
import Derived.Test.YtlooclpfoeakgaaMB
import Derived.BigQuiet
import Derived.Test.YtlooclpfoeakgaaME
import Derived.Test.YtlooclpfoeakgaaMD
namespace Go.Proofs.Ytlooclpfoeakgaa
open Go.RowKit Go.Shelf
attribute [local go_sem] Oper.semAt_some

/-- the parts that stay while the ways are made -/
structure RQ (W : World) (bx b2 b3 b4 b5 ob wb n k : Nat) (rv : Value) (T : Nat → Nat × Nat) : Prop where
  ne : bx ≠ wb ∧ b2 ≠ wb ∧ b3 ≠ wb ∧ b4 ≠ wb ∧ b5 ≠ wb ∧ ob ≠ wb
  box : Blk W bx 25 [.int .i64 k, rv]
  c2 : Blk W b2 107 [.map none]
  c3 : Blk W b3 22 [.slice none 0 0]
  c4 : Blk W b4 165 [.slice (some ⟨ob, 0, none⟩) n n]
  c5 : Blk W b5 22 [.slice (some ⟨wb, 0, none⟩) n n]
  tree : Blk W ob 120 (tabV (pairV T) (n * 2))
theorem RQ.put {W : World} {bx b2 b3 b4 b5 ob wb n k : Nat} {rv : Value} {T : Nat → Nat × Nat} (h : RQ W bx b2 b3 b4 b5 ob wb n k rv T) (j : Nat) (u : Value) : RQ (W.setCell ⟨wb, j, none⟩ u) bx b2 b3 b4 b5 ob wb n k rv T := by
  obtain ⟨h0, h1, h2, h3, h4, h5, h6⟩ := h
  exact ⟨h0, h1.other (a := ⟨wb, j, none⟩) h0.1 u, h2.other (a := ⟨wb, j, none⟩) h0.2.1 u, h3.other (a := ⟨wb, j, none⟩) h0.2.2.1 u, h4.other (a := ⟨wb, j, none⟩) h0.2.2.2.1 u, h5.other (a := ⟨wb, j, none⟩) h0.2.2.2.2.1 u, h6.other (a := ⟨wb, j, none⟩) h0.2.2.2.2.2 u⟩
theorem treeF_lt {g : List (List Int)} {k n : Nat} (hg : GoodG k g) (hn : g.length = n) (L : List (Nat × Nat)) (t : Nat) : (treeF g L t).1 < n ∧ (treeF g L t).2 < 2 * k := by
  have h1 := hg.n1
  have h2 := hg.k1
  have h0 : (0, 0) = ((0 : Nat), (0 : Nat)) := rfl
  unfold treeF
  split
  · exact ⟨by show 0 < n; omega, by show 0 < 2 * k; omega⟩
  · cases hf : L.find? (hitP g t) with
    | none => exact ⟨by show 0 < n; omega, by show 0 < 2 * k; omega⟩
    | some q =>
      have h3 := List.find?_some hf
      unfold hitP at h3
      obtain ⟨r, h4, h5⟩ := nxT_row (of_decide_eq_true h3)
      have h6 := (hg.row r (List.mem_of_getElem? h4)).1
      exact ⟨by rw [← hn]; exact (List.getElem?_eq_some_iff.1 h4).1, by rw [← h6]; exact (List.getElem?_eq_some_iff.1 h5).1⟩

theorem load_map (w : World) (b : Nat) (v : Value) (h : w.cell? ⟨b, 0, none⟩ = some v) : (loadVar 107 ⟨b, 0, none⟩).run Try.prog w = .ok v w := by
  simp [loadVar, go_sem, h]
theorem load_slice (w : World) (b : Nat) (v : Value) (h : w.cell? ⟨b, 0, none⟩ = some v) : (loadVar 22 ⟨b, 0, none⟩).run Try.prog w = .ok v w := by
  simp [loadVar, go_sem, h]
theorem res70 {w : World} {tmps : Array Value} {b c : Nat} {u v : Value} (hp : tmps.getD 2 undef = .pointer (some ⟨b, 0, none⟩)) (hq : tmps.getD 3 undef = .pointer (some ⟨c, 0, none⟩)) (h1 : w.cell? ⟨b, 0, none⟩ = some u) (h2 : w.cell? ⟨c, 0, none⟩ = some v) :
    (results Try.f70 tmps).run Try.prog w = .ok (.tuple #[u, v]) w := by
  have h : Try.f70.results = #[.cell 2 107, .cell 3 22] := rfl
  have hp2 : tmps[2]?.getD undef = .pointer (some ⟨b, 0, none⟩) := by simpa using hp
  have hq2 : tmps[3]?.getD undef = .pointer (some ⟨c, 0, none⟩) := by simpa using hq
  have ha : ∀ b : Nat, (asAddr (.pointer (some ⟨b, 0, none⟩))).run Try.prog w = .ok ⟨b, 0, none⟩ w := fun _ => rfl
  simp only [results, h]
  simp [Sem.run_bind, Result.andThen, hp2, hq2, ha, load_map w b u h1, load_slice w c v h2]
/-- what stands at the end -/
structure FinQ (w : World) (s b2 b3 mb nm D : Nat) (lv : Value) (M : Nat → Nat → Option Int) (ws : List (List UInt8)) (V : World) : Prop where
  c2 : Blk V b2 107 [.map (some mb)]
  c3 : Blk V b3 22 [lv]
  map : MapQ V mb nm M
  own : V.ownsRow (s + 1) 9 1 lv ws.length (strsV ws)
  below : Below w.heap.size w V
  rec_ : V.heap[D]? = some (.deferred (some []))
theorem FinQ.put2 {w : World} {s b2 b3 mb nm D : Nat} {lv : Value} {M : Nat → Nat → Option Int} {ws : List (List UInt8)} {V : World} (h : FinQ w s b2 b3 mb nm D lv M ws V) (h23 : b2 ≠ b3) (hm : mb ≠ b2) (hs : b2 ≤ s) (hw : w.heap.size ≤ b2) (hD : D ≠ b2) : FinQ w s b2 b3 mb nm D lv M ws (V.setCell ⟨b2, 0, none⟩ (.map (some mb))) :=
  ⟨h.c2.set 0 _, h.c3.other (a := ⟨b2, 0, none⟩) (fun e => h23 e.symm) _, h.map.congr (heap_setCell_other V ⟨b2, 0, none⟩ mb _ hm),
    World.ownsRow.kept h.own (grownBy_setCell' V b2 _) (by
      cases hv : lv.ownBlock with
      | none => exact .inl rfl
      | some k => exact .inr fun e => by have := (own_block_cells h.own hv).1; have := Option.some.inj e; omega), h.below.setCell (p := ⟨b2, 0, none⟩) hw _, (heap_setCell_other V ⟨b2, 0, none⟩ D _ hD).trans h.rec_⟩
theorem FinQ.put3 {w : World} {s b2 b3 mb nm D : Nat} {lv : Value} {M : Nat → Nat → Option Int} {ws : List (List UInt8)} {V : World} (h : FinQ w s b2 b3 mb nm D lv M ws V) (h23 : b2 ≠ b3) (hm : mb ≠ b3) (hs : b3 ≤ s) (hw : w.heap.size ≤ b3) (hD : D ≠ b3) : FinQ w s b2 b3 mb nm D lv M ws (V.setCell ⟨b3, 0, none⟩ lv) :=
  ⟨h.c2.other (a := ⟨b3, 0, none⟩) h23 _, h.c3.set 0 _, h.map.congr (heap_setCell_other V ⟨b3, 0, none⟩ mb _ hm),
    World.ownsRow.kept h.own (grownBy_setCell' V b3 _) (by
      cases hv : lv.ownBlock with
      | none => exact .inl rfl
      | some k => exact .inr fun e => by have := (own_block_cells h.own hv).1; have := Option.some.inj e; omega), h.below.setCell (p := ⟨b3, 0, none⟩) hw _, (heap_setCell_other V ⟨b3, 0, none⟩ D _ hD).trans h.rec_⟩

theorem BI.drew {w : World} {s b2 b3 b4 b5 ob wb mb n : Nat} {T : Nat → Nat × Nat} {Wf : Nat → List UInt8} {k : Nat} {g : List (List Int)} {pre : List (EdG k g)} {W : World} (h : BI w s b2 b3 b4 b5 ob wb mb n T Wf pre W) : BI w s b2 b3 b4 b5 ob wb mb n T Wf pre W.drew :=
  ⟨⟨h.fix.c2, h.fix.c4, h.fix.c5, h.fix.tree, h.fix.ways⟩, let ⟨nm, h1, h2⟩ := h.map; ⟨nm, h1.congr rfl, h2⟩, let ⟨v, h1, h2⟩ := h.out; ⟨v, h1, h2⟩, h.below.trans ((Below.refl _ _).drewN' 1), h.size⟩
theorem letter_invU : ∀ c : UInt8, letter c.toNat = true → letter (invB c).toNat = true := for_bytes (by decide +kernel)
theorem isWord_inv {l : List UInt8} (h : isWord l = true) : isWord (invL l) = true := by
  unfold isWord at *
  rw [List.all_eq_true] at *
  intro c hc
  unfold invL at hc
  simp only [List.mem_map, List.mem_reverse] at hc
  obtain ⟨d, hd, rfl⟩ := hc
  exact letter_invU d (h d hd)
theorem BI.keep {w : World} {s b2 b3 b4 b5 ob wb mb n : Nat} {T : Nat → Nat × Nat} {Wf : Nat → List UInt8} {k : Nat} {g : List (List Int)} {pre : List (EdG k g)} {W W' : World} (h : BI w s b2 b3 b4 b5 ob wb mb n T Wf pre W) (hb : Below W.heap.size W W') : BI w s b2 b3 b4 b5 ob wb mb n T Wf pre W' :=
  ⟨h.fix.keep hb, let ⟨nm, h1, h2⟩ := h.map; ⟨nm, h1.keep hb, h2⟩, let ⟨v, h1, h2⟩ := h.out; ⟨v, h1.keep hb, World.ownsRow.keep h2 hb⟩, h.below.trans (hb.mono h.below.size), Nat.lt_of_lt_of_le h.size hb.size⟩
theorem BI.skip {w : World} {s b2 b3 b4 b5 ob wb mb n : Nat} {T : Nat → Nat × Nat} {Wf : Nat → List UInt8} {k : Nat} {g : List (List Int)} {pre : List (EdG k g)} {x : EdG k g} {W : World} (h : BI w s b2 b3 b4 b5 ob wb mb n T Wf pre W) (hs : skipT T x.1 = true) : BI w s b2 b3 b4 b5 ob wb mb n T Wf (pre ++ [x]) W := by
  obtain ⟨h1, ⟨nm, h2, h3⟩, ⟨v, h4, h5⟩, h6, h7⟩ := h
  have e1 : mapQ T ((pre ++ [x]).map (·.1)) = mapQ T (pre.map (·.1)) := by
    rw [List.map_append, List.map_cons, List.map_nil, mapQ_snoc]
    unfold stepQ
    rw [if_pos hs]
  have e2 : wordsQ T Wf ((pre ++ [x]).map (·.1)) = wordsQ T Wf (pre.map (·.1)) := by
    rw [List.map_append, List.map_cons, List.map_nil, wordsQ_snoc, if_pos hs]
  exact ⟨h1, ⟨nm, by rw [e1]; exact h2, by rw [List.length_append]; omega⟩, ⟨v, h4, by rw [e2]; exact h5⟩, h6, h7⟩
theorem nameAct {c : Code} {F : Fence} {n : Nat} {P : Program} {Q : Exit → Act → World → Prop} {a : Act} {w : World} (h : ∀ A : Array Value, A = a.tmps → c.wpIn F n P Q a w) : c.wpIn F n P Q a w := h _ rfl
theorem keeps_below {W W' : World} (h : Below W.heap.size W W') : KeepsOthers W W' := ⟨h.size, fun k _ hk _ => (h.block k (Array.getElem?_eq_some_iff.1 hk).1).trans hk⟩

set_option maxRecDepth 100000 in
set_option maxHeartbeats 4000000 in
theorem basis_any (w : World) (k : Nat) (rv : Value) (g : List (List Int)) (h : RowsR w rv g) (hg : GoodG k g) :
    Calls Try.prog 70 #[.agg #[.int .i64 k, rv]] w fun e w' => ∃ (mb nm : Nat) (v : Value), e = .returned (.tuple #[.map (some mb), v]) ∧ MapQ w' mb nm (mapQ (treeF g (scanN (2 * k) g.length 0)) (edgesTo k g g.length 0)).2 ∧
      w'.ownsRow w.heap.size 9 1 v (wordsQ (treeF g (scanN (2 * k) g.length 0)) (wayT (treeF g (scanN (2 * k) g.length 0)) g.length) (edgesTo k g g.length 0)).length (strsV (wordsQ (treeF g (scanN (2 * k) g.length 0)) (wayT (treeF g (scanN (2 * k) g.length 0)) g.length) (edgesTo k g g.length 0))) ∧ Below w.heap.size w w' := by
  obtain ⟨w1, hw1⟩ : ∃ w1, w1 = ((w.alloc (.cells #[.int .i64 k, rv] 25)).alloc (.cells #[.map none] 107)).alloc (.cells #[.slice none 0 0] 22) := ⟨_, rfl⟩
  have hb1 : Below w.heap.size w w1 := by rw [hw1]; exact (((Below.refl _ w).alloc (Nat.le_refl _) _).alloc (by simp) _).alloc (by simp; omega) _
  have hx1 : Blk w1 w.heap.size 25 [.int .i64 k, rv] := by rw [hw1]; exact ((Blk.new w 25 [.int .i64 k, rv]).alloc _).alloc _
  have h21 : Blk w1 (w.heap.size + 1) 107 [.map none] := by
    rw [hw1]
    have := (Blk.new (w.alloc (.cells #[.int .i64 k, rv] 25)) 107 [.map none]).alloc (.cells #[.slice none 0 0] 22)
    simpa using this
  have h31 : Blk w1 (w.heap.size + 1 + 1) 22 [.slice none 0 0] := by
    rw [hw1]
    have := Blk.new ((w.alloc (.cells #[.int .i64 k, rv] 25)).alloc (.cells #[.map none] 107)) 22 [.slice none 0 0]
    simpa using this
  have hs1 : w1.heap.size = w.heap.size + 1 + 1 + 1 := by rw [hw1]; simp
  have hr1 := h.keep hb1
  have htr := tree_any w1 k rv g hr1 hg
  obtain ⟨n, hn⟩ : ∃ n, g.length = n := ⟨_, rfl⟩
  obtain ⟨T, hT⟩ : ∃ T, treeF g (scanN (2 * k) g.length 0) = T := ⟨_, rfl⟩
  rw [hT] at htr ⊢
  rw [hn] at htr
  have hn1 := hg.n1
  have hn5 := hg.n5
  rw [hn] at hn1 hn5
  have c0 := hx1.cell (j := 0) rfl
  have c1 := hx1.cell (j := 1) rfl
  have HX := Lib.hid hx1
  have HB := Lib.hid hb1
  have H2 := Lib.hid h21
  have H3 := Lib.hid h31
  have HR := Lib.hid h
  have HG := Lib.hid hg
  have HTR := Lib.hid htr
  have HN := Lib.hid hn
  have HT := Lib.hid hT
  have HS1 := Lib.hid hs1
  obtain ⟨b2, hb2e⟩ : ∃ b2, w.heap.size + 1 = b2 := ⟨_, rfl⟩
  rw [hb2e] at H2 H3 HS1
  obtain ⟨b3, hb3e⟩ : ∃ b3, b2 + 1 = b3 := ⟨_, rfl⟩
  rw [hb3e] at H3 HS1
  clear hx1 hb1 h21 h31 h hg htr hn hT hr1 hs1
  refine (callsIn_wide (n := 6)).1 ?_
  refine callsIn_of_wp_marks Try.func70 rfl trivial ?_ rfl
  simp only [Try.ntmps70, List.size_toArray, List.length_cons, List.length_nil, Nat.reduceAdd, Nat.reduceSub, Array.replicate_succ, Array.replicate_zero, List.push_toArray, List.append_toArray, List.nil_append, List.cons_append]
  refine wpIn_wide.2 ?_
  go_upto_region 1 with fail
  rw [← hw1]
  clear hw1
  go_upto_region 2 with (go_at_call 117; refine HTR.out.mono ?_; rintro e w2 ⟨ob, rfl, hob, ho2, hb12⟩)
  obtain ⟨W2, hW2⟩ : ∃ W2, W2 = w2.alloc (.cells #[.slice (some ⟨ob, 0, none⟩) n n] 165) := ⟨_, rfl⟩
  have h4 : Blk W2 w2.heap.size 165 [.slice (some ⟨ob, 0, none⟩) n n] := by rw [hW2]; exact Blk.new w2 165 [.slice (some ⟨ob, 0, none⟩) n n]
  have hW2s : W2.heap.size = w2.heap.size + 1 := by rw [hW2]; simp
  have hb12' : Below w1.heap.size w1 W2 := by rw [hW2]; exact hb12.alloc hb12.size _
  have ho3 : Blk W2 ob 120 (tabV (pairV T) (n * 2)) := by rw [hW2]; exact ho2.alloc _
  have hobl := ho2.lt
  obtain ⟨b4, hb4e⟩ : ∃ b4, w2.heap.size = b4 := ⟨_, rfl⟩
  have hb4l : w1.heap.size ≤ b4 := by rw [← hb4e]; exact hb12.size
  rw [hb4e] at h4 hW2s hobl
  change Code.wp _ _ _ _ (w2.alloc (.cells #[.slice (some ⟨ob, 0, none⟩) n n] 165))
  rw [← hW2, hb4e]
  have c4 := h4.cell (j := 0) rfl
  have HO := Lib.hid ho3
  have H4 := Lib.hid h4
  have HB12 := Lib.hid hb12'
  have HWS := Lib.hid hW2s
  clear c0 c1 hW2 h4 hb12' ho3 ho2 hb12 hb4e hW2s HTR
  go_upto_region 3 with (at_make; refine wpList_makeV Try.info9 Try.underlying22 rfl rfl _ _ rfl n rfl rfl rfl rfl (by omega) (by omega) ?_; intro w3 hm3 hb3 hs3)
  obtain ⟨W3, hW3⟩ : ∃ W3, W3 = w3.alloc (.cells #[.slice (some ⟨W2.heap.size, 0, none⟩) n n] 22) := ⟨_, rfl⟩
  have hw3l := hb3.size
  have h5 : Blk W3 w3.heap.size 22 [.slice (some ⟨W2.heap.size, 0, none⟩) n n] := by rw [hW3]; exact Blk.new w3 22 [.slice (some ⟨W2.heap.size, 0, none⟩) n n]
  have hb23 : Below W2.heap.size W2 W3 := by rw [hW3]; exact hb3.alloc hw3l _
  have hm4 : Blk W3 W2.heap.size 9 (tabV (fun s => .string (strB (wayT T 1 s))) n) := by
    have e1 : tabV (fun s => Value.string (strB (wayT T 1 s))) n = List.replicate n (.string ⟨#[]⟩) := by
      rw [← tabV_const]
      refine tabV_congr fun j _ => ?_
      show Value.string (strB (wayT T 1 j)) = _
      have : wayT T 1 j = [] := by
        rw [wayT, if_neg (fun h => h.2 rfl)]
        rfl
      rw [this]
    rw [e1, hW3]
    exact hm3.alloc _
  have hb13 : Below w1.heap.size w1 W3 := HB12.out.trans (hb23.mono HB12.out.size)
  have hs13 := HB12.out.size
  obtain ⟨wb, hwb⟩ : ∃ wb, W2.heap.size = wb := ⟨_, rfl⟩
  have hrq : RQ W3 w.heap.size b2 b3 b4 (wb + 1) ob wb n k rv T := by
    have := HWS.out
    have := HS1.out
    rw [hwb, hs3, hwb] at h5
    exact ⟨by omega, HX.out.keep hb13, H2.out.keep hb13, H3.out.keep hb13, H4.out.keep hb23, h5, HO.out.keep hb23⟩
  rw [hwb] at hm4
  change Code.wp _ _ _ _ (w3.alloc (.cells #[.slice (some ⟨W2.heap.size, 0, none⟩) n n] 22))
  rw [← hW3, hwb]
  have hwbw : w.heap.size ≤ wb := by have := HWS.out; have := HS1.out; omega
  have hb3wb : b3 + 1 < wb := by have := HWS.out; have := HS1.out; omega
  have hwb3 : wb + 1 < W3.heap.size := by rw [hW3]; simp; omega
  have HRQ := Lib.hid hrq
  have HW := Lib.hid hm4
  have HBB := Lib.hid (HB.out.trans (hb13.mono HB.out.size))
  have HWL : Hid (wb + 1 < W3.heap.size) := Lib.hid hwb3
  have hTb : ∀ s, (T s).1 < n ∧ (T s).2 < 8 := fun s => by
    rw [← HT.out]
    have := treeF_lt HG.out HN.out (scanN (2 * k) g.length 0) s
    have := HG.out.k4
    omega
  have HTB := Lib.hid hTb
  clear hW3 h5 hb23 hm4 hb13 hrq hm3 hb3 hs3 hw3l hwb hTb hwb3 c4 HX H2 H3 H4 HO HB12 HB hs13 w3
  go_wp2_with fail
  go_loopw [6] (fun vv wr => ∃ v : Nat, 1 ≤ v ∧ v ≤ n ∧ vv = .int .i64 v ∧ Hid (RQ wr w.heap.size b2 b3 b4 (wb + 1) ob wb n k rv T) ∧ Hid (Blk wr wb 9 (tabV (fun s => .string (strB (wayT T v s))) n)) ∧ Hid (Below w.heap.size w wr) ∧ Hid (wb + 1 < wr.heap.size)) (fun vv _ => n - (intOf vv).toNat)
  case atStart => exact ⟨1, by omega, hn1, rfl, HRQ, HW, HBB, HWL⟩
  case round =>
    clear HRQ HW HBB HWL
    obtain ⟨v, hv1, hv, rfl, HRQ, HW, HBB, HWL⟩ := hrel
    have c4 := HRQ.out.c4.cell (j := 0) rfl
    by_cases hlt : v < n
    · obtain ⟨hf, hp⟩ := HTB.out v
      obtain ⟨f, p, hfp, hfv, -, -, -⟩ := tree_first HG.out (show v < g.length by rw [HN.out]; exact hlt) (by omega)
      rw [HT.out] at hfp
      rw [hfp] at hf hp
      simp only at hf hp
      have HFP := Lib.hid hfp
      have c5 := HRQ.out.c5.cell (j := 0) rfl
      have ct1 : wr.cell? ⟨ob, v * 2, none⟩ = some (.int .i64 f) := by
        have := HRQ.out.tree.cell (tabV_get (pairV T) (show v * 2 < n * 2 by omega))
        rw [pairV_one, hfp] at this; exact this
      have ct2 : wr.cell? ⟨ob, v * 2 + 1, none⟩ = some (.int .i64 p) := by
        have := HRQ.out.tree.cell (tabV_get (pairV T) (show v * 2 + 1 < n * 2 by omega))
        rw [pairV_two, hfp] at this; exact this
      obtain ⟨X, hX⟩ : ∃ X, strB (wayT T v f) = X := ⟨_, rfl⟩
      obtain ⟨X2, hX2⟩ : ∃ X2, strB (wayT T v v) = X2 := ⟨_, rfl⟩
      have cw : wr.cell? ⟨wb, f, none⟩ = some (.string X) := by rw [← hX]; exact HW.out.cell (tabV_get (fun s => Value.string (strB (wayT T v s))) hf)
      have cv : wr.cell? ⟨wb, v, none⟩ = some (.string X2) := by rw [← hX2]; exact HW.out.cell (tabV_get (fun s => Value.string (strB (wayT T v s))) hlt)
      have fv := HW.out.free v
      have hXs : X.size ≤ 5000 := by
        have := wayT_len T v f
        rw [← hX, size_str]; omega
      obtain ⟨L, hL⟩ : ∃ L, strB [letP p] = L := ⟨_, rfl⟩
      have hLs : L.size = 1 := by rw [← hL]; rfl
      have hlt2 := fun wx => letter_any wx p hp
      rw [hL] at hlt2
      obtain ⟨Y, hY⟩ : ∃ Y, strB (wayT T v f ++ [letP p]) = Y := ⟨_, rfl⟩
      have hcat : X ++ L = Y := by
        rw [← hX, ← hL, ← hY]
        apply ByteArray.ext
        simp
      have HXX := Lib.hid hX
      have hno : ¬ 9223372036854775807 < X.size + 1 := by omega
      have HLE := Lib.hid hlt2
      have hset : (tabV (fun s => Value.string (strB (wayT T v s))) n).set v (.string Y) = tabV (fun s => Value.string (strB (wayT T (v + 1) s))) n := by
        rw [tabV_set]
        refine tabV_congr fun s _ => ?_
        rw [wayT]
        by_cases q : s = v
        · rw [if_pos q, if_pos ⟨q, by omega⟩, hfp, hY]
        · rw [if_neg q, if_neg (fun h => q h.1)]
      have HSET := Lib.hid hset
      have v0 : (0 : Int) ≤ v := by omega
      have v1 : (v : Int) < n := by omega
      have f0 : (0 : Int) ≤ f := by omega
      have f1 : (f : Int) < n := by omega
      clear hfp hX hX2 hL hY hlt2 hset
      go_upto_region 6 with fail
      have cv' : wr.drew.cell? ⟨wb, v, none⟩ = some (.string X2) := cv
      have fv' : wr.drew.frozen? ⟨wb, v, none⟩ = false := fv
      have hne := HRQ.out.ne
      have k1 : (wr.drew.setCell ⟨wb, v, none⟩ (.string Y)).cell? ⟨wb + 1, 0, none⟩ = some (.slice (some ⟨wb, 0, none⟩) n n) := ((Blk.other (w := wr.drew) HRQ.out.c5 (a := ⟨wb, v, none⟩) hne.2.2.2.2.1 (.string Y))).cell (j := 0) rfl
      have k2 : (wr.drew.setCell ⟨wb, v, none⟩ (.string Y)).cell? ⟨b4, 0, none⟩ = some (.slice (some ⟨ob, 0, none⟩) n n) := ((Blk.other (w := wr.drew) HRQ.out.c4 (a := ⟨wb, v, none⟩) hne.2.2.2.1 (.string Y))).cell (j := 0) rfl
      have k3 : (wr.drew.setCell ⟨wb, v, none⟩ (.string Y)).cell? ⟨ob, v * 2, none⟩ = some (.int .i64 f) := by
        have := (Blk.other (w := wr.drew) HRQ.out.tree (a := ⟨wb, v, none⟩) hne.2.2.2.2.2 (.string Y)).cell (tabV_get (pairV T) (show v * 2 < n * 2 by omega))
        rw [pairV_one, HFP.out] at this; exact this
      have k4 : (wr.drew.setCell ⟨wb, v, none⟩ (.string Y)).cell? ⟨ob, v * 2 + 1, none⟩ = some (.int .i64 p) := by
        have := (Blk.other (w := wr.drew) HRQ.out.tree (a := ⟨wb, v, none⟩) hne.2.2.2.2.2 (.string Y)).cell (tabV_get (pairV T) (show v * 2 + 1 < n * 2 by omega))
        rw [pairV_two, HFP.out] at this; exact this
      have k5 : (wr.drew.setCell ⟨wb, v, none⟩ (.string Y)).cell? ⟨wb, f, none⟩ = some (.string X) := by
        have := (Blk.set (w := wr.drew) HW.out v (.string Y)).cell (j := f) (v := .string X) (by rw [List.getElem?_set_ne (by omega), tabV_get _ hf]; rw [← HXX.out])
        exact this
      have K1 := Lib.hid k1
      have K2 := Lib.hid k2
      have K3 := Lib.hid k3
      have K4 := Lib.hid k4
      have K5 := Lib.hid k5
      clear k1 k2 k3 k4 k5 hne
      refine wp_region_noPanic ?_
      refine wp_region_held_drew (S := fun w' => w'.cell? ⟨wb + 1, 0, none⟩ = some (.slice (some ⟨wb, 0, none⟩) n n) ∧ w'.cell? ⟨b4, 0, none⟩ = some (.slice (some ⟨ob, 0, none⟩) n n) ∧ w'.cell? ⟨ob, v * 2, none⟩ = some (.int .i64 f) ∧ w'.cell? ⟨ob, v * 2 + 1, none⟩ = some (.int .i64 p) ∧ w'.cell? ⟨wb, f, none⟩ = some (.string X)) (by kernel_rfl) ⟨c5, c4, ct1, ct2, cw⟩ (fun hHeld => ?_)
      refine takeH 0 (v := ?_) rfl (by kernel_rfl) (by kernel_rfl) (by kernel_rfl) (fun _ _ _ h => h) (by rfl) ?_ hHeld ?_
      rotate_left
      · (intro w hSw; (try dsimp only at hSw); go_simp; try with_reducible rfl)
      try simp only [Act.put, List.setIfInBounds_toArray, List.set_cons_zero, List.set_cons_succ]
      refine takeH 1 (v := ?_) rfl (by kernel_rfl) (by kernel_rfl) (by kernel_rfl) (fun _ _ _ h => h) (by rfl) ?_ hHeld ?_
      rotate_left
      · (intro w hSw; (try dsimp only at hSw); go_simp; try with_reducible rfl)
      try simp only [Act.put, List.setIfInBounds_toArray, List.set_cons_zero, List.set_cons_succ]
      refine takeH 2 (v := ?_) rfl (by kernel_rfl) (by kernel_rfl) (by kernel_rfl) (fun _ _ _ h => h) (by rfl) ?_ hHeld ?_
      rotate_left
      · (intro w hSw; (try dsimp only at hSw); go_simp; try with_reducible rfl)
      try simp only [Act.put, List.setIfInBounds_toArray, List.set_cons_zero, List.set_cons_succ]
      refine takeH 3 (v := ?_) rfl (by kernel_rfl) (by kernel_rfl) (by kernel_rfl) (fun _ _ _ h => h) (by rfl) ?_ hHeld ?_
      rotate_left
      · (intro w hSw; (try dsimp only at hSw); go_simp; try with_reducible rfl)
      try simp only [Act.put, List.setIfInBounds_toArray, List.set_cons_zero, List.set_cons_succ]
      refine takeH 4 (v := ?_) rfl (by kernel_rfl) (by kernel_rfl) (by kernel_rfl) (fun _ _ _ h => h) (by rfl) ?_ hHeld ?_
      rotate_left
      · (intro w hSw; (try dsimp only at hSw); go_simp; try with_reducible rfl)
      try simp only [Act.put, List.setIfInBounds_toArray, List.set_cons_zero, List.set_cons_succ]
      refine takeH 5 (v := ?_) rfl (by kernel_rfl) (by kernel_rfl) (by kernel_rfl) (fun _ _ _ h => h) (by rfl) ?_ hHeld ?_
      rotate_left
      · (intro w hSw; (try dsimp only at hSw); go_simp; try with_reducible rfl)
      try simp only [Act.put, List.setIfInBounds_toArray, List.set_cons_zero, List.set_cons_succ]
      refine takeH 6 (v := ?_) rfl (by kernel_rfl) (by kernel_rfl) (by kernel_rfl) (fun _ _ _ h => h) (by rfl) ?_ hHeld ?_
      rotate_left
      · (intro w hSw; (try dsimp only at hSw); go_simp; try with_reducible rfl)
      try simp only [Act.put, List.setIfInBounds_toArray, List.set_cons_zero, List.set_cons_succ]
      refine takeH 7 (v := ?_) rfl (by kernel_rfl) (by kernel_rfl) (by kernel_rfl) (fun _ _ _ h => h) (by rfl) ?_ hHeld ?_
      rotate_left
      · (intro w hSw; (try dsimp only at hSw); go_simp; try with_reducible rfl)
      try simp only [Act.put, List.setIfInBounds_toArray, List.set_cons_zero, List.set_cons_succ]
      refine takeH 8 (v := ?_) rfl (by kernel_rfl) (by kernel_rfl) (by kernel_rfl) (fun _ _ _ h => h) (by rfl) ?_ hHeld ?_
      rotate_left
      · (intro w hSw; (try dsimp only at hSw); go_simp; try with_reducible rfl)
      try simp only [Act.put, List.setIfInBounds_toArray, List.set_cons_zero, List.set_cons_succ]
      refine takeH 9 (v := ?_) rfl (by kernel_rfl) (by kernel_rfl) (by kernel_rfl) (fun _ _ _ h => h) (by rfl) ?_ hHeld ?_
      rotate_left
      · (intro w hSw; (try dsimp only at hSw); go_simp; try with_reducible rfl)
      try simp only [Act.put, List.setIfInBounds_toArray, List.set_cons_zero, List.set_cons_succ]
      refine takeH 10 (v := ?_) rfl (by kernel_rfl) (by kernel_rfl) (by kernel_rfl) (fun _ _ _ h => h) (by rfl) ?_ hHeld ?_
      rotate_left
      · (intro w hSw; (try dsimp only at hSw); go_simp; try with_reducible rfl)
      try simp only [Act.put, List.setIfInBounds_toArray, List.set_cons_zero, List.set_cons_succ]
      refine takeH 11 (v := ?_) rfl (by kernel_rfl) (by kernel_rfl) (by kernel_rfl) (fun _ _ _ h => h) (by rfl) ?_ hHeld ?_
      rotate_left
      · (intro w hSw; (try dsimp only at hSw); go_simp; try with_reducible rfl)
      try simp only [Act.put, List.setIfInBounds_toArray, List.set_cons_zero, List.set_cons_succ]
      refine takeH 12 (v := ?_) rfl (by kernel_rfl) (by kernel_rfl) (by kernel_rfl) (fun _ _ _ h => h) (by rfl) ?_ hHeld ?_
      rotate_left
      · (intro w hSw; (try dsimp only at hSw); go_simp; try with_reducible rfl)
      try simp only [Act.put, List.setIfInBounds_toArray, List.set_cons_zero, List.set_cons_succ]
      refine takeH 13 (v := ?_) rfl (by kernel_rfl) (by kernel_rfl) (by kernel_rfl) (fun _ _ _ h => h) (by rfl) ?_ hHeld ?_
      rotate_left
      · (intro w hSw; (try dsimp only at hSw); go_simp; try with_reducible rfl)
      try simp only [Act.put, List.setIfInBounds_toArray, List.set_cons_zero, List.set_cons_succ]
      refine takeH 14 (v := ?_) rfl (by kernel_rfl) (by kernel_rfl) (by kernel_rfl) (fun _ _ _ h => h) (by rfl) ?_ hHeld ?_
      rotate_left
      · (intro w hSw; (try dsimp only at hSw); go_simp; try with_reducible rfl)
      try simp only [Act.put, List.setIfInBounds_toArray, List.set_cons_zero, List.set_cons_succ]
      refine oneH 15 (by kernel_rfl) rfl (fun K hK => ?_)
      go_simp
      go_at_call 84
      refine (HLE.out _).mono ?_
      rintro e w9 ⟨rfl, hw9⟩
      obtain rfl := hw9.symm
      dsimp only
      refine hK.out _ _ hHeld (fun hHeld => ?_)
      clear hK K
      try simp only [Act.put, List.setIfInBounds_toArray, List.set_cons_zero, List.set_cons_succ]
      refine takeH 16 (v := ?_) rfl (by kernel_rfl) (by kernel_rfl) (by kernel_rfl) (fun _ _ _ h => h) (by rfl) ?_ hHeld ?_
      rotate_left
      · (intro w hSw; (try dsimp only at hSw); go_simp; try with_reducible rfl)
      try simp only [Act.put, List.setIfInBounds_toArray, List.set_cons_zero, List.set_cons_succ]
      refine takeH 17 (v := ?_) rfl (by kernel_rfl) (by kernel_rfl) (by kernel_rfl) (fun _ _ _ h => h) (by rfl) ?_ hHeld ?_
      rotate_left
      · (intro w hSw; (try dsimp only at hSw); go_simp; try with_reducible rfl)
      try simp only [Act.put, List.setIfInBounds_toArray, List.set_cons_zero, List.set_cons_succ]
      refine oneH 18 (by kernel_rfl) rfl (fun K hK => ?_)
      go_simp
      refine hK.out _ _ ⟨K1.out, K2.out, K3.out, K4.out, K5.out⟩ (fun hHeld => ?_)
      clear hK K
      try simp only [Act.put, List.setIfInBounds_toArray, List.set_cons_zero, List.set_cons_succ]
      refine wpAnyH_done (by kernel_rfl) ?_ _
      refine NoPanic.normal ?_
      have G1 : Hid (RQ (wr.drew.setCell ⟨wb, v, none⟩ (.string Y)) w.heap.size b2 b3 b4 (wb + 1) ob wb n k rv T) := Lib.hid (RQ.put (W := wr.drew) (show RQ wr.drew w.heap.size b2 b3 b4 (wb + 1) ob wb n k rv T from ⟨HRQ.out.ne, HRQ.out.box, HRQ.out.c2, HRQ.out.c3, HRQ.out.c4, HRQ.out.c5, HRQ.out.tree⟩) v (.string Y))
      have G2 : Hid (Blk (wr.drew.setCell ⟨wb, v, none⟩ (.string Y)) wb 9 (tabV (fun s => .string (strB (wayT T (v + 1) s))) n)) := Lib.hid (by rw [← HSET.out]; exact Blk.set (w := wr.drew) HW.out v (.string Y))
      have G3 : Hid (Below w.heap.size w (wr.drew.setCell ⟨wb, v, none⟩ (.string Y))) := Lib.hid ((HBB.out.trans ((Below.refl _ _).drewN' 1)).setCell (p := ⟨wb, v, none⟩) hwbw _)
      have G4 : Hid (wb + 1 < (wr.drew.setCell ⟨wb, v, none⟩ (.string Y)).heap.size) := Lib.hid (by have := HWL.out; simpa using this)
      clear c4 c5 ct1 ct2 cw cv fv cv' fv' hHeld
      go_wp2_with fail
      go_roundw
      case rel => exact ⟨v + 1, by omega, by omega, by go_num, G1, G2, G3, G4⟩
      case measure => simp [intOf]; omega
    · obtain rfl : v = n := by omega
      have hmm := @run_makeMap Try.prog
      have hc2 := (HRQ.out.c2.alloc (.map #[] 0)).cell (j := 0) rfl
      have fc2 := (HRQ.out.c2.alloc (.map #[] 0)).free 0
      have hb4 : Below wr.heap.size wr (wr.alloc (.map #[] 0)) := (Below.refl _ _).alloc (Nat.le_refl _) _
      obtain ⟨mb, hmb⟩ : ∃ mb, wr.heap.size = mb := ⟨_, rfl⟩
      have hb23 : b3 = b2 + 1 := hb3e.symm
      have hbw : b2 = w.heap.size + 1 := hb2e.symm
      have hne := HRQ.out.ne
      have l2 := HRQ.out.c2.lt
      have l3 := HRQ.out.c3.lt
      have l4 := HRQ.out.c4.lt
      have l5 := HRQ.out.c5.lt
      have lo := HRQ.out.tree.lt
      have lw := HW.out.lt
      have n24 : b2 ≠ b4 := by
        intro e
        have q1 := HRQ.out.c2
        have q2 := HRQ.out.c4
        rw [e] at q1
        unfold Blk at q1 q2
        rw [q1] at q2
        simp at q2
      have n2o : b2 ≠ ob := by
        intro e
        have q1 := HRQ.out.c2
        have q2 := HRQ.out.tree
        rw [e] at q1
        unfold Blk at q1 q2
        rw [q1] at q2
        simp at q2
      have n25 : b2 ≠ wb + 1 := by omega
      have HORX : Hid (b4 ≠ b3 ∧ ob ≠ b3) := Lib.hid ⟨by
        intro e
        have q1 := HRQ.out.c3
        have q2 := HRQ.out.c4
        rw [← e] at q1
        unfold Blk at q1 q2
        rw [q1] at q2
        simp at q2, by
        intro e
        have q1 := HRQ.out.c3
        have q2 := HRQ.out.tree
        rw [← e] at q1
        unfold Blk at q1 q2
        rw [q1] at q2
        simp at q2⟩
      obtain ⟨W4, hW4⟩ : ∃ W4, W4 = (wr.alloc (.map #[] 0)).setCell ⟨b2, 0, none⟩ (.map (some mb)) := ⟨_, rfl⟩
      have hfix : FixQ W4 b2 b4 (wb + 1) ob wb mb v T (wayT T v) := by
        rw [hW4]
        exact ⟨(HRQ.out.c2.alloc (.map #[] 0)).set 0 (.map (some mb)), (HRQ.out.c4.alloc _).other (a := ⟨b2, 0, none⟩) (fun e => n24 e.symm) _, (HRQ.out.c5.alloc _).other (a := ⟨b2, 0, none⟩) (fun e => n25 e.symm) _,
          (HRQ.out.tree.alloc _).other (a := ⟨b2, 0, none⟩) (fun e => n2o e.symm) _, (HW.out.alloc _).other (a := ⟨b2, 0, none⟩) (fun e => hne.2.1 e.symm) _⟩
      have hbox : Blk W4 w.heap.size 25 [.int .i64 k, rv] := by rw [hW4]; exact (HRQ.out.box.alloc _).other (a := ⟨b2, 0, none⟩) (by show w.heap.size ≠ b2; omega) _
      have hc3 : Blk W4 b3 22 [.slice none 0 0] := by rw [hW4]; exact (HRQ.out.c3.alloc _).other (a := ⟨b2, 0, none⟩) (by show b3 ≠ b2; omega) _
      have hmap : MapQ W4 mb 0 (fun _ _ => none) := by
        rw [hW4, ← hmb]
        exact (MapQ.new wr).congr (heap_setCell_other (wr.alloc (.map #[] 0)) ⟨b2, 0, none⟩ wr.heap.size _ (by show wr.heap.size ≠ b2; omega))
      have hbel : Below w.heap.size w W4 := by rw [hW4]; exact ((HBB.out.trans (hb4.mono HBB.out.size))).setCell (p := ⟨b2, 0, none⟩) (by show w.heap.size ≤ b2; omega) _
      have hsz : W4.heap.size = mb + 1 := by rw [hW4, ← hmb]; simp
      have HORD0 : Hid (b2 + 1 = b3 ∧ b3 < mb ∧ w.heap.size < b2 ∧ b4 < mb ∧ wb + 1 < mb ∧ ob < mb) := Lib.hid ⟨hb23.symm, by omega, by omega, by omega, by omega, by omega⟩
      have cb0 := hbox.cell (j := 0) rfl
      have cb1 := hbox.cell (j := 1) rfl
      have HFIX := Lib.hid hfix
      have HBOX := Lib.hid hbox
      have HC3 := Lib.hid hc3
      have HMAP := Lib.hid hmap
      have HBEL := Lib.hid hbel
      have HSZ := Lib.hid hsz
      have HMB := Lib.hid hmb
      clear hfix hbox hc3 hmap hbel hsz hb4 hne l2 l3 l4 l5 lo lw n24 n2o n25 hb23 hbw hb2e hb3e
      go_upto_region 8 with fail
      rw [← hW4]
      clear hc2 fc2 hmm hW4 hmb c4
      go_wp2_with (go_at_call 68; refine (edges_plain _ _ _).mono ?_; rintro e w5 ⟨rfl, rfl⟩)
      obtain ⟨s, hs⟩ : ∃ s, W4.heap.size = s := ⟨_, rfl⟩
      have hsm : s = mb + 1 := by rw [← hs]; exact HSZ.out
      have hwss : w.heap.size ≤ s := by rw [← hs]; exact HBEL.out.size
      have hBI : BI w s b2 b3 b4 (wb + 1) ob wb mb v T (wayT T v) (k := k) (g := g) [] (W4.alloc (.cells #[.int .i64 k, rv] 25)) := by
        refine ⟨HFIX.out.map_ fun _ _ _ _ hx => hx.alloc _, ⟨0, HMAP.out.congr ((Below.refl W4.heap.size W4).alloc (Nat.le_refl _) _ |>.block mb HMAP.out.lt), Nat.zero_le _⟩, ⟨.slice none 0 0, HC3.out.alloc _, World.ownsRow_nil _ _ _ _⟩, HBEL.out.alloc HBEL.out.size _, by rw [← hs]; simp⟩
      have hbs : Blk (W4.alloc (.cells #[.int .i64 k, rv] 25)) s 25 [.int .i64 k, rv] := by rw [← hs]; exact Blk.new W4 25 [.int .i64 k, rv]
      have hws : (W4.alloc (.cells #[.int .i64 k, rv] 25)).heap.size = s + 1 := by rw [← hs]; simp
      have hbe : Below w.heap.size w (W4.alloc (.cells #[.int .i64 k, rv] 25)) := HBEL.out.alloc HBEL.out.size _
      rw [hs]
      obtain ⟨W5, hW5⟩ : ∃ W5, W4.alloc (.cells #[.int .i64 k, rv] 25) = W5 := ⟨_, rfl⟩
      rw [hW5] at hBI hbs hws hbe ⊢
      have hmbs : mb < s := by omega
      have HORD : Hid (b2 + 1 = b3 ∧ b3 < mb ∧ w.heap.size < b2 ∧ b4 < mb ∧ wb + 1 < mb ∧ ob < mb) := Lib.hid HORD0.out
      clear hsm
      clear hW5 hs cb0 cb1 HFIX HBOX HC3 HMAP HBEL HSZ W4 HRQ HW HBB HWL
      refine (wpIn_wide (n := 6)).1 ?_
      refine nameAct (fun A hA => ?_)
      refine wpIn_rangeFunc_ownH rfl (by omega) (gf := 113) (lb := #[.pointer (some ⟨s, 0, none⟩)]) rfl trivial (enters_of Try.func113 (by kernel_rfl) rfl)
        (edges_stops 5 (by omega) s k rv g w W5 HG.out HR.out hbs hbe) (fun h1 h2 => h1.trans h2) (fun W l o o' h1 h2 h3 h4 => belowK_b (w := w) (Nat.le_refl _) W l o o' (by omega) h2 h3 h4) (Below.refl _ _) (fun _ => rfl)
        (fun pre W => BI w s b2 b3 b4 (wb + 1) ob wb mb v T (wayT T v) (k := k) (g := g) pre W) (fun _ _ _ => False) (BI.own _ _ _ _ _ _ _ _ _ _ _ _ _ (by omega) (by omega)) (fun _ _ _ _ _ h _ _ => h.elim) hBI (fun x a' W => AxQ A (s + 1) x a' W) (fun x a' => AxQ.own _ _ _ _ _) ?assign ?body ?done ?stop
      case stop => rintro D c pre W _ _ h _; exact h.elim
      case assign =>
        subst hA
        intro l pre x W K hi hK
        have hfin := hK _ _ ((KeepsOthers.alloc W (.cells #[.int .i64 (x.1.1 : Int), .int .i64 (x.1.2.1 : Int)] 70)).from _) ((Below.refl w.heap.size W).alloc (by have := hi.below.size; omega) _)
          (BI.own w s b2 b3 b4 (wb + 1) ob wb mb v T (wayT T v) (s + 1) (by omega) (by omega) pre W _ none hi ⟨rfl, rfl, rfl, by simp, fun i h _ => Below.heap_alloc W _ i h⟩ (fun r e => by cases e)) ⟨W.heap.size, hi.size, Blk.new W 70 [.int .i64 (x.1.1 : Int), .int .i64 (x.1.2.1 : Int)], rfl⟩
        obtain ⟨⟨f, p, t⟩, hx⟩ := x
        simp only [List.setIfInBounds_toArray, List.set_cons_zero, List.set_cons_succ] at hfin
        have HFIN := Lib.hid hfin
        clear hfin hK hi
        gi_wp2
        exact HFIN.out
      case body =>
        subst hA
        rintro l pre x a' W hl hr hI ⟨Bx, hBx, hbx, rfl⟩ hlt
        obtain ⟨hfix, ⟨nm, hmap, hnm⟩, ⟨lv, hc3, hown⟩, hbel, hszW⟩ := id hI
        obtain ⟨⟨f, p, t⟩, hx⟩ := x
        obtain ⟨hx1, hx2, hx3, hx4, -⟩ := id hx
        simp only at hx1 hx2 hx3 hx4 hbx
        simp only [List.setIfInBounds_toArray, List.set_cons_zero, List.set_cons_succ]
        rw [HN.out] at hx1 hx4
        have e0 := hbx.cell (j := 0) rfl
        have e1 := hbx.cell (j := 1) rfl
        have HI := Lib.hid hI
        have HWS5 := Lib.hid hws
        have HORE : Hid (b4 ≠ b3 ∧ ob ≠ b3 ∧ b3 + 1 < wb) := Lib.hid ⟨HORX.out.1, HORX.out.2, hb3wb⟩
        have HLT := Lib.hid hlt
        clear hr hl hI hbx hws hbe hbs hBI hlt hfix hmap hnm hc3 hown hbel hszW
        gi_upto_region 11 with (fail)
        gi_cut [9, 10] from 49 (fun x y W' => x = .int .i64 f ∧ y = .int .i64 p ∧ W' = W.drew)
        case first =>
          have hmix : Try.prog.follows .mixedOrders = true := by kernel_rfl
          gi_region_with_o (fail)
          all_goals (gi_wp2; gi_meet; exact ⟨rfl, rfl, rfl⟩)
        case rest =>
          obtain ⟨rfl, rfl, rfl⟩ := hcut
          have hI2 := HI.out.drew
          have hk2 := KeepsOthers.drew W
          have hb2 : Below w.heap.size W W.drew := (Below.refl _ _).drewN' 1
          obtain ⟨W2, hW2⟩ : ∃ W2, W.drew = W2 := ⟨_, rfl⟩
          rw [hW2] at hI2 hk2 hb2 ⊢
          obtain ⟨hfix, ⟨nm, hmap, hnm⟩, ⟨lv, hc3, hown⟩, hbel, hszW⟩ := id hI2
          have c4 := hfix.c4.cell (j := 0) rfl
          obtain ⟨tf, tp, htt⟩ : ∃ tf tp, T t = (tf, tp) := ⟨_, _, rfl⟩
          obtain ⟨ff, fp, hff⟩ : ∃ ff fp, T f = (ff, fp) := ⟨_, _, rfl⟩
          have ct1 : W2.cell? ⟨ob, t * 2, none⟩ = some (.int .i64 tf) := by
            have := hfix.tree.cell (tabV_get (pairV T) (show t * 2 < v * 2 by omega))
            rw [pairV_one, htt] at this; exact this
          have ct2 : W2.cell? ⟨ob, t * 2 + 1, none⟩ = some (.int .i64 tp) := by
            have := hfix.tree.cell (tabV_get (pairV T) (show t * 2 + 1 < v * 2 by omega))
            rw [pairV_two, htt] at this; exact this
          have cf1 : W2.cell? ⟨ob, f * 2, none⟩ = some (.int .i64 ff) := by
            have := hfix.tree.cell (tabV_get (pairV T) (show f * 2 < v * 2 by omega))
            rw [pairV_one, hff] at this; exact this
          have cf2 : W2.cell? ⟨ob, f * 2 + 1, none⟩ = some (.int .i64 fp) := by
            have := hfix.tree.cell (tabV_get (pairV T) (show f * 2 + 1 < v * 2 by omega))
            rw [pairV_two, hff] at this; exact this
          have t0 : (0 : Int) ≤ t := by omega
          have t1 : (t : Int) < v := by omega
          have f0 : (0 : Int) ≤ f := by omega
          have f1 : (f : Int) < v := by omega
          have hk4 := HG.out.k4
          have hp8 : p < 8 := by omega
          have hx9 : bits BinOp.xor IntKind.i64 (p : Int) 1 = ((p ^^^ 1 : Nat) : Int) := xor_one_bits hp8
          obtain ⟨q, hq⟩ : ∃ q, p ^^^ 1 = q := ⟨_, rfl⟩
          rw [hq] at hx9
          have HI2 := Lib.hid hI2
          have HK2 := Lib.hid hk2
          have HB2 := Lib.hid hb2
          have HQ := Lib.hid hq
          have HTT := Lib.hid htt
          have HFF := Lib.hid hff
          have hsk : skipT T (f, p, t) = ((decide (t ≠ 0) && decide (tf = f ∧ tp = p)) || (decide (f ≠ 0) && decide (ff = t ∧ fp = q))) := by
            unfold skipT
            simp only [htt, hff, hq, Prod.mk.injEq]
          obtain ⟨SK, hSK⟩ : ∃ SK, skipT T (f, p, t) = SK := ⟨_, rfl⟩
          rw [hSK] at hsk
          have HSK := Lib.hid hSK
          have HSE := Lib.hid hsk
          clear hW2 hI2 hk2 hb2 hq htt hff hfix hmap hnm hc3 hown hbel hszW e0 e1 hsk hSK
          gi_upto_region 12 with (fail)
          gi_cut [79] from 53 (fun x W' => x = .bool SK ∧ W' = W2)
          case first =>
            by_cases hT0 : t = 0
            · subst hT0
              by_cases hF0 : f = 0
              · subst hF0
                gi_wp2
                all_goals (gi_meet; exact ⟨by rw [HSE.out]; refine congrArg Value.bool ?_; rw [Bool.eq_iff_iff]; simp, rfl⟩)
              · have hF1 : (0 : Int) < f := by omega
                gi_wp2
                all_goals (gi_meet; exact ⟨by rw [HSE.out]; refine congrArg Value.bool ?_; rw [Bool.eq_iff_iff]; simp; omega, rfl⟩)
            · have hT1 : (0 : Int) < t := by omega
              by_cases hF0 : f = 0
              · subst hF0
                gi_wp2
                all_goals (gi_meet; exact ⟨by rw [HSE.out]; refine congrArg Value.bool ?_; rw [Bool.eq_iff_iff]; simp; omega, rfl⟩)
              · have hF1 : (0 : Int) < f := by omega
                gi_wp2
                all_goals (gi_meet; exact ⟨by rw [HSE.out]; refine congrArg Value.bool ?_; rw [Bool.eq_iff_iff]; simp; omega, rfl⟩)
          case rest =>
            obtain ⟨rfl, hwc⟩ := hcut
            rw [hwc]
            clear hwc
            cases SK
            · have hI2 := HI2.out
              have hwv : 2 * k < 52 := by omega
              have hTw : ∀ u, (T u).2 < 52 := fun u => by have := (HTB.out u).2; omega
              have hl1 := wayT_len T v t
              have hl2 := wayT_len T v f
              have hd1 := wayT_word T hTw v t
              have hd2 := wayT_word T hTw v f
              obtain ⟨ut, hut⟩ : ∃ u, wayT T v t = u := ⟨_, rfl⟩
              obtain ⟨uf, huf⟩ : ∃ u, wayT T v f = u := ⟨_, rfl⟩
              rw [hut] at hl1 hd1
              rw [huf] at hl2 hd2
              obtain ⟨Bt, hBt⟩ : ∃ B, strB ut = B := ⟨_, rfl⟩
              obtain ⟨A, hA⟩ : ∃ B, strB uf = B := ⟨_, rfl⟩
              have hbB : bts Bt = ut := by rw [← hBt]
              have hsB : Bt.size ≤ 5000 := by rw [← hBt, size_str]; omega
              have hsA : A.size ≤ 5000 := by rw [← hA, size_str]; omega
              have cwt : W2.cell? ⟨wb, t, none⟩ = some (.string Bt) := by rw [← hBt, ← hut]; exact hI2.fix.ways.cell (tabV_get (fun s => Value.string (strB (wayT T v s))) hx4)
              have c5 := hI2.fix.c5.cell (j := 0) rfl
              have hwe : wordErr Bt = 0 := by
                unfold wordErr
                rw [hbB, hd1, if_pos rfl, if_neg (by omega)]
              have hinv := Inverse_any Bt W2 (by omega)
              rw [hwe, if_pos rfl, hbB] at hinv
              obtain ⟨I, hI⟩ : ∃ B, strB (invL ut) = B := ⟨_, rfl⟩
              rw [hI] at hinv
              have hsI : I.size ≤ 5000 := by rw [← hI, size_str, invL_len]; omega
              obtain ⟨L, hL⟩ : ∃ L, strB [letP p] = L := ⟨_, rfl⟩
              have hLs : L.size = 1 := by rw [← hL]; rfl
              obtain ⟨Y, hY⟩ : ∃ Y, A ++ L = Y := ⟨_, rfl⟩
              obtain ⟨Z, hZ⟩ : ∃ Z, Y ++ I = Z := ⟨_, rfl⟩
              have hYs : Y.size = A.size + 1 := by rw [← hY, ByteArray.size_append, hLs]
              have hZb : bts Z = uf ++ [letP p] ++ invL ut := by
                rw [← hZ, ← hY, bts_add, bts_add, ← hA, ← hL, ← hI]
              have hZs : Z.size ≤ 10001 := by rw [← hZ, ByteArray.size_append, hYs]; omega
              have hno1 : ¬ 9223372036854775807 < A.size + 1 := by omega
              have hno2 : ¬ 9223372036854775807 < A.size + 1 + I.size := by omega
              have hdZ : isWord (bts Z) = true := by
                rw [hZb]
                unfold isWord at *
                rw [List.all_append, List.all_append, hd2]
                have h1 : ((invL ut).all fun c => letter c.toNat) = true := isWord_inv hd1
                rw [h1]
                simp only [List.all_cons, List.all_nil, Bool.and_true, Bool.true_and]
                exact letP_letter _ (by omega)
              have hweZ : wordErr Z = 0 := by
                unfold wordErr
                rw [hdZ, if_pos rfl, if_neg (by omega)]
              obtain ⟨Wd, hWd⟩ : ∃ B, strB (wordQ (wayT T v) (f, p, t)) = B := ⟨_, rfl⟩
              have hrd : ∀ wx, Calls Try.prog 119 #[.string Z] wx fun e w' => e = .returned (.tuple #[.string Wd, .int .i64 0]) ∧ Below wx.heap.size wx w' := fun wx => by
                have := Reduce_any Z wx (by omega)
                rw [hweZ, if_pos rfl, hZb] at this
                rw [← hWd]
                unfold wordQ
                rw [huf, hut]
                exact this
              have hle : ∀ wx, Calls Try.prog 84 #[.int .i64 p] wx fun e w' => e = .returned (.string L) ∧ w' = wx := fun wx => by
                have := letter_any wx p hp8
                rw [hL] at this
                exact this
              have HWD := Lib.hid hWd
              have HRD := Lib.hid hrd
              have HLE := Lib.hid hle
              have HINV := Lib.hid hinv
              have HAA : Hid (∀ wx, Below W2.heap.size W2 wx → wx.cell? ⟨wb, f, none⟩ = some (.string A)) := Lib.hid (fun wx hb => by rw [← hA, ← huf]; exact (hI2.fix.ways.keep hb).cell (tabV_get (fun s => Value.string (strB (wayT T v s))) hx1))
              have HCat : Hid (A ++ L = Y ∧ Y ++ I = Z) := Lib.hid ⟨hY, hZ⟩
              clear hI2 hl1 hl2 hd1 hd2 hut huf hBt hA hbB hwe hinv hI hL hZb hdZ hweZ hWd hrd hle ct1 ct2 cf1 cf2 hTw hY hZ hZs
              gi_upto_region 14 with (refine ⟨trivial, ?_⟩; gi_at_call 118; refine (CallsIn.inRound l (callsIn_wide.2 HINV.out)).mono ?_; rintro e w3 ⟨rfl, hb3⟩)
              have HX5 := Lib.hid (HI2.out.fix.c5.keep hb3)
              have c5 := HX5.out.cell (j := 0) rfl
              have cwf := HAA.out w3 hb3
              obtain ⟨hcat1, hcat2⟩ := HCat.out
              have HB3 := Lib.hid hb3
              clear hb3 cwt c4
              gi_cut [13, 14] from 80 (fun x y W' => x = .string Wd ∧ Hid (KeepsOthers w3 W') ∧ Hid (Below w3.heap.size w3 W'))
              case first =>
                refine region_round (S := fun w' => w'.cell? ⟨wb + 1, 0, none⟩ = some (.slice (some ⟨wb, 0, none⟩) v v) ∧ w'.cell? ⟨wb, f, none⟩ = some (.string A)) (by kernel_rfl) (by rfl) ⟨c5, cwf⟩ (fun hHeld => ?_)
                refine takeH 0 (v := ?_) rfl (by kernel_rfl) (by kernel_rfl) (by kernel_rfl) (fun _ _ _ h => h) (by rfl) ?_ hHeld ?_
                rotate_left
                · (intro w hSw; (try dsimp only at hSw); go_simp; try with_reducible rfl)
                try simp only [Act.put, List.setIfInBounds_toArray, List.set_cons_zero, List.set_cons_succ]
                refine takeH 1 (v := ?_) rfl (by kernel_rfl) (by kernel_rfl) (by kernel_rfl) (fun _ _ _ h => h) (by rfl) ?_ hHeld ?_
                rotate_left
                · (intro w hSw; (try dsimp only at hSw); go_simp; try with_reducible rfl)
                try simp only [Act.put, List.setIfInBounds_toArray, List.set_cons_zero, List.set_cons_succ]
                refine takeH 2 (v := ?_) rfl (by kernel_rfl) (by kernel_rfl) (by kernel_rfl) (fun _ _ _ h => h) (by rfl) ?_ hHeld ?_
                rotate_left
                · (intro w hSw; (try dsimp only at hSw); go_simp; try with_reducible rfl)
                try simp only [Act.put, List.setIfInBounds_toArray, List.set_cons_zero, List.set_cons_succ]
                refine takeH 3 (v := ?_) rfl (by kernel_rfl) (by kernel_rfl) (by kernel_rfl) (fun _ _ _ h => h) (by rfl) ?_ hHeld ?_
                rotate_left
                · (intro w hSw; (try dsimp only at hSw); go_simp; try with_reducible rfl)
                try simp only [Act.put, List.setIfInBounds_toArray, List.set_cons_zero, List.set_cons_succ]
                refine takeH 4 (v := ?_) rfl (by kernel_rfl) (by kernel_rfl) (by kernel_rfl) (fun _ _ _ h => h) (by rfl) ?_ hHeld ?_
                rotate_left
                · (intro w hSw; (try dsimp only at hSw); go_simp; try with_reducible rfl)
                try simp only [Act.put, List.setIfInBounds_toArray, List.set_cons_zero, List.set_cons_succ]
                refine takeH 7 (v := ?_) rfl (by kernel_rfl) (by kernel_rfl) (by kernel_rfl) (fun _ _ _ h => h) (by rfl) ?_ hHeld ?_
                rotate_left
                · (intro w hSw; (try dsimp only at hSw); go_simp; try with_reducible rfl)
                try simp only [Act.put, List.setIfInBounds_toArray, List.set_cons_zero, List.set_cons_succ]
                refine oneH 5 (by kernel_rfl) rfl (fun K hK => ?_)
                go_simp
                go_at_call 84
                refine (HLE.out _).mono ?_
                rintro e w9 ⟨rfl, hw9⟩
                obtain rfl := hw9.symm
                dsimp only
                refine hK.out _ _ hHeld (fun hHeld => ?_)
                clear hK K
                try simp only [Act.put, List.setIfInBounds_toArray, List.set_cons_zero, List.set_cons_succ]
                refine takeH 6 (v := ?_) rfl (by kernel_rfl) (by kernel_rfl) (by kernel_rfl) (fun _ _ _ h => h) (by rfl) ?_ hHeld ?_
                rotate_left
                · (intro w hSw; (try dsimp only at hSw); go_simp; try with_reducible rfl)
                try simp only [Act.put, List.setIfInBounds_toArray, List.set_cons_zero, List.set_cons_succ]
                refine takeH 8 (v := ?_) rfl (by kernel_rfl) (by kernel_rfl) (by kernel_rfl) (fun _ _ _ h => h) (by rfl) ?_ hHeld ?_
                rotate_left
                · (intro w hSw; (try dsimp only at hSw); go_simp; try with_reducible rfl)
                try simp only [Act.put, List.setIfInBounds_toArray, List.set_cons_zero, List.set_cons_succ]
                refine oneH 9 (by kernel_rfl) rfl (fun K hK => ?_)
                go_simp
                go_at_call 119
                refine (HRD.out _).mono ?_
                rintro e w9 ⟨rfl, hb9⟩
                have hb9' : Below w3.heap.size w3 w9 := ((Below.refl _ w3).drewN' 1).trans (by exact hb9)
                dsimp only
                refine hK.out _ _ ⟨(HX5.out.keep hb9').cell (j := 0) rfl, HAA.out w9 (HB3.out.trans (hb9'.mono HB3.out.size))⟩ (fun hHeld => ?_)
                clear hK K
                try simp only [Act.put, List.setIfInBounds_toArray, List.set_cons_zero, List.set_cons_succ]
                refine takeH 10 (v := ?_) rfl (by kernel_rfl) (by kernel_rfl) (by kernel_rfl) (fun _ _ _ h => h) (by rfl) ?_ hHeld ?_
                rotate_left
                · (intro w hSw; (try dsimp only at hSw); go_simp; try with_reducible rfl)
                try simp only [Act.put, List.setIfInBounds_toArray, List.set_cons_zero, List.set_cons_succ]
                refine takeH 11 (v := ?_) rfl (by kernel_rfl) (by kernel_rfl) (by kernel_rfl) (fun _ _ _ h => h) (by rfl) ?_ hHeld ?_
                rotate_left
                · (intro w hSw; (try dsimp only at hSw); go_simp; try with_reducible rfl)
                try simp only [Act.put, List.setIfInBounds_toArray, List.set_cons_zero, List.set_cons_succ]
                refine takeH 12 (v := ?_) rfl (by kernel_rfl) (by kernel_rfl) (by kernel_rfl) (fun _ _ _ h => h) (by rfl) ?_ hHeld ?_
                rotate_left
                · (intro w hSw; (try dsimp only at hSw); go_simp; try with_reducible rfl)
                try simp only [Act.put, List.setIfInBounds_toArray, List.set_cons_zero, List.set_cons_succ]
                refine takeH 13 (v := ?_) rfl (by kernel_rfl) (by kernel_rfl) (by kernel_rfl) (fun _ _ _ h => h) (by rfl) ?_ hHeld ?_
                rotate_left
                · (intro w hSw; (try dsimp only at hSw); go_simp; try with_reducible rfl)
                try simp only [Act.put, List.setIfInBounds_toArray, List.set_cons_zero, List.set_cons_succ]
                refine takeH 14 (v := ?_) rfl (by kernel_rfl) (by kernel_rfl) (by kernel_rfl) (fun _ _ _ h => h) (by rfl) ?_ hHeld ?_
                rotate_left
                · (intro w hSw; (try dsimp only at hSw); go_simp; try with_reducible rfl)
                try simp only [Act.put, List.setIfInBounds_toArray, List.set_cons_zero, List.set_cons_succ]
                refine wpAnyH_done (by kernel_rfl) ?_ _
                simp only [OnlyN]
                gi_wp2
                gi_meet
                exact ⟨rfl, Lib.hid (keeps_below hb9'), Lib.hid hb9'⟩
              case rest =>
                obtain ⟨rfl, HK4, HB4⟩ := hcut
                have hord := HORD.out
                have hI4 := (HI2.out.keep HB3.out).keep HB4.out
                obtain ⟨hfix, ⟨nm, hmap, hnm⟩, ⟨lv, hc3, hown⟩, hbel, hszW⟩ := hI4
                obtain ⟨la, lc, rfl, -, -⟩ := row_shapeV hown
                obtain ⟨ws, hws⟩ : ∃ ws, wordsQ T (wayT T v) (pre.map (·.1)) = ws := ⟨_, rfl⟩
                obtain ⟨c, hc⟩ : ∃ c, ws.length = c := ⟨_, rfl⟩
                obtain ⟨M, hM⟩ : ∃ M, mapQ T (pre.map (·.1)) = M := ⟨_, rfl⟩
                have hMc : M.1 = c := by rw [← hM, mapQ_len T (wayT T v), hws, hc]
                have hcl : c ≤ pre.length := by
                  have := wordsQ_len T (wayT T v) (pre.map (·.1))
                  rw [hws, hc, List.length_map] at this
                  exact this
                have hlt9 := HLT.out
                rw [hws, hc] at hown hc3
                rw [hM] at hmap
                have cv3 := hc3.cell (j := 0) rfl
                obtain ⟨i0, hi, hz0, hz1, hz2⟩ := info_parts Try.info9
                have HI0 := Lib.hid hi
                have HZ0 := Lib.hid hz0
                have HZ1 := Lib.hid hz1
                have HZ2 := Lib.hid hz2
                have HOWN := Lib.hid hown
                have HFIX := Lib.hid hfix
                have HMAP := Lib.hid hmap
                have HC3 := Lib.hid hc3
                have HBEL := Lib.hid hbel
                have HWSS := Lib.hid hws
                have HCC := Lib.hid hc
                have HMM := Lib.hid hM
                have HMC := Lib.hid hMc
                have HNM := Lib.hid hnm
                have HSW := Lib.hid hszW
                clear hi hz0 hz1 hz2 hown hfix hmap hc3 hbel hws hc hM hMc hnm c5 cwf hcat1 hcat2
                gi_wp2_with (gi_at_builtin; refine wpListIn_append_own _ rfl _ _ 22 rfl (s + 1) 9 i0 (.string ⟨#[]⟩) 1 16 Try.underlying22 HI0.out HZ0.out HZ1.out HZ2.out (by rfl) (by decide) _ _ _ rfl (World.ownsRow.alloc HOWN.out _) ⟨wc.heap.size, 0, none⟩ 1 1 [.string Wd] rfl (by rfl) ?c1 ?c5 ?c2 ?c3 ?c4 ?_)
                case c1 => intro j u hj; rw [Addr.add_mid]; exact (Blk.new wc 9 [.string Wd]).range j u hj
                case c5 => intro u hu; rw [List.mem_singleton.1 hu]; rfl
                case c2 => unfold maxLen; omega
                case c3 => omega
                case c4 => have := HSW.out; simp; omega
                intro v5 w5 hown5 hgrow5 hne5
                obtain ⟨g5, c5, rfl⟩ : ∃ g5 c5, v5 = .slice (some ⟨g5, 0, none⟩) (c + 1) c5 := by
                  rcases hown5.2 with ⟨rfl, _⟩ | ⟨g3, cap, cur, hv, _⟩
                  · exact absurd rfl hne5
                  · exact ⟨g3, cap, hv⟩
                have hown0 := World.ownsRow.alloc HOWN.out (.cells [.string Wd].toArray 9)
                have hrow : ∀ i, i ≤ s → some i ≠ (Value.slice la c lc).ownBlock := fun i hi e => by
                  have := (own_block_cells HOWN.out e.symm).1
                  omega
                have hrow5 : ∀ i, i ≤ s → some i ≠ (Value.slice (some ⟨g5, 0, none⟩) (c + 1) c5).ownBlock := fun i hi e => by
                  have := (own_block_cells hown5 e.symm).1
                  omega
                have hfix5 : FixQ w5 b2 b4 (wb + 1) ob wb mb v T (wayT T v) := HFIX.out.map_ fun i e vs hi hx => (hx.alloc _).grown hgrow5 (hrow i (by rcases hi with rfl | rfl | rfl | rfl | rfl <;> omega))
                have hc35 : Blk w5 b3 22 [.slice la c lc] := (HC3.out.alloc _).grown hgrow5 (hrow b3 (by omega))
                have hmap5 : MapQ w5 mb nm M.2 := HMAP.out.congr ((hgrow5.block mb (by have := HMAP.out.lt; simp; omega) (hrow mb (by omega))).trans (Below.heap_alloc wc _ mb HMAP.out.lt))
                have hbel5 : Below w.heap.size w w5 := (HBEL.out.alloc HBEL.out.size _).grown hgrow5 (by have := HBEL.out.size; simp; omega) (fun j hj => by have := (own_block_cells HOWN.out hj).1; omega)
                have hk5 : KeepsOthers wc w5 := (KeepsOthers.alloc wc _).trans (KeepsOthers.of_grownBy hgrow5 fun _ _ hj ho => by
                  obtain ⟨_, o', ho', hc'⟩ := own_block_cells hown0 hj
                  rw [ho] at ho'; cases ho'; exact hc')
                have hbw5 : Below w.heap.size wc w5 := ((Below.refl w.heap.size wc).alloc HBEL.out.size _).grown hgrow5 (by have := HBEL.out.size; simp; omega) (fun j hj => by have := (own_block_cells HOWN.out hj).1; omega)
                obtain ⟨V1, hV1⟩ : ∃ V1, w5.setCell ⟨b3, 0, none⟩ (.slice (some ⟨g5, 0, none⟩) (c + 1) c5) = V1 := ⟨_, rfl⟩
                have hfix1 : FixQ V1 b2 b4 (wb + 1) ob wb mb v T (wayT T v) := by
                  rw [← hV1]
                  refine ⟨hfix5.c2.other (a := ⟨b3, 0, none⟩) (by show b2 ≠ b3; omega) _, hfix5.c4.other (a := ⟨b3, 0, none⟩) ?_ _, hfix5.c5.other (a := ⟨b3, 0, none⟩) ?_ _, hfix5.tree.other (a := ⟨b3, 0, none⟩) ?_ _, hfix5.ways.other (a := ⟨b3, 0, none⟩) ?_ _⟩
                  · exact HORE.out.1
                  · show wb + 1 ≠ b3; have := HORE.out.2.2; omega
                  · exact HORE.out.2.1
                  · show wb ≠ b3; have := HORE.out.2.2; omega
                have hc31 : Blk V1 b3 22 [.slice (some ⟨g5, 0, none⟩) (c + 1) c5] := by rw [← hV1]; exact hc35.set 0 _
                have hmap1 : MapQ V1 mb nm M.2 := by rw [← hV1]; exact hmap5.congr (heap_setCell_other w5 ⟨b3, 0, none⟩ mb _ (by show mb ≠ b3; omega))
                have hown1 : V1.ownsRow (s + 1) 9 1 (.slice (some ⟨g5, 0, none⟩) (c + 1) c5) (c + 1) (strsV ws ++ [.string Wd]) := by
                  rw [← hV1]
                  exact World.ownsRow.kept hown5 (grownBy_setCell' w5 b3 _) (.inr fun e => hrow5 b3 (by omega) e.symm)
                have hbel1 : Below w.heap.size w V1 := by rw [← hV1]; exact hbel5.setCell (p := ⟨b3, 0, none⟩) (by show w.heap.size ≤ b3; omega) _
                have hk1 : KeepsOthers wc V1 := by rw [← hV1]; exact hk5.trans (KeepsOthers.setCell w5 ⟨b3, 0, none⟩ _)
                have hbw1 : Below w.heap.size wc V1 := by rw [← hV1]; exact hbw5.setCell (p := ⟨b3, 0, none⟩) (by show w.heap.size ≤ b3; omega) _
                obtain ⟨N, hN⟩ : ∃ N, c + 1 = N := ⟨_, rfl⟩
                have hnm9 := HNM.out
                have hNI : ((c : Int) + 1) = (N : Int) := by omega
                have hq9 : q ≤ 1000000000 := by
                  have := xor_one_lt k p (by omega) (by omega)
                  rw [HQ.out] at this; omega
                obtain ⟨V2, hu2, hm2, hg2⟩ := hmap1.update (by omega) (x := f) (y := p) (by omega) (by omega) (v := (N : Int)) (WalkArith.wf_i64 (by omega))
                obtain ⟨V3, hu3, hm3, hg3⟩ := hm2.update (by omega) (x := t) (y := q) (by omega) hq9 (v := -(N : Int)) (WalkArith.wf_i64 (by omega))
                have hneg : IntKind.i64.wrap (-(N : Int)) = -(N : Int) := by rw [IntKind.wrap_i64]; omega
                have hneb : ∀ i, i < mb → some i ≠ some mb := fun i hi e => by have := Option.some.inj e; omega
                have hfix2 : FixQ V2 b2 b4 (wb + 1) ob wb mb v T (wayT T v) := hfix1.map_ fun i e vs hi hx => hx.grown hg2 (hneb i (by rcases hi with rfl | rfl | rfl | rfl | rfl <;> omega))
                have hfix3 : FixQ V3 b2 b4 (wb + 1) ob wb mb v T (wayT T v) := hfix2.map_ fun i e vs hi hx => hx.grown hg3 (hneb i (by rcases hi with rfl | rfl | rfl | rfl | rfl <;> omega))
                have hc32 := hc31.grown hg2 (hneb b3 (by omega))
                have hc33 := hc32.grown hg3 (hneb b3 (by omega))
                have hown2 := World.ownsRow.kept hown1 hg2 (.inr fun e => hrow5 mb (by omega) e.symm)
                have hown3 := World.ownsRow.kept hown2 hg3 (.inr fun e => hrow5 mb (by omega) e.symm)
                have hbel3 : Below w.heap.size w V3 := (hbel1.grown hg2 hbel1.size (fun j e => by cases e; omega)).grown hg3 (by have := hbel1.size; have := hg2.size; omega) (fun j e => by cases e; omega)
                have hbw3 : Below w.heap.size wc V3 := (hbw1.grown hg2 hbel1.size (fun j e => by cases e; omega)).grown hg3 (by have := hbel1.size; have := hg2.size; omega) (fun j e => by cases e; omega)
                have hk3 : KeepsFrom W5.heap.size wc V3 := ((hk1.from _).trans (KeepsFrom.of_grownBy hg2 fun j e => by cases e; rw [HWS5.out]; omega)).trans (KeepsFrom.of_grownBy hg3 fun j e => by cases e; rw [HWS5.out]; omega)
                have hBI : BI w s b2 b3 b4 (wb + 1) ob wb mb v T (wayT T v) (pre ++ [(⟨(f, p, t), hx⟩ : EdG k g)]) V3 := by
                  have e1 : (mapQ T ((pre ++ [(⟨(f, p, t), hx⟩ : EdG k g)]).map (·.1))).2 = putQ N (f, p, t) M.2 := by
                    rw [List.map_append, List.map_cons, List.map_nil, mapQ_snoc, HMM.out]
                    unfold stepQ
                    rw [if_neg (by rw [HSK.out]; decide), HMC.out, hN]
                  have e2 : wordsQ T (wayT T v) ((pre ++ [(⟨(f, p, t), hx⟩ : EdG k g)]).map (·.1)) = ws ++ [wordQ (wayT T v) (f, p, t)] := by
                    rw [List.map_append, List.map_cons, List.map_nil, wordsQ_snoc, HWSS.out, if_neg (by rw [HSK.out]; decide)]
                  have e3 : strsV (ws ++ [wordQ (wayT T v) (f, p, t)]) = strsV ws ++ [.string Wd] := by
                    unfold strsV
                    rw [List.map_append, List.map_cons, List.map_nil, HWD.out]
                  refine ⟨hfix3, ⟨nm + 1 + 1, ?_, by rw [List.length_append, List.length_singleton]; omega⟩, ⟨_, hc33, ?_⟩, hbel3, ?_⟩
                  · rw [e1]
                    have e4 : putQ N (f, p, t) M.2 = fun x y => if (x, y) = (t, q) then some (-(N : Int)) else if (x, y) = (f, p) then some (N : Int) else M.2 x y := by
                      unfold putQ
                      rw [HQ.out]
                    rw [e4]
                    exact hm3
                  · rw [e2, e3, List.length_append, HCC.out]
                    exact hown3
                  · have h1 := HSW.out
                    have h2 := hbw3.size
                    omega
                have c2' := hfix1.c2.cell (j := 0) rfl
                have c3' := hc31.cell (j := 0) rfl
                have d2' := hfix2.c2.cell (j := 0) rfl
                have d3' := hc32.cell (j := 0) rfl
                have cv5 := hc35.cell (j := 0) rfl
                have fv5 := hc35.free 0
                have HFIN := Lib.hid (And.intro hk3 (And.intro hbw3 hBI))
                clear hown0 hrow hrow5 hfix5 hc35 hmap5 hbel5 hk5 hbw5 hfix1 hc31 hmap1 hown1 hbel1 hk1 hbw1 hm2 hg2 hm3 hg3 hneb hfix2 hfix3 hc32 hc33 hown2 hown3 hbel3 hbw3 hk3 hBI hown5 hgrow5 hne5 hN cv3
                gi_wp2
                refine ⟨(((HK2.out.from _).trans ((keeps_below HB3.out).from _)).trans (HK4.out.from _)).trans HFIN.out.1, ?_, HFIN.out.2.2⟩
                have h2 := HI2.out.below.size
                have h1 := HI.out.below.size
                exact (((HB2.out.mono (by omega)).trans (HB3.out.mono h2)).trans (HB4.out.mono (by have := HB3.out.size; omega))).trans HFIN.out.2.1
            · gi_wp2
              exact ⟨HK2.out.from _, (HB2.out.mono (by have := HI.out.below.size; omega)), HI2.out.skip (x := ⟨(f, p, t), hx⟩) HSK.out⟩
      case done =>
        subst hA
        rintro D xs W hD hxs hI hK
        obtain ⟨hfix, ⟨nm, hmap, hnm⟩, ⟨lv, hc3, hown⟩, hbel, hszW⟩ := hI
        rw [hxs] at hmap hown
        obtain ⟨la, lc, rfl, -, -⟩ := row_shapeV hown
        obtain ⟨M, hM⟩ : ∃ M, (mapQ T (edgesTo k g g.length 0)).2 = M := ⟨_, rfl⟩
        have hnn := HN.out
        obtain ⟨ws, hws2⟩ : ∃ ws, wordsQ T (wayT T v) (edgesTo k g g.length 0) = ws := ⟨_, rfl⟩
        rw [hM] at hmap
        rw [hws2] at hown hc3
        have hf0 : FinQ w s b2 b3 mb nm D (.slice la ws.length lc) M ws W.drew := ⟨hfix.c2, hc3, hmap, hown, hbel.trans ((Below.refl _ _).drewN' 1), hK⟩
        have n23 := HORD.out
        have hD2 : W5.heap.size ≤ D := hD
        have hf1 := hf0.put2 (by omega) (by omega) (by omega) (by omega) (by omega)
        have hf2 := hf0.put3 (by omega) (by omega) (by omega) (by omega) (by omega)
        have p2 := hf1.c2.cell (j := 0) rfl
        have p3 := hf1.c3.cell (j := 0) rfl
        have p4 := hf1.c3.free 0
        have r2 := hf2.c2.cell (j := 0) rfl
        have r3 := hf2.c3.cell (j := 0) rfl
        have r4 := hf2.c2.free 0
        have q2 := hf0.c2.cell (j := 0) rfl
        have q3 := hf0.c3.cell (j := 0) rfl
        have f2 := hf0.c2.free 0
        have f3 := hf0.c3.free 0
        have u2 : W.cell? ⟨b2, 0, none⟩ = some (.map (some mb)) := q2
        have u3 : W.cell? ⟨b3, 0, none⟩ = some (.slice la ws.length lc) := q3
        have g2 : W.frozen? ⟨b2, 0, none⟩ = false := f2
        have g3 : W.frozen? ⟨b3, 0, none⟩ = false := f3
        clear hf1 hf2
        have hfA := (hf0.put2 (by omega) (by omega) (by omega) (by omega) (by omega)).put3 (by omega) (by omega) (by omega) (by omega) (by omega)
        have hfB := (hf0.put3 (by omega) (by omega) (by omega) (by omega) (by omega)).put2 (by omega) (by omega) (by omega) (by omega) (by omega)
        have hend : ∀ V, FinQ w s b2 b3 mb nm D (.slice la ws.length lc) M ws V → V.heap[D]? = some (.deferred (some [])) ∧ (V.putObj D (.deferred none)).cell? ⟨b2, 0, none⟩ = some (.map (some mb)) ∧ (V.putObj D (.deferred none)).cell? ⟨b3, 0, none⟩ = some (.slice la ws.length lc) ∧ MapQ (V.putObj D (.deferred none)) mb nm M ∧ (V.putObj D (.deferred none)).ownsRow w.heap.size 9 1 (.slice la ws.length lc) ws.length (strsV ws) ∧ Below w.heap.size w (V.putObj D (.deferred none)) := by
          intro V hV
          have hg := grownBy_putObj' V D (.deferred none)
          have hr : ∀ r, some D = some r → ∃ o : Obj, V.heap[r]? = some o ∧ o.isCells = false := fun r e => by cases e; exact ⟨_, hV.rec_, rfl⟩
          refine ⟨hV.rec_, (hV.c2.ownQ hg hr).cell (j := 0) rfl, (hV.c3.ownQ hg hr).cell (j := 0) rfl, hV.map.congr (hg.block mb hV.map.lt (fun e => by have := Option.some.inj e; omega)), ownsRow_mono (World.ownsRow.kept hV.own hg ?_) (by omega), hV.below.trans (belowK_b (w := w) (Nat.le_refl _) V D _ _ (by omega) hV.rec_ rfl rfl)⟩
          cases hv : (Value.slice la ws.length lc).ownBlock with
          | none => exact .inl rfl
          | some k =>
            refine .inr fun e => ?_
            obtain ⟨_, o, ho, hc⟩ := own_block_cells hV.own hv
            obtain ⟨o', ho', hc'⟩ := hr k e.symm
            rw [ho] at ho'
            cases ho'
            rw [hc] at hc'
            cases hc'
        have hn23 : b2 ≠ b3 := by omega
        have HEND := Lib.hid hend
        have HFA := Lib.hid hfA
        have HFB := Lib.hid hfB
        have HM := Lib.hid hM
        have HWS2 := Lib.hid hws2
        clear hend hfA hfB hf0 hfix hmap hown hc3 hbel hnm hM hws2 hD hD2 hxs hK n23 hnn hws hbe hbs hBI
        go_upto_region 18 with fail
        go_region
        all_goals
          go_wp2_with fail
          first
            | obtain ⟨hK1, hc2, hc3, hm, ho, hb⟩ := HEND.out _ HFA.out
              refine ⟨by simp, .inl ⟨_, _, rfl, run_takeDeferred hK1, ?_⟩⟩
              refine ⟨_, res70 rfl rfl hc2 hc3, ?_⟩
              refine ⟨mb, nm, _, rfl, ?_, ?_, hb⟩
              · rw [HM.out]; exact hm
              · have h9 := HWS2.out
                rw [HN.out] at h9
                rw [HN.out, h9]; exact ho
            | obtain ⟨hK1, hc2, hc3, hm, ho, hb⟩ := HEND.out _ HFB.out
              refine ⟨by simp, .inl ⟨_, _, rfl, run_takeDeferred hK1, ?_⟩⟩
              refine ⟨_, res70 rfl rfl hc2 hc3, ?_⟩
              refine ⟨mb, nm, _, rfl, ?_, ?_, hb⟩
              · rw [HM.out]; exact hm
              · have h9 := HWS2.out
                rw [HN.out] at h9
                rw [HN.out, h9]; exact ho
end Go.Proofs.Ytlooclpfoeakgaa

/- Basis at a good graph: the walk. -/
namespace Go.Proofs.Ytlooclpfoeakgaa
open Go.RowKit

/-- the words of a graph's basis -/
def basisW (k : Nat) (g : List (List Int)) : List (List UInt8) := wordsQ (treeF g (scanN (2 * k) g.length 0)) (wayT (treeF g (scanN (2 * k) g.length 0)) g.length) (edgesTo k g g.length 0)
set_option maxRecDepth 100000 in
set_option maxHeartbeats 1000000 in
theorem Basis_good (w : World) (k : Nat) (rv : Value) (g : List (List Int)) (h : RowsR w rv g) (hg : GoodG k g) :
    Calls Try.prog 25 #[.agg #[.int .i64 k, rv]] w fun e w' => ∃ v, e = .returned (.tuple #[v, .int .i64 0]) ∧ w'.ownsRow w.heap.size 9 1 v (basisW k g).length (strsV (basisW k g)) ∧ Below w.heap.size w w' := by
  obtain ⟨w1, hw1⟩ : ∃ w1, w1 = w.alloc (.cells #[.int .i64 k, rv] 25) := ⟨_, rfl⟩
  have hb1 : Below w.heap.size w w1 := by rw [hw1]; exact (Below.refl _ w).alloc (Nat.le_refl _) _
  have hx1 : Blk w1 w.heap.size 25 [.int .i64 k, rv] := by rw [hw1]; exact Blk.new w 25 [.int .i64 k, rv]
  have h1 := h.keep hb1
  have hck := Check_good w1 k rv g h1 hg
  have c0 := hx1.cell (j := 0) rfl
  have c1 := hx1.cell (j := 1) rfl
  have hba := fun wx (hb : Below w1.heap.size w1 wx) => basis_any wx k rv g (h1.keep hb) hg
  have HCK := Lib.hid hck
  have HBA := Lib.hid hba
  have HX := Lib.hid hx1
  have HB := Lib.hid hb1
  clear h h1 hck hba hx1 hb1 hg
  go_enter Try.func25, Try.ntmps25
  go_upto_region 1 with fail
  rw [← hw1]
  clear hw1
  go_upto_region 4 with (go_at_call 52; refine HCK.out.mono ?_; rintro e w2 ⟨rfl, hb2⟩)
  have d0 := (HX.out.keep hb2).cell (j := 0) rfl
  have d1 := (HX.out.keep hb2).cell (j := 1) rfl
  have HL := Lib.hid (HBA.out w2 hb2)
  have HB2 := Lib.hid (HB.out.trans (hb2.mono HB.out.size))
  clear hb2 HBA HCK
  go_wp2_with (go_at_call 70; refine HL.out.mono ?_; rintro e w3 ⟨mb, nm, v, rfl, -, ho, hb3⟩; have HO := Lib.hid (ownsRow_mono ho HB2.out.size); have HB3 := Lib.hid (HB2.out.trans (hb3.mono HB2.out.size)); clear hb3 ho)
  go_ret2
  exact ⟨_, rfl, HO.out, HB3.out⟩
end Go.Proofs.Ytlooclpfoeakgaa

/- How many groups of an index there are: the walk of fold.Hall. -/
namespace Go.Proofs.Ytlooclpfoeakgaa
open Go.RowKit

def factN : Nat → Nat
  | 0 => 1
  | n + 1 => factN n * (n + 1)
def powF (k n : Nat) : Int := ((factN n ^ (k - 1) : Nat) : Int)
def sumH (k n : Nat) (c : List Int) : Nat → Int
  | 0 => n * powF k n
  | 1 => n * powF k n
  | i + 2 => sumH k n c (i + 1) - powF k (n - (i + 1)) * c.getD (i + 1) 0
def hallC (k : Nat) : Nat → List Int
  | 0 => [0]
  | n + 1 => hallC k n ++ [sumH k (n + 1) (hallC k n) (n + 1)]
theorem hallC_len (k : Nat) : ∀ n, (hallC k n).length = n + 1
  | 0 => rfl
  | n + 1 => by rw [hallC, List.length_append, hallC_len k n]; rfl
theorem fact_le : ∀ n : Nat, n ≤ 6 → factN n ≤ 720 := by decide
theorem pow_le : ∀ n : Nat, n ≤ 6 → ∀ j, j ≤ 3 → factN n ^ j ≤ 373248000 := by decide +kernel
def okH (k n i : Nat) : Bool := decide (-4000000000000 < sumH k n (hallC k (n - 1)) i) && decide (sumH k n (hallC k (n - 1)) i < 4000000000000) && decide (powF k (n - i) * (hallC k (n - 1)).getD i 0 < 4000000000000) && decide (-4000000000000 < powF k (n - i) * (hallC k (n - 1)).getD i 0)
theorem hall_ok : ∀ k : Nat, k < 5 → ∀ n, n < 7 → ∀ i, i < 7 → okH k n i = true := by decide +kernel

set_option maxRecDepth 100000 in
set_option maxHeartbeats 1000000 in
theorem power_any (w : World) (b k n : Nat) (hb : Blk w b 3 [.int .i64 k]) (hk1 : 1 ≤ k) (hk4 : k ≤ 4) (hn : n ≤ 6) :
    Calls Try.prog 99 #[.int .i64 n, .pointer (some ⟨b, 0, none⟩)] w fun e w' => e = .returned (.int .i64 (powF k n)) ∧ w' = w := by
  have cb := hb.cell (j := 0) rfl
  have HPW : Hid (powF k n = ((factN n ^ (k - 1) : Nat) : Int)) := Lib.hid rfl
  obtain ⟨R, hR⟩ : ∃ R, powF k n = R := ⟨_, rfl⟩
  rw [hR] at HPW ⊢
  obtain ⟨K, hK⟩ : ∃ K, K = k - 1 := ⟨_, rfl⟩
  have hKI : IntKind.i64.wrap ((k : Int) - 1) = K := by rw [IntKind.wrap_i64]; omega
  have hK3 : K ≤ 3 := by omega
  have HK := Lib.hid hK
  clear hb hR hK
  go_enter Try.func99, Try.ntmps99
  go_wp2_with fail
  go_loopw [8, 5] (fun iv xv wr => ∃ i x : Nat, i ≤ n ∧ iv = .int .i64 i ∧ xv = .int .i64 x ∧ w = wr ∧ Hid (x = factN i)) (fun iv _ _ => n - (intOf iv).toNat)
  case atStart => exact ⟨0, 1, by omega, rfl, rfl, by trivial, Lib.hid rfl⟩
  case round =>
    obtain ⟨i, x, hi, rfl, rfl, rfl, HX⟩ := hrel
    by_cases hlt : i < n
    · have hx := HX.out
      have hx9 := fact_le i (by omega)
      rw [← hx] at hx9
      have hm : x * (i + 1) ≤ 720 * 7 := Nat.mul_le_mul hx9 (by omega)
      obtain ⟨y, hy⟩ : ∃ y, x * (i + 1) = y := ⟨_, rfl⟩
      rw [hy] at hm
      have hyI : (x : Int) * ((i : Int) + 1) = (y : Int) := by rw [← hy]; push_cast; rfl
      have hw1 : IntKind.i64.wrap ((i : Int) + 1) = (i : Int) + 1 := by rw [IntKind.wrap_i64]; omega
      have hw2 : IntKind.i64.wrap ((x : Int) * ((i : Int) + 1)) = y := by rw [hyI, IntKind.wrap_i64]; omega
      have G1 : Hid (y = factN (i + 1)) := Lib.hid (by rw [← hy, hx]; rfl)
      clear hx hy hyI
      go_wp2_with fail
      go_roundw
      case rel => exact ⟨i + 1, y, by omega, by go_num, by go_num, by trivial, G1⟩
      case measure => simp [intOf]; omega
    · obtain rfl : i = n := by omega
      have hx9 := fact_le i (by omega)
      rw [← HX.out] at hx9
      go_wp2_with fail
      go_loopw [18, 4] (fun jv ov wr => ∃ j z : Nat, j ≤ K ∧ jv = .int .i64 j ∧ ov = .int .i64 z ∧ w = wr ∧ Hid (z = x ^ j)) (fun jv _ _ => K - (intOf jv).toNat)
      case atStart => exact ⟨0, 1, by omega, rfl, rfl, by trivial, Lib.hid rfl⟩
      case round =>
        obtain ⟨j, z, hj, rfl, rfl, rfl, HZ⟩ := hrel
        by_cases hlj : j < K
        · have hz := HZ.out
          have hp := pow_le i (by omega) (j + 1) (by omega)
          rw [← HX.out, Nat.pow_succ, ← hz] at hp
          obtain ⟨y, hy⟩ : ∃ y, z * x = y := ⟨_, rfl⟩
          rw [hy] at hp
          have hyI : (z : Int) * (x : Int) = (y : Int) := by rw [← hy]; push_cast; rfl
          have hw2 : IntKind.i64.wrap ((z : Int) * (x : Int)) = y := by rw [hyI, IntKind.wrap_i64]; omega
          have G1 : Hid (y = x ^ (j + 1)) := Lib.hid (by rw [← hy, hz, Nat.pow_succ])
          clear hz hy hyI
          go_wp2_with fail
          go_roundw
          case rel => exact ⟨j + 1, y, by omega, by go_num, by go_num, by trivial, G1⟩
          case measure => simp [intOf]; omega
        · obtain rfl : j = K := by omega
          have hres : Hid (R = (z : Int)) := Lib.hid (by rw [HPW.out, HZ.out, HX.out, HK.out])
          go_wp2_with fail
          go_ret
          exact ⟨by rw [hres.out]; rfl, by trivial⟩
end Go.Proofs.Ytlooclpfoeakgaa

/- The graph of aa, b and abA. Plain laws. -/
namespace Go.Proofs.Ytlooclpfoeakgaa

def sAA : ByteArray := ⟨#[97, 97]⟩
def sB : ByteArray := ⟨#[98]⟩
def sABA : ByteArray := ⟨#[97, 98, 65]⟩
def gA : List (List Int) := [[1, 1, 0, 0], [0, 0, 1, 1]]
def nxA (v p : Nat) : Option Nat := if 2 ≤ v ∨ 4 ≤ p then none else if p < 2 then some (1 - v) else some v
theorem nxA_some {v p u : Nat} (h : nxA v p = some u) : v < 2 ∧ p < 4 ∧ u = if p < 2 then 1 - v else v := by
  unfold nxA at h
  split at h
  · cases h
  · split at h
    · rename_i h1 h2
      exact ⟨by omega, by omega, by rw [if_pos h2]; exact (Option.some.inj h).symm⟩
    · rename_i h1 h2
      exact ⟨by omega, by omega, by rw [if_neg h2]; exact (Option.some.inj h).symm⟩
theorem nxA_fold : FoldP 2 nxA := by
  intro v p u hp h
  obtain ⟨h1, h2, h3⟩ := nxA_some h
  have : ∀ v : Nat, v < 2 → ∀ p : Nat, p < 4 → nxA (if p < 2 then 1 - v else v) (p ^^^ 1) = some v := by decide
  rw [h3]
  exact this v h1 p h2
def phiA (v : Nat) : List UInt8 := if v = 1 then [97] else []
theorem graphA : GraphOf 2 (setS [sAA, sB, sABA]) nxA 0 := by
  have hS1 : setS [sAA, sB, sABA] [97, 97] := ⟨sAA, by simp, rfl⟩
  have hS2 : setS [sAA, sB, sABA] [98] := ⟨sB, by simp, rfl⟩
  have hS3 : setS [sAA, sB, sABA] [97, 98, 65] := ⟨sABA, by simp, rfl⟩
  refine ⟨nxA_fold, core_of (N := 2) (nxA_fold.foldd (by decide)) (by decide) (fun v c u h => ?_) (fun v g hv hg hr => ?_), fun g hg => ⟨fun hr => ?_, fun hG => ?_⟩⟩
  · obtain ⟨_, _, h3⟩ := stepL_some h
    obtain ⟨h4, _, h6⟩ := nxA_some h3
    rw [h6]
    split <;> omega
  · have hv2 : v < 2 := by
      rcases List.eq_nil_or_concat g with rfl | ⟨k, c, rfl⟩
      · exact absurd (Option.some.inj hr).symm hv
      · rw [List.concat_eq_append] at hr
        obtain ⟨y, _, h4⟩ := run_split hr
        rw [run_one] at h4
        obtain ⟨_, _, h3⟩ := stepL_some h4
        obtain ⟨h5, _, h6⟩ := nxA_some h3
        rw [h6]
        split <;> omega
    obtain rfl : v = 1 := by omega
    exact ⟨97, 65, by decide, by decide, by decide⟩
  · have h1 := loop_gen (s := stepL 2 nxA) phiA (S := setS [sAA, sB, sABA]) (fun v c u hu => by
      obtain ⟨l1, l2, l3⟩ := stepL_some hu
      obtain ⟨h4, h5, h6⟩ := nxA_some l3
      have hc := (let_place c l1).1
      have hp : placeB c = 0 ∨ placeB c = 1 ∨ placeB c = 2 ∨ placeB c = 3 := by omega
      have hv : v = 0 ∨ v = 1 := by omega
      have hinv1 : Gen (setS [sAA, sB, sABA]) [65, 65] := (Gen.one hS1).back
      have hinv2 : Gen (setS [sAA, sB, sABA]) [66] := (Gen.one hS2).back
      have hinv3 : Gen (setS [sAA, sB, sABA]) [97, 66, 65] := (Gen.one hS3).back
      rcases hv with rfl | rfl <;> rcases hp with q | q | q | q <;> rw [q] at hc h6 <;> subst h6 <;> rw [← hc]
      · exact .eqv (by decide : redW [] = redW ([] ++ [letP 0] ++ [65])) .nil
      · exact hinv1
      · exact Gen.one hS2
      · exact hinv2
      · exact Gen.one hS1
      · exact .eqv (by decide : redW [] = redW ([97] ++ [letP 1] ++ [])) .nil
      · exact Gen.one hS3
      · exact hinv3) hr
    have e : phiA 0 = [] := rfl
    rw [e] at h1
    simpa [invL] using h1
  · have := gen_loop (nxA_fold.foldd (by decide)) (o := 0) (fun a ha => by
      obtain ⟨s, hs, rfl⟩ := ha
      rcases List.mem_cons.1 hs with rfl | hs
      · decide
      · rcases List.mem_cons.1 hs with rfl | hs
        · decide
        · rw [List.mem_singleton.1 hs]; decide) hG
    rw [redW_self hg] at this
    exact this
theorem numA : numN nxA (List.range (2 * 2)) 5000 0 [0] [] = gA := by
  have : ∀ f, numN nxA (List.range (2 * 2)) (f + 3) 0 [0] [] = gA := fun f => by rfl
  exact this 4997
/-- the graph, however it was found -/
theorem isA {g : List (List Int)} (h : IsGraph 2 (setS [sAA, sB, sABA]) g) : g = gA := by
  obtain ⟨nx, o, h1, _, rfl⟩ := h
  rw [graph_same (by decide) h1 graphA (fun _ _ => Iff.rfl) 5000]
  exact numA
theorem goodA : GoodG 2 gA := by
  rw [← numA]
  exact num_good (by decide) (by decide) graphA.fold graphA.core (by decide) (fun v p u h => by
    obtain ⟨h4, _, h6⟩ := nxA_some h
    rw [h6]
    split <;> omega)
theorem wholeA : wholeG gA = true := by decide
theorem inA : inG 2 gA [97, 98] = false := by decide +kernel
theorem hallA : (hallC 2 3).getD 3 0 = 13 := by decide +kernel
theorem basisA : (wordsQ (treeF gA (scanN (2 * 2) gA.length 0)) (wayT (treeF gA (scanN (2 * 2) gA.length 0)) gA.length) (edgesTo 2 gA gA.length 0)).length = 3 := by decide +kernel
end Go.Proofs.Ytlooclpfoeakgaa

/- How many groups of an index there are: the walk of fold.Hall. -/
namespace Go.Proofs.Ytlooclpfoeakgaa
open Go.RowKit

theorem Try.info2 : (Try.prog.info? 2).map (fun i => (i.zero, i.size, i.bytes)) = some (some (.int .i64 0), 1, 8) := by kernel_rfl
theorem sumH_step (k n : Nat) (c : List Int) {i : Nat} (h : 1 ≤ i) : sumH k n c (i + 1) = sumH k n c i - powF k (n - i) * c.getD i 0 := by
  match i, h with
  | i + 1, _ => rfl

set_option maxRecDepth 100000 in
set_option maxHeartbeats 2000000 in
theorem Hall_good (w : World) (k m : Nat) (hk1 : 1 ≤ k) (hk4 : k ≤ 4) (hm1 : 1 ≤ m) (hm6 : m ≤ 6) :
    Calls Try.prog 57 #[.int .i64 k, .int .i64 m] w fun e w' => e = .returned (.tuple #[.int .i64 ((hallC k m).getD m 0), .int .i64 0]) ∧ Below w.heap.size w w' := by
  obtain ⟨w1, hw1⟩ : ∃ w1, w1 = w.alloc (.cells #[.int .i64 k] 3) := ⟨_, rfl⟩
  have hb1 : Below w.heap.size w w1 := by rw [hw1]; exact (Below.refl _ w).alloc (Nat.le_refl _) _
  have hx1 : Blk w1 w.heap.size 3 [.int .i64 k] := by rw [hw1]; exact Blk.new w 3 [.int .i64 k]
  have c0 := hx1.cell (j := 0) rfl
  obtain ⟨w2, hw2⟩ : ∃ w2, w2 = w1.alloc (.cells #[.int .i64 0] 2) := ⟨_, rfl⟩
  have hs1 : w1.heap.size = w.heap.size + 1 := by rw [hw1]; simp
  have hb2 : Below w.heap.size w w2 := by rw [hw2]; exact hb1.alloc (by omega) _
  have hx2 : Blk w2 w.heap.size 3 [.int .i64 k] := by rw [hw2]; exact hx1.alloc _
  have ho2 : OwnK w2 (w.heap.size + 1) 2 1 (.slice (some ⟨w.heap.size + 1, 0, none⟩) 1 1) 1 (hallC k 0) := by
    have h3 : Blk w2 (w.heap.size + 1) 2 (I64s [(0 : Int)]) := by
      have := Blk.new w1 2 (I64s [(0 : Int)])
      rw [hs1] at this
      rw [hw2]; exact this
    exact ⟨by simp [hallC], .inr ⟨w.heap.size + 1, 1, _, rfl, Nat.le_refl _, h3, Nat.le_refl _, by unfold maxLen; omega, by simp, by simp [hallC]⟩⟩
  have HO := Lib.hid ho2
  have HX := Lib.hid hx2
  have HB := Lib.hid hb2
  have HW2 := Lib.hid hw2
  have HS1 := Lib.hid hs1
  have eg : ∀ (args : Array Value) (w : World), (callFunc 99 args).run Try.prog w = .ok (.enter 99 args) w := fun _ _ => rfl
  clear hb1 hx1 hw2 hs1 hb2 hx2 ho2
  go_enter Try.func57, Try.ntmps57
  go_upto_region 1 with fail
  rw [← hw1]
  clear hw1
  go_upto_region 5 with fail
  change Code.wp _ _ _ _ (w1.alloc (.cells #[.int .i64 0] 2))
  rw [← HW2.out, HS1.out]
  clear c0 HW2 HS1 w1
  go_wp2_with fail
  go_loopw [8, 7] (fun iv ov wr => ∃ (n : Nat) (lw : Value), n ≤ m ∧ iv = .int .i64 (n + 1 : Nat) ∧ lw = ov ∧ Hid (OwnK wr (w.heap.size + 1) 2 1 lw (n + 1) (hallC k n)) ∧ Hid (Blk wr w.heap.size 3 [.int .i64 k]) ∧ Hid (Below w.heap.size w wr)) (fun iv _ _ => m + 1 - (intOf iv).toNat)
  case atStart => exact ⟨0, _, by omega, rfl, rfl, HO, HX, HB⟩
  case round =>
    clear HO HX HB
    obtain ⟨n, lw, hn, rfl, rfl, HO, HX, HB⟩ := hrel
    by_cases hlt : n < m
    · have hnI : ((n + 1 : Nat) : Int) ≤ m := by omega
      obtain ⟨N, hN⟩ : ∃ N, n + 1 = N := ⟨_, rfl⟩
      obtain ⟨c, hc⟩ : ∃ c, hallC k n = c := ⟨_, rfl⟩
      have hcl : c.length = N := by rw [← hc, hallC_len, hN]
      have hok : ∀ i, i < 7 → okH k N i = true := hall_ok k (by omega) N (by omega)
      have hpre : hallC k (N - 1) = c := by rw [← hN]; exact hc
      unfold okH at hok
      rw [hpre] at hok
      have hnext : hallC k N = c ++ [sumH k N c N] := by rw [← hN, hallC, hc]
      rw [hN] at hnI HO ⊢
      rw [hc] at HO
      have h1N : 1 ≤ N := by omega
      have hNm : N ≤ m := by omega
      have HOK := Lib.hid hok
      have HNEXT := Lib.hid hnext
      have HCL := Lib.hid hcl
      have HPW := Lib.hid (power_any wr w.heap.size k N HX.out hk1 hk4 (by omega))
      have hs0 : sumH k N c 1 = (N : Int) * powF k N := rfl
      have ho1 := hok 1 (by omega)
      simp only [Bool.and_eq_true, decide_eq_true_eq] at ho1
      obtain ⟨s, hs⟩ : ∃ s, sumH k N c 1 = s := ⟨_, rfl⟩
      rw [hs] at hs0 ho1
      obtain ⟨pw, hpw⟩ : ∃ pw, powF k N = pw := ⟨_, rfl⟩
      rw [hpw] at HPW hs0
      have hw0 : IntKind.i64.wrap ((N : Int) * pw) = s := by rw [← hs0, IntKind.wrap_i64]; omega
      have HS0 : Hid (s = sumH k N c 1) := Lib.hid hs.symm
      have HBW := Lib.hid (Below.refl wr.heap.size wr)
      obtain ⟨wA, rfl⟩ : ∃ wA, wA = wr := ⟨_, rfl⟩
      clear hok hnext hcl hpre hs0 hs hpw ho1
      go_upto_region 9 with (go_at_call 99; refine HPW.out.mono ?_; rintro e w9 ⟨rfl, hw9⟩; obtain rfl := hw9.symm)
      clear hw0
      go_wp2_with fail
      go_loopw [10, 9] (fun iv sv wr => ∃ (i : Nat) (s : Int), 1 ≤ i ∧ i ≤ N ∧ iv = .int .i64 i ∧ sv = .int .i64 s ∧ Hid (s = sumH k N c i) ∧ Hid (Below wA.heap.size wA wr)) (fun iv _ _ => N - (intOf iv).toNat)
      case atStart => exact ⟨1, s, by omega, h1N, rfl, rfl, HS0, HBW⟩
      case round =>
        clear HS0 HBW HPW
        obtain ⟨i, s, hi1, hiN, rfl, rfl, HS, HBW⟩ := hrel
        by_cases hli : i < N
        · have hoc : OwnK wr (w.heap.size + 1) 2 1 lw N c := World.ownsRow.keep HO.out HBW.out
          obtain ⟨g, cap, rfl, -, -, g1, g2, -, gcs⟩ := hoc.open (by omega)
          obtain ⟨x, hx⟩ : ∃ x, c[i]? = some x := ⟨_, List.getElem?_eq_getElem (by rw [HCL.out]; exact hli)⟩
          have ci := gcs i x hx
          replace ci : wr.cell? ⟨g, i, none⟩ = some (.int .i64 x) := ci
          have hxx : c.getD i 0 = x := by rw [List.getD_eq_getElem?_getD, hx]; rfl
          have hst := sumH_step k N c hi1
          have ho1 := HOK.out (i + 1) (by omega)
          have ho2 := HOK.out i (by omega)
          simp only [Bool.and_eq_true, decide_eq_true_eq] at ho1 ho2
          rw [hxx] at hst ho2
          rw [← HS.out] at hst
          obtain ⟨q, hq⟩ : ∃ q, N - i = q := ⟨_, rfl⟩
          rw [hq] at hst ho2
          have hqI : IntKind.i64.wrap ((N : Int) - i) = q := by rw [IntKind.wrap_i64]; omega
          have hq6 : q ≤ 6 := by omega
          obtain ⟨pw, hpw⟩ : ∃ pw, powF k q = pw := ⟨_, rfl⟩
          have HPQ : Hid (∀ j, Calls Try.prog 99 #[.int .i64 q, .pointer (some ⟨w.heap.size, 0, none⟩)] (wr.drewN j) fun e w' => e = .returned (.int .i64 pw) ∧ w' = wr.drewN j) := Lib.hid (fun j => by
            have := power_any (wr.drewN j) w.heap.size k q (HX.out.keep HBW.out : Blk wr w.heap.size 3 [.int .i64 k]) hk1 hk4 hq6
            rw [hpw] at this
            exact this)
          rw [hpw] at hst ho2
          obtain ⟨t, ht⟩ : ∃ t, pw * x = t := ⟨_, rfl⟩
          rw [ht] at hst ho2
          obtain ⟨s2, hs2⟩ : ∃ s2, sumH k N c (i + 1) = s2 := ⟨_, rfl⟩
          rw [hs2] at hst ho1
          have hw1 : IntKind.i64.wrap (pw * x) = t := by rw [ht, IntKind.wrap_i64]; omega
          have hw2 : IntKind.i64.wrap (s - t) = s2 := by rw [IntKind.wrap_i64]; omega
          have i0 : (0 : Int) ≤ i := by omega
          have i1 : (i : Int) < N := by omega
          have G1 : Hid (s2 = sumH k N c (i + 1)) := Lib.hid hs2.symm
          clear hoc gcs hx hxx hst ho1 ho2 hq hpw ht hs2
          go_upto_region 12 with fail
          go_quiet ((go_at_call 99; exact Calls.quiet_of_same (HPQ.out _)))
          generalize nq = na
          have HB2 : Hid (Below wA.heap.size wA (wr.drewN na)) := Lib.hid (HBW.out.trans ((Below.refl _ _).drewN' _))
          clear ci HBW
          go_wp2_with fail
          go_roundw
          case rel => exact ⟨i + 1, s2, by omega, by omega, by go_num, rfl, G1, HB2⟩
          case measure => simp [intOf]; omega
        · obtain rfl : i = N := by omega
          have hs := HS.out
          have hoc : OwnK wr (w.heap.size + 1) 2 1 lw i c := World.ownsRow.keep HO.out HBW.out
          have hbw : Below w.heap.size w wr := HB.out.trans (HBW.out.mono HB.out.size)
          have hsz := HB.out.size
          have hxw : Blk wr w.heap.size 3 [.int .i64 k] := HX.out.keep HBW.out
          have hbase : w.heap.size + 1 ≤ (wr.alloc (.cells (I64s [s]).toArray 2)).heap.size := by have := hbw.size; simp; omega
          have HBS := Lib.hid hbase
          have HOA : Hid (OwnK (wr.alloc (.cells (I64s [s]).toArray 2)) (w.heap.size + 1) 2 1 lw i c) := Lib.hid (World.ownsRow.keep hoc ((Below.refl _ _).alloc (Nat.le_refl _) _))
          have HXA := Lib.hid (hxw.alloc (.cells (I64s [s]).toArray 2))
          have HBA := Lib.hid (hbw.alloc hbw.size (.cells (I64s [s]).toArray 2))
          have hi9 : i < 1000000 := by omega
          clear hs hoc hbw hxw hbase HBW HO HX HB
          go_wp2_with (at_builtin; refine wpList_appK Try.info2 rfl (by decide) (by decide) Try.underlying143 HOA.out (by omega) rfl (.tmp 54) (.tmp 56) rfl (by simp [Act.eval]) (by simp [Act.eval]) (Blk.new wr 2 (I64s [s])) rfl HBS.out _ rfl ?_; intro g6 cap6 w6 hown6 hgrow6 hat6 hlt6)
          have hlo := World.ownsRow.lt HOA.out
          have G1 : Hid (OwnK w6 (w.heap.size + 1) 2 1 (.slice (some ⟨g6, 0, none⟩) (i + 1) cap6) (i + 1) (hallC k i)) := Lib.hid (by rw [HNEXT.out, ← HS.out]; exact hown6)
          have G2 := Lib.hid (HXA.out.grown hgrow6 (fun e => by have := (hlo _ e.symm).1; omega))
          have G3 := Lib.hid (HBA.out.grown hgrow6 (by have := HBS.out; omega) (fun k e => by have := (hlo k e).1; omega))
          clear hlo hown6 hgrow6 hat6 hlt6 HOA HXA HBA HBS
          go_roundw
          case rel => exact ⟨i, _, by omega, by go_num, rfl, G1, G2, G3⟩
          case measure => simp [intOf]; omega
    · obtain rfl : n = m := by omega
      obtain ⟨g, cap, rfl, -, -, g1, g2, -, gcs⟩ := HO.out.open (by omega)
      obtain ⟨x, hx⟩ : ∃ x, (hallC k n)[n]? = some x := ⟨_, List.getElem?_eq_getElem (by rw [hallC_len]; omega)⟩
      have ci := gcs n x hx
      replace ci : wr.cell? ⟨g, n, none⟩ = some (.int .i64 x) := ci
      have hxx : Hid ((hallC k n)[n]?.getD 0 = x) := Lib.hid (by rw [hx]; rfl)
      have i0 : (0 : Int) ≤ n := by omega
      have i1 : (n : Int) < (n : Int) + 1 := by omega
      have i2 : ¬ ((n + 1 : Nat) : Int) ≤ n := by omega
      clear gcs hx
      go_wp2_with fail
      go_ret2
      exact ⟨by rw [hxx.out]; rfl, HB.out⟩
end Go.Proofs.Ytlooclpfoeakgaa

/- What a program must do whatever the input is: the walk of awake. -/
namespace Go.Proofs.Ytlooclpfoeakgaa
open Go.RowKit

theorem foldA (v : Value) (w : World) (hv : Strs w v [sAA, sB, sABA]) : Calls Try.prog 13 #[.int .i64 2, v] w fun e w' => ∃ rv, e = .returned (.tuple #[.agg #[.int .i64 2, rv], .int .i64 0]) ∧ RowsR w' rv gA ∧ Below w.heap.size w w' := by
  refine (Fold_words 2 v [sAA, sB, sABA] w hv (by decide) (by decide) (by decide) (by decide)).mono ?_
  rintro e w' ⟨hb, h⟩
  have h0 : errL 2 [sAA, sB, sABA] = 0 := by decide +kernel
  rcases h with ⟨h1, _⟩ | ⟨_, rv, g, rfl, hg, hrows⟩
  · exact absurd h0 h1
  · obtain rfl := isA hg
    exact ⟨rv, rfl, hrows.toR, hb⟩

set_option maxRecDepth 100000 in
set_option maxHeartbeats 2000000 in
theorem awake_any (w : World) : Calls Try.prog 20 #[] w fun e w' => e = .returned (.bool true) ∧ Below w.heap.size w w' := by
  have hst : Strs (w.alloc (.cells #[.string sAA, .string sB, .string sABA] 9)) (.slice (some ⟨w.heap.size, 0, none⟩) 3 3) [sAA, sB, sABA] := Strs.lit w 9 [sAA, sB, sABA] (by decide)
  have hb1 : Below w.heap.size w (w.alloc (.cells #[.string sAA, .string sB, .string sABA] 9)) := (Below.refl _ _).alloc (Nat.le_refl _) _
  have HF := Lib.hid (foldA _ _ hst)
  have HB1 := Lib.hid hb1
  clear hst hb1
  go_enter Try.func20, Try.ntmps20
  go_upto_region 2 with (go_at_call 13; refine HF.out.mono ?_; rintro e w2 ⟨rv, rfl, hr2, hb2⟩; obtain ⟨ra, rc, rfl, -, -⟩ := hr2.shape (n := 2) rfl; have HR2 := Lib.hid hr2; have HB2 := Lib.hid (HB1.out.trans (hb2.mono HB1.out.size)); clear hr2 hb2)
  obtain ⟨w3, hw3⟩ : ∃ w3, w3 = w2.alloc (.cells #[.int .i64 2, .slice ra 2 rc] 25) := ⟨_, rfl⟩
  have hx3 : Blk w3 w2.heap.size 25 [.int .i64 2, .slice ra 2 rc] := by rw [hw3]; exact Blk.new w2 25 [.int .i64 2, .slice ra 2 rc]
  have hb23 : Below w2.heap.size w2 w3 := by rw [hw3]; exact (Below.refl _ w2).alloc (Nat.le_refl _) _
  have hr3 : RowsR w3 (.slice ra 2 rc) gA := HR2.out.keep hb23
  have hb3 : Below w.heap.size w w3 := HB2.out.trans (hb23.mono HB2.out.size)
  have c0 := hx3.cell (j := 0) rfl
  have c1 := hx3.cell (j := 1) rfl
  have hidx : Calls Try.prog 24 #[.agg #[.int .i64 2, .slice ra 2 rc]] w3 fun e w' => e = .returned (.tuple #[.int .i64 2, .bool true, .int .i64 0]) ∧ Below w3.heap.size w3 w' := by
    have := Index_good w3 2 (.slice ra 2 rc) gA hr3 goodA
    rw [wholeA, if_pos rfl] at this
    exact this
  have HI := Lib.hid hidx
  have HX3 := Lib.hid hx3
  have HR3 := Lib.hid hr3
  have HB3 := Lib.hid hb3
  have hba : ∀ wx, Below w3.heap.size w3 wx → Calls Try.prog 25 #[.agg #[.int .i64 2, .slice ra 2 rc]] wx fun e w' => ∃ va vc, e = .returned (.tuple #[.slice va 3 vc, .int .i64 0]) ∧ Below wx.heap.size wx w' := fun wx hb => by
    refine (Basis_good wx 2 (.slice ra 2 rc) gA (hr3.keep hb) goodA).mono ?_
    rintro e w' ⟨v, rfl, ho, hb9⟩
    have e3 : (basisW 2 gA).length = 3 := basisA
    rw [e3] at ho
    obtain ⟨a, c, rfl, -, -⟩ := row_shapeV ho
    exact ⟨a, c, rfl, hb9⟩
  have hha : ∀ wx, Below w3.heap.size w3 wx → Calls Try.prog 31 #[.agg #[.int .i64 2, .slice ra 2 rc], .string ⟨#[97, 98]⟩] wx fun e w' => e = .returned (.tuple #[.bool false, .int .i64 0]) ∧ Below wx.heap.size wx w' := fun wx hb => by
    have := Has_good wx 2 (.slice ra 2 rc) gA (hr3.keep hb) goodA ⟨#[97, 98]⟩ (by decide) (by decide +kernel)
    have e : inG 2 gA (bts ⟨#[97, 98]⟩) = false := inA
    rw [e] at this
    exact this
  have hhl : ∀ wx, Calls Try.prog 57 #[.int .i64 2, .int .i64 3] wx fun e w' => e = .returned (.tuple #[.int .i64 13, .int .i64 0]) ∧ Below wx.heap.size wx w' := fun wx => by
    have := Hall_good wx 2 3 (by decide) (by decide) (by decide) (by decide)
    rw [hallA] at this
    exact this
  have HBA := Lib.hid hba
  have HHA := Lib.hid hha
  have HHL := Lib.hid hhl
  clear hx3 hb23 hr3 hb3 hidx hba hha hhl HR2 HB2 HF HB1 HR3
  change Code.wp _ _ _ _ (w2.alloc (.cells #[.int .i64 2, .slice ra 2 rc] 25))
  rw [← hw3]
  clear hw3
  go_upto_region 3 with (go_at_call 24; refine HI.out.mono ?_; rintro e w4 ⟨rfl, hb4⟩)
  have c0 := (HX3.out.keep hb4).cell (j := 0) rfl
  have c1 := (HX3.out.keep hb4).cell (j := 1) rfl
  have HB4 := Lib.hid hb4
  have HBA4 := Lib.hid (HBA.out w4 hb4)
  clear hb4 HI HBA
  go_upto_region 4 with (go_at_call 25; refine HBA4.out.mono ?_; rintro e w5 ⟨va, vc, rfl, hb5⟩)
  have hb35 := HB4.out.trans (hb5.mono HB4.out.size)
  have c0 := (HX3.out.keep hb35).cell (j := 0) rfl
  have c1 := (HX3.out.keep hb35).cell (j := 1) rfl
  have HB5 := Lib.hid hb35
  have HHA5 := Lib.hid (HHA.out w5 hb35)
  clear hb5 hb35 HBA4 HHA
  go_upto_region 5 with (go_at_call 31; refine HHA5.out.mono ?_; rintro e w6 ⟨rfl, hb6⟩)
  have HB6 := Lib.hid (HB5.out.trans (hb6.mono HB5.out.size))
  have HHL6 := Lib.hid (HHL.out w6)
  clear hb6 HHA5 HHL
  go_wp2_with (go_at_call 57; refine HHL6.out.mono ?_; rintro e w7 ⟨rfl, hb7⟩; have HB7 := Lib.hid (HB6.out.trans (hb7.mono HB6.out.size)); clear hb7)
  go_ret
  exact ⟨rfl, HB3.out.trans (HB7.out.mono HB3.out.size)⟩
end Go.Proofs.Ytlooclpfoeakgaa
