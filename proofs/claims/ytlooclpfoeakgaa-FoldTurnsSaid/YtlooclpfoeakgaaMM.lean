/- Rows that are put into a folder: the walk. -/
import Derived.Test.YtlooclpfoeakgaaML
import Derived.Test.YtlooclpfoeakgaaMK
namespace Go.Proofs.Ytlooclpfoeakgaa
open Go.RowKit Go.Shelf
attribute [local go_sem] Oper.semAt_some

/-- what an edge of the rows is in the folder -/
def edC (n0 start : Nat) (e : E3) : Nat × Nat × Nat := (atC n0 start e.1, e.2.1, atC n0 start e.2.2)
/-- what the loop over the edges keeps -/
structure CJ (w : World) (B base fg kk fb gb ab : Nat) (kv rv uv hv uv0 hv0 tv0 lw : Value) (A : List Int) (k : Nat) (S : List UInt8 → Prop) (ψ : Nat → List UInt8) (E : List (Nat × Nat × Nat)) (n0 start nt : Nat) {g : List (List Int)} (pre : List (EdG k g)) (W : World) : Prop where
  st : ∃ y F up d tv, Inv k S ψ F y ∧ y.todo = [] ∧ y.n = nt ∧ (∀ e ∈ E, e ∈ F) ∧ (∀ e ∈ pre, edC n0 start e.1 ∈ F) ∧ UF y.n up y.R d ∧ CL W w B base fg kk fb gb ab kv rv y up uv hv tv uv0 hv0 tv0 lw A
theorem CJ.own (w : World) (B base fg kk fb gb ab : Nat) (kv rv uv hv uv0 hv0 tv0 lw : Value) (A : List Int) (k : Nat) (S : List UInt8 → Prop) (ψ : Nat → List UInt8) (E : List (Nat × Nat × Nat)) (n0 start nt : Nat) {g : List (List Int)} (C : Nat) (hC : w.heap.size ≤ C) : OwnFrom C (fun pre W => CJ w B base fg kk fb gb ab kv rv uv hv uv0 hv0 tv0 lw A k S ψ E n0 start nt (g := g) pre W) := by
  intro pre W W' row h hg hr
  obtain ⟨y, F, up, d, tv, h1, h2, h3, h4, h5, h6, h7⟩ := h.st
  exact ⟨y, F, up, d, tv, h1, h2, h3, h4, h5, h6, h7.other hg (fun r e => ⟨by have := (hr r e).1; omega, (hr r e).2⟩)⟩
def AxC (A : Array Value) (base : Nat) {k : Nat} {g : List (List Int)} (x : EdG k g) (a' : Act) (W : World) : Prop :=
  ∃ Bx, base ≤ Bx ∧ Blk W Bx 70 [.int .i64 (x.1.1 : Int), .int .i64 (x.1.2.1 : Int)] ∧ a' = { tmps := (((A.setIfInBounds 28 (.agg #[.int .i64 (x.1.1 : Int), .int .i64 (x.1.2.1 : Int)])).setIfInBounds 29 (.int .i64 (x.1.2.2 : Int))).setIfInBounds 7 (.pointer (some ⟨Bx, 0, none⟩))).setIfInBounds 8 (.int .i64 (x.1.2.2 : Int)), defers := [] }
theorem AxC.own (A : Array Value) (base : Nat) {k : Nat} {g : List (List Int)} (x : EdG k g) (a' : Act) (B : Nat) : OwnFrom B (fun (_ : Unit) W => AxC A base x a' W) := by
  intro _ W W' row h hg hr
  obtain ⟨Bx, h1, h2, h3⟩ := h
  exact ⟨Bx, h1, h2.ownQ hg (fun r e => (hr r e).2), h3⟩

theorem mem_edgesR {k : Nat} {g : List (List Int)} (hg : RowG k g) {v p u : Nat} : (v, p, u) ∈ edgesTo k g g.length 0 ↔ nxT g v p = some u ∧ p % 2 = 0 := by
  have hin : ∀ (v' q : Nat), (v, p, u) ∈ edgeAt g v' (2 * q) ↔ v = v' ∧ p = 2 * q ∧ nxT g v p = some u := by
    intro v' q
    unfold edgeAt
    cases hx : nxT g v' (2 * q) with
    | none =>
      simp only [List.not_mem_nil, false_iff]
      rintro ⟨rfl, rfl, h⟩
      rw [hx] at h; cases h
    | some t =>
      simp only [List.mem_singleton, Prod.mk.injEq]
      constructor
      · rintro ⟨rfl, rfl, rfl⟩; exact ⟨rfl, rfl, hx⟩
      · rintro ⟨rfl, rfl, h⟩; rw [hx] at h; exact ⟨rfl, rfl, (Option.some.inj h).symm⟩
  unfold edgesTo
  simp only [List.range_zero, List.flatMap_nil, List.append_nil, List.mem_flatMap, List.mem_range, hin]
  constructor
  · rintro ⟨a, h1, b, h2, rfl, rfl, h⟩
    exact ⟨h, by omega⟩
  · rintro ⟨h, he⟩
    obtain ⟨h1, h2, h3⟩ := hg.bounds h
    exact ⟨v, h1, p / 2, by omega, rfl, by omega, h⟩
set_option maxRecDepth 100000 in
set_option maxHeartbeats 4000000 in
theorem copied_any (w w0 : World) (base fg kk : Nat) (x : FS) (up d : Nat → Nat) (uv hv tv : Value) {k : Nat} {S : List UInt8 → Prop} {φ : Nat → List UInt8} {E : List (Nat × Nat × Nat)} (hI : Inv k S φ E x) (h0 : x.todo = []) (h : FM w base fg kk x up uv hv tv) (hu : UF x.n up x.R d) (hb : base ≤ w.heap.size)
    (g : List (List Int)) (kv rv : Value) (hr : RowsR w0 rv g) (hw0 : Below w0.heap.size w0 w) (hbase : w0.heap.size ≤ base) (hg : RowG k g) (hkv : kv = .int .i64 k) (start : Nat) (hs : start < x.n) (Wf : Nat → List UInt8) (hW0 : Wf 0 = [])
    (hG : ∀ v p u, nxT g v p = some u → p % 2 = 0 → Gen S (φ start ++ Wf v ++ [letP p] ++ invL (φ start ++ Wf u))) (hn : x.n ≤ 20000) :
    Calls Try.prog 81 #[.pointer (some ⟨fg, 0, none⟩), .agg #[kv, rv], .int .i64 start] w fun e w' => e = .returned (.tuple #[]) ∧ ∃ y ψ F up' d' uv' hv' tv', Inv k S ψ F y ∧ y.todo = [] ∧ (∀ i, i < x.n → ψ i = φ i) ∧ (∀ e ∈ E, e ∈ F) ∧ (∀ v p u, nxT g v p = some u → p % 2 = 0 → (atC x.n start v, p, atC x.n start u) ∈ F) ∧
      y.n = x.n + g.length - 1 ∧ FM w' base fg kk y up' uv' hv' tv' ∧ UF y.n up' y.R d' ∧ Frm w w' fg uv hv tv uv' hv' tv' := by
  subst hkv
  obtain ⟨n, hgn⟩ : ∃ n, g.length = n := ⟨_, rfl⟩
  have hn1 := hg.n1
  have hn6 := hg.n6
  have hk4 := hg.k4
  rw [hgn] at hn1 hn6
  obtain ⟨va, vc, rfl, hv1, hv2⟩ := hr.shape hgn
  -- the labels
  obtain ⟨ψ, hψ⟩ : ∃ ψ : Nat → List UInt8, ψ = fun v => if v < x.n then φ v else φ start ++ Wf (v - x.n + 1) := ⟨_, rfl⟩
  have hI2 : Inv k S ψ E x := inv_phi hI (fun i hi => by rw [hψ]; simp only; rw [if_pos hi]) hI.has_lt
  have hψold : ∀ i, i < x.n → ψ i = φ i := fun i hi => by rw [hψ]; simp only; rw [if_pos hi]
  have hψat : ∀ v, ψ (atC x.n start v) = φ start ++ Wf v := fun v => by
    unfold atC
    split
    · rename_i e; rw [hψold start hs, e, hW0, List.append_nil]
    · rename_i e
      rw [hψ]; simp only
      rw [if_neg (by omega)]
      congr 2; omega
  have hlt : ∀ v, v < n → atC x.n start v < x.n + n - 1 := fun v hv => by unfold atC; split <;> omega
  have hGψ : ∀ v p u, nxT g v p = some u → p % 2 = 0 → Gen S (ψ (atC x.n start v) ++ [letP p] ++ invL (ψ (atC x.n start u))) := fun v p u e1 e2 => by rw [hψat, hψat]; exact hG v p u e1 e2
  -- the boxes
  obtain ⟨w1, hw1⟩ : ∃ w1, w1 = (w.alloc (.cells #[.pointer (some ⟨fg, 0, none⟩)] 91)).alloc (.cells #[.int .i64 k, .slice va n vc] 25) := ⟨_, rfl⟩
  have hb1 : Below w.heap.size w w1 := by rw [hw1]; exact ((Below.refl _ w).alloc (Nat.le_refl _) _).alloc (by simp) _
  have hf1 : Blk w1 w.heap.size 91 [.pointer (some ⟨fg, 0, none⟩)] := by rw [hw1]; exact (Blk.new w 91 [.pointer (some ⟨fg, 0, none⟩)]).alloc _
  have hg1 : Blk w1 (w.heap.size + 1) 25 [.int .i64 k, .slice va n vc] := by
    rw [hw1]
    have := Blk.new (w.alloc (.cells #[.pointer (some ⟨fg, 0, none⟩)] 91)) 25 [.int .i64 k, .slice va n vc]
    simpa using this
  have hs1 : w1.heap.size = w.heap.size + 2 := by rw [hw1]; simp
  obtain ⟨rb, hrb⟩ : ∃ rb, w1.heap.size = rb := ⟨_, rfl⟩
  obtain ⟨w2, hw2⟩ : ∃ w2, w2 = (w1.alloc (.cells #[.int .i64 start] 3)).alloc (.cells #[.slice (some ⟨w1.heap.size, 0, none⟩) 1 1] 54) := ⟨_, rfl⟩
  have hb2 : Below w1.heap.size w1 w2 := by rw [hw2]; exact ((Below.refl _ w1).alloc (Nat.le_refl _) _).alloc (by simp) _
  have hCL : CL w2 w (w.heap.size + 2) base fg kk w.heap.size (w.heap.size + 1) (rb + 1) (.int .i64 k) (.slice va n vc) (addN x 0) up uv hv tv uv hv tv (.slice (some ⟨rb, 0, none⟩) 1 1) (atL x.n start 1) := by
    have hb12 : Below w.heap.size w w2 := hb1.trans (hb2.mono (by omega))
    refine ⟨h.keep hb12, Frm.of_below hb12 fg uv hv tv, ?_, ?_, fun b e e2 => ?_, hf1.keep hb2, hg1.keep hb2, by omega, by omega⟩
    · rw [hw2]
      have := Blk.new (w1.alloc (.cells #[.int .i64 start] 3)) 54 [.slice (some ⟨w1.heap.size, 0, none⟩) 1 1]
      rw [hrb] at this
      simpa [hrb] using this
    · have h9 : Blk w2 rb 3 (I64s [(start : Int)]) := by rw [hw2, ← hrb]; exact (Blk.new w1 3 (I64s [(start : Int)])).alloc _
      have := h9.own (B := w.heap.size + 2) (by omega) (by simp)
      exact this
    · have : rb = b := by simpa [Value.ownBlock] using e
      have := (World.ownsRow.lt h.ups b e2).2
      omega
  have HFM := Lib.hid h
  have HI := Lib.hid hI2
  have HT0 := Lib.hid h0
  have HUF : Hid (UF (x.n + 0) up x.R d) := Lib.hid hu
  have HC := Lib.hid hCL
  have HR := Lib.hid hr
  have HW0 := Lib.hid hw0
  have HG := Lib.hid hg
  have HGN := Lib.hid hgn
  have HLT := Lib.hid hlt
  have HGP := Lib.hid hGψ
  have HOLD := Lib.hid hψold
  have hbw : w.heap.size ≤ w2.heap.size := hCL.frm.size
  have c1 := hg1.cell (j := 1) rfl
  have c2 := (hg1.keep hb2).cell (j := 1) rfl
  have HS1 := Lib.hid hs1
  have HB2 := Lib.hid hb2
  have HRB := Lib.hid (And.intro hrb hs1)
  clear hI hI2 h0 h hu hCL hr hw0 hg hgn hlt hGψ hψold hψat hψ hG hb1 hf1 hg1 hb2 hs1
  refine (callsIn_wide (n := 6)).1 ?_
  refine callsIn_of_wp_marks Try.func81 rfl trivial ?_ rfl
  simp only [Try.ntmps81, List.size_toArray, List.length_cons, List.length_nil, Nat.reduceAdd, Nat.reduceSub, Array.replicate_succ, Array.replicate_zero, List.push_toArray, List.append_toArray, List.nil_append, List.cons_append]
  refine wpIn_wide.2 ?_
  go_upto_region 1 with fail
  change Code.wp _ _ _ _ ((w.alloc (.cells #[.pointer (some ⟨fg, 0, none⟩)] 91)).alloc (.cells #[.int .i64 k, .slice va n vc] 25))
  rw [← hw1]
  clear hw1
  go_upto_region 2 with fail
  change Code.wp _ _ _ _ ((w1.alloc (.cells #[.int .i64 start] 3)).alloc (.cells #[.slice (some ⟨rb, 0, none⟩) 1 1] 54))
  rw [hrb] at hw2
  rw [← hw2]
  clear hw2 hrb
  obtain ⟨m, hm⟩ : ∃ m, n = m + 1 := ⟨n - 1, by omega⟩
  subst hm
  have hmI : ((m + 1 : Nat) : Int) - 1 = m := by omega
  have hvc : vc = 1 ∨ 1 < vc := by omega
  rcases hvc with hvc | hvc
  all_goals
    go_upto_region 3 with fail
    have HVC := Lib.hid hvc
    clear hvc
    go_loopw [15] (fun iv wr => ∃ (i : Nat) (up d : Nat → Nat) (lw uv2 hv2 : Value), i ≤ m ∧ iv = .int .i64 i ∧ Hid (CL wr w (w.heap.size + 2) base fg kk w.heap.size (w.heap.size + 1) (rb + 1) (.int .i64 k) (.slice va (m + 1) vc) (addN x i) up uv2 hv2 tv uv hv tv lw (atL x.n start (i + 1))) ∧ Hid (UF (x.n + i) up x.R d)) (fun iv _ => m - (intOf iv).toNat)
    case atStart => exact ⟨0, up, d, _, uv, hv, by omega, rfl, HC, HUF⟩
    case round =>
      clear HC HUF
      obtain ⟨i, up, d, lw, uv2, hv2, hi, rfl, HC, HUF⟩ := hrel
      by_cases hlt : i < m
      · have hi0 : (0 : Int) ≤ i := by omega
        have hi1 : (i : Int) < m := by omega
        obtain ⟨la, lc, rfl, -, -⟩ := row_shapeV HC.out.own
        have hAl : (atL x.n start (i + 1)).length = i + 1 := atL_len _ _ _
        rw [hAl] at HC
        have HAL := Lib.hid hAl
        clear hAl
        go_upto_region 4 with fail
        have HC1 : Hid (CL wr.drew w (w.heap.size + 2) base fg kk w.heap.size (w.heap.size + 1) (rb + 1) (.int .i64 k) (.slice va (m + 1) vc) (addN x i) up uv2 hv2 tv uv hv tv (.slice la (i + 1) lc) (atL x.n start (i + 1))) := Lib.hid (HC.out.keep ((Below.refl _ _).drewN' 1))
        refine wp_region_noPanic ?_
        refine wp_region_held_drew (S := fun w' => w'.cell? ⟨w.heap.size, 0, none⟩ = some (.pointer (some ⟨fg, 0, none⟩))) (by kernel_rfl) (HC1.out.fbox.cell (j := 0) rfl) (fun hHeld => ?_)
        have cb1 := HC1.out.box.cell (j := 0) rfl
        refine takeH 1 (v := ?_) rfl (by kernel_rfl) (by kernel_rfl) (by kernel_rfl) (fun _ _ _ h => h) (by rfl) ?_ hHeld ?_
        rotate_left
        · (intro w hSw; (try dsimp only at hSw); go_simp; try with_reducible rfl)
        try simp only [Act.put, List.setIfInBounds_toArray, List.set_cons_zero, List.set_cons_succ]
        refine takeH 2 (v := ?_) rfl (by kernel_rfl) (by kernel_rfl) (by kernel_rfl) (fun _ _ _ h => h) (by rfl) ?_ hHeld ?_
        rotate_left
        · (intro w hSw; (try dsimp only at hSw); go_simp; try with_reducible rfl)
        try simp only [Act.put, List.setIfInBounds_toArray, List.set_cons_zero, List.set_cons_succ]
        refine takeH 3 (v := ?_) rfl (by kernel_rfl) (by kernel_rfl) (by kernel_rfl) (fun _ _ _ h => h) (by rfl) ?_ hHeld ?_
        rotate_left
        · (intro w hSw; (try dsimp only at hSw); go_simp; try with_reducible rfl)
        try simp only [Act.put, List.setIfInBounds_toArray, List.set_cons_zero, List.set_cons_succ]
        refine twoH 0 4 (by kernel_rfl) rfl rfl (fun K hK => ?_) (fun K hK => ?_)
        · go_simp
          refine hK.out _ _ hHeld (fun hHeld => ?_)
          clear hK K
          try simp only [Act.put, List.setIfInBounds_toArray, List.set_cons_zero, List.set_cons_succ]
          refine oneH 4 (by kernel_rfl) rfl (fun K hK => ?_)
          go_simp
          go_at_call 101
          refine (bare_any _).mono ?_
          rintro e w4 ⟨rfl, hb4⟩
          have hc4 := HC1.out.keep hb4
          have HC4 := Lib.hid hc4
          dsimp only
          refine hK.out _ _ (hc4.fbox.cell (j := 0) rfl) (fun hHeld => ?_)
          clear hb4 hc4
          clear hK K
          try simp only [Act.put, List.setIfInBounds_toArray, List.set_cons_zero, List.set_cons_succ]
          refine oneH 5 (by kernel_rfl) rfl (fun K hK => ?_)
          go_simp
          go_at_call 100
          refine (add_any _ base fg kk _ up _ _ _ HC4.out.fm (by have := HC4.out.frm.size; omega) (by rw [addN_n]; omega)).mono ?_
          rintro e w5 ⟨rfl, nv, mv, hz5, hf5⟩
          rw [addN_n] at *
          have hm5 : FM w5 base fg kk (addF (addN x i)) (fun j => if j = (addN x i).n then (addN x i).n else up j) nv mv tv := FM.added (fun p => ((addN_inv HI.out i).out _ (Nat.le_refl _)).2 p) (by rw [addN_n]; exact hz5)
          have HC5 := Lib.hid (HC4.out.folder hf5 hm5)
          dsimp only
          refine hK.out _ _ (HC5.out.fbox.cell (j := 0) rfl) (fun hHeld => ?_)
          clear hz5 hf5 hm5
          clear hK K
          try simp only [Act.put, List.setIfInBounds_toArray, List.set_cons_zero, List.set_cons_succ]
          refine oneH 6 (by kernel_rfl) rfl (fun K hK => ?_)
          go_simp
          obtain ⟨W6, hW6⟩ : ∃ W6, w5.alloc (.cells #[.int .i64 ((x.n : Int) + i)] 3) = W6 := ⟨_, rfl⟩
          have hb6 : Below w5.heap.size w5 W6 := by rw [← hW6]; exact (Below.refl _ _).alloc (Nat.le_refl _) _
          have hx6 : Blk W6 w5.heap.size 3 [.int .i64 ((x.n : Int) + i)] := by rw [← hW6]; exact Blk.new w5 3 [.int .i64 ((x.n : Int) + i)]
          try rw [hW6]
          have HC6 := Lib.hid (HC5.out.keep hb6)
          have HX6 := Lib.hid hx6
          refine hK.out _ _ (HC6.out.fbox.cell (j := 0) rfl) (fun hHeld => ?_)
          clear hW6 hb6 hx6
          clear hK K
          try simp only [Act.put, List.setIfInBounds_toArray, List.set_cons_zero, List.set_cons_succ]
          refine oneH 7 (by kernel_rfl) rfl (fun K hK => ?_)
          have hoK : OwnK W6 (w.heap.size + 2) 3 1 (.slice la (i + 1) lc) (i + 1) (atL x.n start (i + 1)) := by
            have := HC6.out.own
            unfold Own at this
            rw [HAL.out] at this
            exact this
          refine step_appK Try.info3 rfl (by decide) (by decide) Try.underlying54 hoK (by omega) rfl (.tmp 17) (.tmp 23) rfl (by simp [Act.eval]) (by simp [Act.eval]) (ys := [(x.n : Int) + i]) HX6.out rfl (by have h9 := HC6.out.box.lt; have := HRB.out; omega) _ rfl ?_
          intro g9 cap9 w9 hown9 hgrow9 hat9 hlt9
          have hbx9 := HC6.out.box.grown hgrow9 (row_blk HC6.out.own HC6.out.box (by decide))
          have hfb9 := HC6.out.fbox.grown hgrow9 (row_blk HC6.out.own HC6.out.fbox (by decide))
          have ho9 : Own w9 (w.heap.size + 2) 3 (.slice (some ⟨g9, 0, none⟩) (i + 1 + 1) cap9) (atL x.n start (i + 1) ++ [(x.n : Int) + i]) := by
            unfold Own
            rw [List.length_append, List.length_singleton, HAL.out]
            exact hown9
          have hCL9 := HC6.out.app ho9 hgrow9 (fun b e => by
            have e : g9 = b := by simpa [Value.ownBlock] using e
            subst e
            rcases hat9 with h1 | h1
            · exact .inl h1
            · exact .inr (by omega))
          have hz9 : atL x.n start (i + 1) ++ [(x.n : Int) + i] = atL x.n start (i + 1 + 1) := by
            rw [atL_succ x.n start (i + 1)]
            congr 2
          rw [hz9] at hCL9
          have cbx := hbx9.cell (j := 0) rfl
          have fbx := hbx9.free 0
          refine hK.out _ _ (hfb9.cell (j := 0) rfl) (fun hHeld => ?_)
          clear hK K
          try simp only [Act.put, List.setIfInBounds_toArray, List.set_cons_zero, List.set_cons_succ]
          refine oneH 8 (by kernel_rfl) rfl (fun K hK => ?_)
          go_simp
          refine hK.out _ _ (hCL9.fbox.cell (j := 0) rfl) (fun hHeld => ?_)
          clear hK K
          try simp only [Act.put, List.setIfInBounds_toArray, List.set_cons_zero, List.set_cons_succ]
          refine wpAnyH_done (by kernel_rfl) ?_ _
          refine NoPanic.normal ?_
          have G1 := Lib.hid hCL9
          have G2 : Hid (UF (x.n + (i + 1)) (fun j => if j = (addN x i).n then (addN x i).n else up j) x.R d) := Lib.hid (by
            have := UF.added HUF.out (n := x.n + i) (by have h9 := ((addN_inv HI.out i).out (addN x i).n (Nat.le_refl _)).1; rw [addN_R, addN_n] at h9; exact h9)
            rw [addN_n]
            exact this)
          clear hown9 hgrow9 hat9 hlt9 hbx9 hfb9 ho9 hCL9 hz9 cbx fbx hHeld
          go_wp2_with fail
          go_roundw
          case rel => exact ⟨i + 1, _, d, _, _, _, by omega, by go_num, G1, G2⟩
          case measure => simp [intOf]; omega
        · go_simp
          go_at_call 101
          refine (bare_any _).mono ?_
          rintro e w4 ⟨rfl, hb4⟩
          have hc4 := HC1.out.keep hb4
          have HC4 := Lib.hid hc4
          dsimp only
          refine hK.out _ _ (hc4.fbox.cell (j := 0) rfl) (fun hHeld => ?_)
          clear hb4 hc4
          clear hK K
          try simp only [Act.put, List.setIfInBounds_toArray, List.set_cons_zero, List.set_cons_succ]
          have cb4 := HC4.out.box.cell (j := 0) rfl
          refine twoH 0 5 (by kernel_rfl) rfl rfl (fun K hK => ?_) (fun K hK => ?_)
          · go_simp
            refine hK.out _ _ hHeld (fun hHeld => ?_)
            clear hK K
            try simp only [Act.put, List.setIfInBounds_toArray, List.set_cons_zero, List.set_cons_succ]
            refine oneH 5 (by kernel_rfl) rfl (fun K hK => ?_)
            go_simp
            go_at_call 100
            refine (add_any _ base fg kk _ up _ _ _ HC4.out.fm (by have := HC4.out.frm.size; omega) (by rw [addN_n]; omega)).mono ?_
            rintro e w5 ⟨rfl, nv, mv, hz5, hf5⟩
            rw [addN_n] at *
            have hm5 : FM w5 base fg kk (addF (addN x i)) (fun j => if j = (addN x i).n then (addN x i).n else up j) nv mv tv := FM.added (fun p => ((addN_inv HI.out i).out _ (Nat.le_refl _)).2 p) (by rw [addN_n]; exact hz5)
            have HC5 := Lib.hid (HC4.out.folder hf5 hm5)
            dsimp only
            refine hK.out _ _ (HC5.out.fbox.cell (j := 0) rfl) (fun hHeld => ?_)
            clear hz5 hf5 hm5
            clear hK K
            try simp only [Act.put, List.setIfInBounds_toArray, List.set_cons_zero, List.set_cons_succ]
            refine oneH 6 (by kernel_rfl) rfl (fun K hK => ?_)
            go_simp
            obtain ⟨W6, hW6⟩ : ∃ W6, w5.alloc (.cells #[.int .i64 ((x.n : Int) + i)] 3) = W6 := ⟨_, rfl⟩
            have hb6 : Below w5.heap.size w5 W6 := by rw [← hW6]; exact (Below.refl _ _).alloc (Nat.le_refl _) _
            have hx6 : Blk W6 w5.heap.size 3 [.int .i64 ((x.n : Int) + i)] := by rw [← hW6]; exact Blk.new w5 3 [.int .i64 ((x.n : Int) + i)]
            try rw [hW6]
            have HC6 := Lib.hid (HC5.out.keep hb6)
            have HX6 := Lib.hid hx6
            refine hK.out _ _ (HC6.out.fbox.cell (j := 0) rfl) (fun hHeld => ?_)
            clear hW6 hb6 hx6
            clear hK K
            try simp only [Act.put, List.setIfInBounds_toArray, List.set_cons_zero, List.set_cons_succ]
            refine oneH 7 (by kernel_rfl) rfl (fun K hK => ?_)
            have hoK : OwnK W6 (w.heap.size + 2) 3 1 (.slice la (i + 1) lc) (i + 1) (atL x.n start (i + 1)) := by
              have := HC6.out.own
              unfold Own at this
              rw [HAL.out] at this
              exact this
            refine step_appK Try.info3 rfl (by decide) (by decide) Try.underlying54 hoK (by omega) rfl (.tmp 17) (.tmp 23) rfl (by simp [Act.eval]) (by simp [Act.eval]) (ys := [(x.n : Int) + i]) HX6.out rfl (by have h9 := HC6.out.box.lt; have := HRB.out; omega) _ rfl ?_
            intro g9 cap9 w9 hown9 hgrow9 hat9 hlt9
            have hbx9 := HC6.out.box.grown hgrow9 (row_blk HC6.out.own HC6.out.box (by decide))
            have hfb9 := HC6.out.fbox.grown hgrow9 (row_blk HC6.out.own HC6.out.fbox (by decide))
            have ho9 : Own w9 (w.heap.size + 2) 3 (.slice (some ⟨g9, 0, none⟩) (i + 1 + 1) cap9) (atL x.n start (i + 1) ++ [(x.n : Int) + i]) := by
              unfold Own
              rw [List.length_append, List.length_singleton, HAL.out]
              exact hown9
            have hCL9 := HC6.out.app ho9 hgrow9 (fun b e => by
              have e : g9 = b := by simpa [Value.ownBlock] using e
              subst e
              rcases hat9 with h1 | h1
              · exact .inl h1
              · exact .inr (by omega))
            have hz9 : atL x.n start (i + 1) ++ [(x.n : Int) + i] = atL x.n start (i + 1 + 1) := by
              rw [atL_succ x.n start (i + 1)]
              congr 2
            rw [hz9] at hCL9
            have cbx := hbx9.cell (j := 0) rfl
            have fbx := hbx9.free 0
            refine hK.out _ _ (hfb9.cell (j := 0) rfl) (fun hHeld => ?_)
            clear hK K
            try simp only [Act.put, List.setIfInBounds_toArray, List.set_cons_zero, List.set_cons_succ]
            refine oneH 8 (by kernel_rfl) rfl (fun K hK => ?_)
            go_simp
            refine hK.out _ _ (hCL9.fbox.cell (j := 0) rfl) (fun hHeld => ?_)
            clear hK K
            try simp only [Act.put, List.setIfInBounds_toArray, List.set_cons_zero, List.set_cons_succ]
            refine wpAnyH_done (by kernel_rfl) ?_ _
            refine NoPanic.normal ?_
            have G1 := Lib.hid hCL9
            have G2 : Hid (UF (x.n + (i + 1)) (fun j => if j = (addN x i).n then (addN x i).n else up j) x.R d) := Lib.hid (by
              have := UF.added HUF.out (n := x.n + i) (by have h9 := ((addN_inv HI.out i).out (addN x i).n (Nat.le_refl _)).1; rw [addN_R, addN_n] at h9; exact h9)
              rw [addN_n]
              exact this)
            clear hown9 hgrow9 hat9 hlt9 hbx9 hfb9 ho9 hCL9 hz9 cbx fbx hHeld
            go_wp2_with fail
            go_roundw
            case rel => exact ⟨i + 1, _, d, _, _, _, by omega, by go_num, G1, G2⟩
            case measure => simp [intOf]; omega
          · go_simp
            go_at_call 100
            refine (add_any _ base fg kk _ up _ _ _ HC4.out.fm (by have := HC4.out.frm.size; omega) (by rw [addN_n]; omega)).mono ?_
            rintro e w5 ⟨rfl, nv, mv, hz5, hf5⟩
            rw [addN_n] at *
            have hm5 : FM w5 base fg kk (addF (addN x i)) (fun j => if j = (addN x i).n then (addN x i).n else up j) nv mv tv := FM.added (fun p => ((addN_inv HI.out i).out _ (Nat.le_refl _)).2 p) (by rw [addN_n]; exact hz5)
            have HC5 := Lib.hid (HC4.out.folder hf5 hm5)
            dsimp only
            refine hK.out _ _ (HC5.out.fbox.cell (j := 0) rfl) (fun hHeld => ?_)
            clear hz5 hf5 hm5
            clear hK K
            try simp only [Act.put, List.setIfInBounds_toArray, List.set_cons_zero, List.set_cons_succ]
            have cb5 := HC5.out.box.cell (j := 0) rfl
            refine twoH 0 6 (by kernel_rfl) rfl rfl (fun K hK => ?_) (fun K hK => ?_)
            · go_simp
              refine hK.out _ _ hHeld (fun hHeld => ?_)
              clear hK K
              try simp only [Act.put, List.setIfInBounds_toArray, List.set_cons_zero, List.set_cons_succ]
              refine oneH 6 (by kernel_rfl) rfl (fun K hK => ?_)
              go_simp
              obtain ⟨W6, hW6⟩ : ∃ W6, w5.alloc (.cells #[.int .i64 ((x.n : Int) + i)] 3) = W6 := ⟨_, rfl⟩
              have hb6 : Below w5.heap.size w5 W6 := by rw [← hW6]; exact (Below.refl _ _).alloc (Nat.le_refl _) _
              have hx6 : Blk W6 w5.heap.size 3 [.int .i64 ((x.n : Int) + i)] := by rw [← hW6]; exact Blk.new w5 3 [.int .i64 ((x.n : Int) + i)]
              try rw [hW6]
              have HC6 := Lib.hid (HC5.out.keep hb6)
              have HX6 := Lib.hid hx6
              refine hK.out _ _ (HC6.out.fbox.cell (j := 0) rfl) (fun hHeld => ?_)
              clear hW6 hb6 hx6
              clear hK K
              try simp only [Act.put, List.setIfInBounds_toArray, List.set_cons_zero, List.set_cons_succ]
              refine oneH 7 (by kernel_rfl) rfl (fun K hK => ?_)
              have hoK : OwnK W6 (w.heap.size + 2) 3 1 (.slice la (i + 1) lc) (i + 1) (atL x.n start (i + 1)) := by
                have := HC6.out.own
                unfold Own at this
                rw [HAL.out] at this
                exact this
              refine step_appK Try.info3 rfl (by decide) (by decide) Try.underlying54 hoK (by omega) rfl (.tmp 17) (.tmp 23) rfl (by simp [Act.eval]) (by simp [Act.eval]) (ys := [(x.n : Int) + i]) HX6.out rfl (by have h9 := HC6.out.box.lt; have := HRB.out; omega) _ rfl ?_
              intro g9 cap9 w9 hown9 hgrow9 hat9 hlt9
              have hbx9 := HC6.out.box.grown hgrow9 (row_blk HC6.out.own HC6.out.box (by decide))
              have hfb9 := HC6.out.fbox.grown hgrow9 (row_blk HC6.out.own HC6.out.fbox (by decide))
              have ho9 : Own w9 (w.heap.size + 2) 3 (.slice (some ⟨g9, 0, none⟩) (i + 1 + 1) cap9) (atL x.n start (i + 1) ++ [(x.n : Int) + i]) := by
                unfold Own
                rw [List.length_append, List.length_singleton, HAL.out]
                exact hown9
              have hCL9 := HC6.out.app ho9 hgrow9 (fun b e => by
                have e : g9 = b := by simpa [Value.ownBlock] using e
                subst e
                rcases hat9 with h1 | h1
                · exact .inl h1
                · exact .inr (by omega))
              have hz9 : atL x.n start (i + 1) ++ [(x.n : Int) + i] = atL x.n start (i + 1 + 1) := by
                rw [atL_succ x.n start (i + 1)]
                congr 2
              rw [hz9] at hCL9
              have cbx := hbx9.cell (j := 0) rfl
              have fbx := hbx9.free 0
              refine hK.out _ _ (hfb9.cell (j := 0) rfl) (fun hHeld => ?_)
              clear hK K
              try simp only [Act.put, List.setIfInBounds_toArray, List.set_cons_zero, List.set_cons_succ]
              refine oneH 8 (by kernel_rfl) rfl (fun K hK => ?_)
              go_simp
              refine hK.out _ _ (hCL9.fbox.cell (j := 0) rfl) (fun hHeld => ?_)
              clear hK K
              try simp only [Act.put, List.setIfInBounds_toArray, List.set_cons_zero, List.set_cons_succ]
              refine wpAnyH_done (by kernel_rfl) ?_ _
              refine NoPanic.normal ?_
              have G1 := Lib.hid hCL9
              have G2 : Hid (UF (x.n + (i + 1)) (fun j => if j = (addN x i).n then (addN x i).n else up j) x.R d) := Lib.hid (by
                have := UF.added HUF.out (n := x.n + i) (by have h9 := ((addN_inv HI.out i).out (addN x i).n (Nat.le_refl _)).1; rw [addN_R, addN_n] at h9; exact h9)
                rw [addN_n]
                exact this)
              clear hown9 hgrow9 hat9 hlt9 hbx9 hfb9 ho9 hCL9 hz9 cbx fbx hHeld
              go_wp2_with fail
              go_roundw
              case rel => exact ⟨i + 1, _, d, _, _, _, by omega, by go_num, G1, G2⟩
              case measure => simp [intOf]; omega
            · go_simp
              obtain ⟨W6, hW6⟩ : ∃ W6, w5.alloc (.cells #[.int .i64 ((x.n : Int) + i)] 3) = W6 := ⟨_, rfl⟩
              have hb6 : Below w5.heap.size w5 W6 := by rw [← hW6]; exact (Below.refl _ _).alloc (Nat.le_refl _) _
              have hx6 : Blk W6 w5.heap.size 3 [.int .i64 ((x.n : Int) + i)] := by rw [← hW6]; exact Blk.new w5 3 [.int .i64 ((x.n : Int) + i)]
              try rw [hW6]
              have HC6 := Lib.hid (HC5.out.keep hb6)
              have HX6 := Lib.hid hx6
              refine hK.out _ _ (HC6.out.fbox.cell (j := 0) rfl) (fun hHeld => ?_)
              clear hW6 hb6 hx6
              clear hK K
              try simp only [Act.put, List.setIfInBounds_toArray, List.set_cons_zero, List.set_cons_succ]
              have cb6 := HC6.out.box.cell (j := 0) rfl
              refine oneH 0 (by kernel_rfl) rfl (fun K hK => ?_)
              go_simp
              refine hK.out _ _ hHeld (fun hHeld => ?_)
              clear hK K
              try simp only [Act.put, List.setIfInBounds_toArray, List.set_cons_zero, List.set_cons_succ]
              refine oneH 7 (by kernel_rfl) rfl (fun K hK => ?_)
              have hoK : OwnK W6 (w.heap.size + 2) 3 1 (.slice la (i + 1) lc) (i + 1) (atL x.n start (i + 1)) := by
                have := HC6.out.own
                unfold Own at this
                rw [HAL.out] at this
                exact this
              refine step_appK Try.info3 rfl (by decide) (by decide) Try.underlying54 hoK (by omega) rfl (.tmp 17) (.tmp 23) rfl (by simp [Act.eval]) (by simp [Act.eval]) (ys := [(x.n : Int) + i]) HX6.out rfl (by have h9 := HC6.out.box.lt; have := HRB.out; omega) _ rfl ?_
              intro g9 cap9 w9 hown9 hgrow9 hat9 hlt9
              have hbx9 := HC6.out.box.grown hgrow9 (row_blk HC6.out.own HC6.out.box (by decide))
              have hfb9 := HC6.out.fbox.grown hgrow9 (row_blk HC6.out.own HC6.out.fbox (by decide))
              have ho9 : Own w9 (w.heap.size + 2) 3 (.slice (some ⟨g9, 0, none⟩) (i + 1 + 1) cap9) (atL x.n start (i + 1) ++ [(x.n : Int) + i]) := by
                unfold Own
                rw [List.length_append, List.length_singleton, HAL.out]
                exact hown9
              have hCL9 := HC6.out.app ho9 hgrow9 (fun b e => by
                have e : g9 = b := by simpa [Value.ownBlock] using e
                subst e
                rcases hat9 with h1 | h1
                · exact .inl h1
                · exact .inr (by omega))
              have hz9 : atL x.n start (i + 1) ++ [(x.n : Int) + i] = atL x.n start (i + 1 + 1) := by
                rw [atL_succ x.n start (i + 1)]
                congr 2
              rw [hz9] at hCL9
              have cbx := hbx9.cell (j := 0) rfl
              have fbx := hbx9.free 0
              refine hK.out _ _ (hfb9.cell (j := 0) rfl) (fun hHeld => ?_)
              clear hK K
              try simp only [Act.put, List.setIfInBounds_toArray, List.set_cons_zero, List.set_cons_succ]
              refine oneH 8 (by kernel_rfl) rfl (fun K hK => ?_)
              go_simp
              refine hK.out _ _ (hCL9.fbox.cell (j := 0) rfl) (fun hHeld => ?_)
              clear hK K
              try simp only [Act.put, List.setIfInBounds_toArray, List.set_cons_zero, List.set_cons_succ]
              refine wpAnyH_done (by kernel_rfl) ?_ _
              refine NoPanic.normal ?_
              have G1 := Lib.hid hCL9
              have G2 : Hid (UF (x.n + (i + 1)) (fun j => if j = (addN x i).n then (addN x i).n else up j) x.R d) := Lib.hid (by
                have := UF.added HUF.out (n := x.n + i) (by have h9 := ((addN_inv HI.out i).out (addN x i).n (Nat.le_refl _)).1; rw [addN_R, addN_n] at h9; exact h9)
                rw [addN_n]
                exact this)
              clear hown9 hgrow9 hat9 hlt9 hbx9 hfb9 ho9 hCL9 hz9 cbx fbx hHeld
              go_wp2_with fail
              go_roundw
              case rel => exact ⟨i + 1, _, d, _, _, _, by omega, by go_num, G1, G2⟩
              case measure => simp [intOf]; omega
      · obtain rfl : i = m := by omega
        have hbel : ∀ (V : World) (y : FS) (up : Nat → Nat) (uv2 hv2 tv2 lw : Value) (A : List Int), CL V w (w.heap.size + 2) base fg kk w.heap.size (w.heap.size + 1) (rb + 1) (.int .i64 k) (.slice va (i + 1) vc) y up uv2 hv2 tv2 uv hv tv lw A → Below w0.heap.size w V := fun V y up uv2 hv2 tv2 lw A hc => by
          have hf := HFM.out
          exact hc.frm.below (Nat.le_trans hbase hf.lt) (Nat.le_trans hbase hb) (fun b e => Nat.le_trans hbase (World.ownsRow.lt hf.ups b e).1) (fun b e => Nat.le_trans hbase (World.ownsRow.lt hf.hass b e).1) (fun b e => Nat.le_trans hbase (World.ownsRow.lt hf.todos b e).1)
        have HBEL := Lib.hid hbel
        have e0 := HC.out.gbox.cell (j := 0) rfl
        have e1 := HC.out.gbox.cell (j := 1) rfl
        clear hbel
        go_wp2_with (go_at_call 68; refine (edges_plain _ _ _).mono ?_; rintro e w5 ⟨rfl, rfl⟩)
        obtain ⟨s, hss⟩ : ∃ s, wr.heap.size = s := ⟨_, rfl⟩
        have hC5 := HC.out.keep ((Below.refl wr.heap.size wr).alloc (Nat.le_refl _) (.cells #[.int .i64 k, .slice va (i + 1) vc] 25))
        have hbs : Blk (wr.alloc (.cells #[.int .i64 k, .slice va (i + 1) vc] 25)) s 25 [.int .i64 k, .slice va (i + 1) vc] := by rw [← hss]; exact Blk.new wr 25 [.int .i64 k, .slice va (i + 1) vc]
        rw [hss]
        obtain ⟨W5, hW5⟩ : ∃ W5, wr.alloc (.cells #[.int .i64 k, .slice va (i + 1) vc] 25) = W5 := ⟨_, rfl⟩
        rw [hW5] at hC5 hbs ⊢
        have hbe : Below w0.heap.size w0 W5 := HW0.out.trans (HBEL.out _ _ _ _ _ _ _ _ hC5)
        have hw5 : w.heap.size ≤ W5.heap.size := hC5.frm.size
        obtain ⟨ga, gcap, hlwe, -, -, -, hcells⟩ := hC5.own.open (n := i + 1) (atL_len _ _ _) (by omega)
        subst hlwe
        have hJ0 : CJ w (w.heap.size + 2) base fg kk w.heap.size (w.heap.size + 1) (rb + 1) (.int .i64 k) (.slice va (i + 1) vc) uv2 hv2 uv hv tv (.slice (some ⟨ga, 0, none⟩) (i + 1) gcap) (atL x.n start (i + 1)) k S ψ E x.n start (x.n + i) (g := g) [] W5 :=
          ⟨addN x i, E, up, d, tv, addN_inv HI.out i, by rw [addN_todo]; exact HT0.out, addN_n x i, fun e he => he, (fun e he => by cases he), by rw [addN_n, addN_R]; exact HUF.out, hC5⟩
        clear hW5 hss e0 e1 hC5 hcells HC HUF
        have hgk := HG.out
        have hrr := HR.out
        refine (wpIn_wide (n := 6)).1 ?_
        refine nameAct (fun A hA => ?_)
        refine wpIn_rangeFunc_ownH rfl (by omega) (gf := 113) (lb := #[.pointer (some ⟨s, 0, none⟩)]) rfl trivial (enters_of Try.func113 (by kernel_rfl) rfl)
          (edgesR_stops 5 (by omega) s k (.slice va (i + 1) vc) g w0 W5 hgk hrr hbs hbe) (fun h1 h2 => h1.trans h2) (fun W l o o' h1 h2 h3 h4 => belowK_b (w := w0) (Nat.le_refl _) W l o o' (by omega) h2 h3 h4) (Below.refl _ _) (fun _ => rfl)
          (fun pre W => CJ w (w.heap.size + 2) base fg kk w.heap.size (w.heap.size + 1) (rb + 1) (.int .i64 k) (.slice va (i + 1) vc) uv2 hv2 uv hv tv (.slice (some ⟨ga, 0, none⟩) (i + 1) gcap) (atL x.n start (i + 1)) k S ψ E x.n start (x.n + i) (g := g) pre W) (fun _ _ _ => False) (CJ.own _ _ _ _ _ _ _ _ _ _ _ _ _ _ _ _ _ _ _ _ _ _ _ _ _ (by omega)) (fun _ _ _ _ _ h _ _ => h.elim) hJ0 (fun x a' W => AxC A 0 x a' W) (fun x a' => AxC.own _ _ _ _ _) ?assign ?body ?done ?stop
        case stop => rintro D c pre W _ _ h _; exact h.elim
        case assign =>
          subst hA
          intro l pre ed W K hi hK
          have hsz : w0.heap.size ≤ W.heap.size := by
            obtain ⟨y, F, up3, d3, tv3, -, -, -, -, -, -, hc⟩ := hi.st
            have := hc.frm.size; omega
          have hfin := hK _ _ ((KeepsOthers.alloc W (.cells #[.int .i64 (ed.1.1 : Int), .int .i64 (ed.1.2.1 : Int)] 70)).from _) ((Below.refl w0.heap.size W).alloc hsz _)
            (CJ.own _ _ _ _ _ _ _ _ _ _ _ _ _ _ _ _ _ _ _ _ _ _ _ _ (W5.heap.size) (by omega) pre W _ none hi ⟨rfl, rfl, rfl, by simp, fun i h _ => Below.heap_alloc W _ i h⟩ (fun r e => by cases e)) ⟨W.heap.size, Nat.zero_le _, Blk.new W 70 [.int .i64 (ed.1.1 : Int), .int .i64 (ed.1.2.1 : Int)], rfl⟩
          obtain ⟨⟨f, p, t⟩, hx⟩ := ed
          simp only [List.setIfInBounds_toArray, List.set_cons_zero, List.set_cons_succ] at hfin
          have HFIN := Lib.hid hfin
          clear hfin hK hi
          gi_wp2
          exact HFIN.out
        case body =>
          subst hA
          rintro l pre ed a' W hl hr ⟨y, F, up3, d3, tv3, i1, i2, i3, i4, i5, i6, hc⟩ ⟨Bx, hBx, hbx, rfl⟩ hlt
          obtain ⟨⟨f, p, t⟩, hx⟩ := ed
          obtain ⟨hx1, hx2, hx3, hx4, hx5⟩ := id hx
          simp only at hx1 hx2 hx3 hx4 hx5 hbx
          simp only [List.setIfInBounds_toArray, List.set_cons_zero, List.set_cons_succ]
          rw [HGN.out] at hx1 hx4
          obtain ⟨W1, hW1⟩ : ∃ W1, W.drew = W1 := ⟨_, rfl⟩
          have hc1 := hc.keep ((Below.refl _ W).drewN' 1)
          change CL W.drew _ _ _ _ _ _ _ _ _ _ _ _ _ _ _ _ _ _ _ _ at hc1
          have hbx1 : Blk W.drew Bx 70 [.int .i64 (f : Int), .int .i64 (p : Int)] := hbx
          have hko := KeepsOthers.drew W
          have hbd : Below w0.heap.size W W.drew := (Below.refl _ _).drewN' 1
          obtain ⟨ga2, gc2, hge, -, -, -, hcells⟩ := hc1.own.open (n := i + 1) (atL_len _ _ _) (by omega)
          obtain ⟨rfl, rfl⟩ : ga = ga2 ∧ gcap = gc2 := by simpa using hge
          have ce1 := hcells f _ (atL_get hx1)
          have ce2 := hcells t _ (atL_get hx4)
          have hed := edge_any W.drew base fg kk y up3 d3 uv2 hv2 tv3 i1 hk4 hc1.fm i6 (by have := hc1.frm.size; omega) (by rw [i3, i2]; simp; omega) (a := atC x.n start f) (p := p) (b := atC x.n start t) (by rw [i3]; have := HLT.out f hx1; omega) (by rw [i3]; have := HLT.out t hx4; omega) hx2 (HGP.out f p t hx5 hx3)
          have hS : (fun w' : World => w'.cell? ⟨w.heap.size, 0, none⟩ = some (.pointer (some ⟨fg, 0, none⟩)) ∧ w'.cell? ⟨rb + 1, 0, none⟩ = some (.slice (some ⟨ga, 0, none⟩) (i + 1) gcap) ∧ w'.cell? ⟨ga, f, none⟩ = some (.int .i64 (atC x.n start f : Int)) ∧ w'.cell? ⟨ga, t, none⟩ = some (.int .i64 (atC x.n start t : Int))) W.drew :=
            ⟨hc1.fbox.cell (j := 0) rfl, hc1.box.cell (j := 0) rfl, ce1, ce2⟩
          have bx0 : W.drew.cell? ⟨Bx, 0, none⟩ = some (.int .i64 (f : Int)) := hbx1.cell (j := 0) rfl
          have bx1 : W.drew.cell? ⟨Bx, 1, none⟩ = some (.int .i64 (p : Int)) := hbx1.cell (j := 1) rfl
          obtain ⟨Af, hAf⟩ : ∃ Af, atC x.n start f = Af := ⟨_, rfl⟩
          obtain ⟨At, hAt⟩ : ∃ At, atC x.n start t = At := ⟨_, rfl⟩
          rw [hAf, hAt] at hed hS
          have f0 : (0 : Int) ≤ f := by omega
          have f1 : (f : Int) < ((i + 1 : Nat) : Int) := by omega
          have t0 : (0 : Int) ≤ t := by omega
          have t1 : (t : Int) < ((i + 1 : Nat) : Int) := by omega
          have f2 : (f : Int) < (i : Int) + 1 := by omega
          have t2 : (t : Int) < (i : Int) + 1 := by omega
          have HED := Lib.hid hed
          have HC1 := Lib.hid hc1
          have HKO := Lib.hid hko
          have HBD := Lib.hid hbd
          have HI4 := Lib.hid i4
          have HI5 := Lib.hid i5
          have HI3 := Lib.hid i3
          have HAF := Lib.hid (And.intro hAf hAt)
          clear hed hc1 hbx hbx1 hko hbd hcells ce1 ce2 hge i1 i2 i3 i4 i5 i6 hc hl hr hlt hW1 hAf hAt hJ0 hbs hbe hgk hrr
          gi_upto_region 9 with (fail)
          refine region_round (S := fun w' => w'.cell? ⟨w.heap.size, 0, none⟩ = some (.pointer (some ⟨fg, 0, none⟩)) ∧ w'.cell? ⟨rb + 1, 0, none⟩ = some (.slice (some ⟨ga, 0, none⟩) (i + 1) gcap) ∧ w'.cell? ⟨ga, f, none⟩ = some (.int .i64 (Af : Int)) ∧ w'.cell? ⟨ga, t, none⟩ = some (.int .i64 (At : Int))) (by kernel_rfl) (by rfl) hS (fun hHeld => ?_)
          clear hS
          refine takeH 0 (v := ?_) rfl (by kernel_rfl) (by kernel_rfl) (by kernel_rfl) (fun _ _ _ h => h) (by rfl) ?_ hHeld ?_
          rotate_left
          · (intro w hSw; (try dsimp only at hSw); go_simp; try with_reducible rfl)
          try simp only [Act.put, List.setIfInBounds_toArray, List.set_cons_zero, List.set_cons_succ]
          refine takeH 1 (v := ?_) rfl (by kernel_rfl) (by kernel_rfl) (by kernel_rfl) (fun _ _ _ h => h) (by rfl) ?_ hHeld ?_
          rotate_left
          · (intro w hSw; (try dsimp only at hSw); go_simp; try with_reducible rfl)
          try simp only [Act.put, List.setIfInBounds_toArray, List.set_cons_zero, List.set_cons_succ]
          refine takeH 2 (v := ?_) rfl (by kernel_rfl) (by kernel_rfl) (by kernel_rfl) (fun _ _ _ h => h) (by rfl) ?_ hHeld ?_
          rotate_left
          · (intro w hSw; (try dsimp only at hSw); go_simp; try with_reducible rfl)
          try simp only [Act.put, List.setIfInBounds_toArray, List.set_cons_zero, List.set_cons_succ]
          refine takeH 6 (v := ?_) rfl (by kernel_rfl) (by kernel_rfl) (by kernel_rfl) (fun _ _ _ h => h) (by rfl) ?_ hHeld ?_
          rotate_left
          · (intro w hSw; (try dsimp only at hSw); go_simp; try with_reducible rfl)
          try simp only [Act.put, List.setIfInBounds_toArray, List.set_cons_zero, List.set_cons_succ]
          refine takeH 8 (v := ?_) rfl (by kernel_rfl) (by kernel_rfl) (by kernel_rfl) (fun _ _ _ h => h) (by rfl) ?_ hHeld ?_
          rotate_left
          · (intro w hSw; (try dsimp only at hSw); go_simp; try with_reducible rfl)
          try simp only [Act.put, List.setIfInBounds_toArray, List.set_cons_zero, List.set_cons_succ]
          refine takeH 9 (v := ?_) rfl (by kernel_rfl) (by kernel_rfl) (by kernel_rfl) (fun _ _ _ h => h) (by rfl) ?_ hHeld ?_
          rotate_left
          · (intro w hSw; (try dsimp only at hSw); go_simp; try with_reducible rfl)
          try simp only [Act.put, List.setIfInBounds_toArray, List.set_cons_zero, List.set_cons_succ]
          refine takeH 10 (v := ?_) rfl (by kernel_rfl) (by kernel_rfl) (by kernel_rfl) (fun _ _ _ h => h) (by rfl) ?_ hHeld ?_
          rotate_left
          · (intro w hSw; (try dsimp only at hSw); go_simp; try with_reducible rfl)
          try simp only [Act.put, List.setIfInBounds_toArray, List.set_cons_zero, List.set_cons_succ]
          refine takeH 11 (v := ?_) rfl (by kernel_rfl) (by kernel_rfl) (by kernel_rfl) (fun _ _ _ h => h) (by rfl) ?_ hHeld ?_
          rotate_left
          · (intro w hSw; (try dsimp only at hSw); go_simp; try with_reducible rfl)
          try simp only [Act.put, List.setIfInBounds_toArray, List.set_cons_zero, List.set_cons_succ]
          refine twoH 3 7 (by kernel_rfl) rfl rfl (fun K hK => ?_) (fun K hK => ?_)
          · go_simp
            refine hK.out _ _ hHeld (fun hHeld => ?_)
            clear hK K
            try simp only [Act.put, List.setIfInBounds_toArray, List.set_cons_zero, List.set_cons_succ]
            refine takeH 4 (v := ?_) rfl (by kernel_rfl) (by kernel_rfl) (by kernel_rfl) (fun _ _ _ h => h) (by rfl) ?_ hHeld ?_
            rotate_left
            · (intro w hSw; (try dsimp only at hSw); go_simp; try with_reducible rfl)
            try simp only [Act.put, List.setIfInBounds_toArray, List.set_cons_zero, List.set_cons_succ]
            refine takeH 5 (v := ?_) rfl (by kernel_rfl) (by kernel_rfl) (by kernel_rfl) (fun _ _ _ h => h) (by rfl) ?_ hHeld ?_
            rotate_left
            · (intro w hSw; (try dsimp only at hSw); go_simp; try with_reducible rfl)
            try simp only [Act.put, List.setIfInBounds_toArray, List.set_cons_zero, List.set_cons_succ]
            refine oneH 7 (by kernel_rfl) rfl (fun K hK => ?_)
            go_simp
            refine hK.out _ _ hHeld (fun hHeld => ?_)
            clear hK K
            try simp only [Act.put, List.setIfInBounds_toArray, List.set_cons_zero, List.set_cons_succ]
            refine oneH 12 (by kernel_rfl) rfl (fun K hK => ?_)
            go_simp
            go_at_call 103
            refine HED.out.mono ?_
            rintro e w7 ⟨rfl, y', up', d', tv', j1, j2, j3, j4, j5, j6⟩
            have hcl := HC1.out.folder j6 j4
            have hbe7 : Below w0.heap.size W.drew w7 := by
              have hf := HC1.out.fm
              exact j6.below (Nat.le_trans hbase hf.lt) (by have := HC1.out.frm.size; omega) (fun b e => Nat.le_trans hbase (World.ownsRow.lt hf.ups b e).1) (fun b e => Nat.le_trans hbase (World.ownsRow.lt hf.hass b e).1) (fun b e => Nat.le_trans hbase (World.ownsRow.lt hf.todos b e).1)
            have hka := HC1.out.fm.others j6
            have hFF : ∀ e ∈ pre ++ [(⟨(f, p, t), hx⟩ : EdG k g)], edC x.n start e.1 ∈ (Af, p, At) :: F := fun e he => by
              rcases List.mem_append.1 he with he | he
              · exact List.mem_cons_of_mem _ (HI5.out e he)
              · rw [List.mem_singleton.1 he]
                unfold edC
                dsimp only
                rw [HAF.out.1, HAF.out.2]
                exact List.mem_cons_self ..
            have hfin : CJ w (w.heap.size + 2) base fg kk w.heap.size (w.heap.size + 1) (rb + 1) (.int .i64 k) (.slice va (i + 1) vc) uv2 hv2 uv hv tv (.slice (some ⟨ga, 0, none⟩) (i + 1) gcap) (atL x.n start (i + 1)) k S ψ E x.n start (x.n + i) (g := g) (pre ++ [⟨(f, p, t), hx⟩]) w7 :=
              ⟨y', (Af, p, At) :: F, up', d', tv', j1, j2, by rw [j3]; exact HI3.out, fun e he => List.mem_cons_of_mem _ (HI4.out e he), hFF, j5, hcl⟩
            have HFIN := Lib.hid (And.intro ((HKO.out.trans hka).from W5.heap.size) (And.intro (HBD.out.trans hbe7) hfin))
            have cN1 := hcl.fbox.cell (j := 0) rfl
            have cN2 := hcl.box.cell (j := 0) rfl
            have hAw : (atL x.n start (i + 1)).length = i + 1 := atL_len _ _ _
            obtain ⟨ga3, gc3, hge3, -, -, -, hce3⟩ := hcl.own.open (n := i + 1) hAw (by omega)
            obtain ⟨rfl, rfl⟩ : ga = ga3 ∧ gcap = gc3 := by simpa using hge3
            have cN3 := hce3 f _ (atL_get hx1)
            have cN4 := hce3 t _ (atL_get hx4)
            rw [HAF.out.1] at cN3
            rw [HAF.out.2] at cN4
            dsimp only
            refine hK.out _ _ ⟨cN1, cN2, cN3, cN4⟩ (fun hHeld => ?_)
            clear hcl hbe7 hka hFF hfin cN1 cN2 hAw hge3 hce3 cN3 cN4 j1 j2 j3 j4 j5 j6
            clear hK K
            try simp only [Act.put, List.setIfInBounds_toArray, List.set_cons_zero, List.set_cons_succ]
            refine wpAnyH_done (by kernel_rfl) ?_ _
            simp only [OnlyN]
            gi_wp2
            exact HFIN.out
          · go_simp
            refine hK.out _ _ hHeld (fun hHeld => ?_)
            clear hK K
            try simp only [Act.put, List.setIfInBounds_toArray, List.set_cons_zero, List.set_cons_succ]
            refine oneH 3 (by kernel_rfl) rfl (fun K hK => ?_)
            go_simp
            refine hK.out _ _ hHeld (fun hHeld => ?_)
            clear hK K
            try simp only [Act.put, List.setIfInBounds_toArray, List.set_cons_zero, List.set_cons_succ]
            refine takeH 4 (v := ?_) rfl (by kernel_rfl) (by kernel_rfl) (by kernel_rfl) (fun _ _ _ h => h) (by rfl) ?_ hHeld ?_
            rotate_left
            · (intro w hSw; (try dsimp only at hSw); go_simp; try with_reducible rfl)
            try simp only [Act.put, List.setIfInBounds_toArray, List.set_cons_zero, List.set_cons_succ]
            refine takeH 5 (v := ?_) rfl (by kernel_rfl) (by kernel_rfl) (by kernel_rfl) (fun _ _ _ h => h) (by rfl) ?_ hHeld ?_
            rotate_left
            · (intro w hSw; (try dsimp only at hSw); go_simp; try with_reducible rfl)
            try simp only [Act.put, List.setIfInBounds_toArray, List.set_cons_zero, List.set_cons_succ]
            refine oneH 12 (by kernel_rfl) rfl (fun K hK => ?_)
            go_simp
            go_at_call 103
            refine HED.out.mono ?_
            rintro e w7 ⟨rfl, y', up', d', tv', j1, j2, j3, j4, j5, j6⟩
            have hcl := HC1.out.folder j6 j4
            have hbe7 : Below w0.heap.size W.drew w7 := by
              have hf := HC1.out.fm
              exact j6.below (Nat.le_trans hbase hf.lt) (by have := HC1.out.frm.size; omega) (fun b e => Nat.le_trans hbase (World.ownsRow.lt hf.ups b e).1) (fun b e => Nat.le_trans hbase (World.ownsRow.lt hf.hass b e).1) (fun b e => Nat.le_trans hbase (World.ownsRow.lt hf.todos b e).1)
            have hka := HC1.out.fm.others j6
            have hFF : ∀ e ∈ pre ++ [(⟨(f, p, t), hx⟩ : EdG k g)], edC x.n start e.1 ∈ (Af, p, At) :: F := fun e he => by
              rcases List.mem_append.1 he with he | he
              · exact List.mem_cons_of_mem _ (HI5.out e he)
              · rw [List.mem_singleton.1 he]
                unfold edC
                dsimp only
                rw [HAF.out.1, HAF.out.2]
                exact List.mem_cons_self ..
            have hfin : CJ w (w.heap.size + 2) base fg kk w.heap.size (w.heap.size + 1) (rb + 1) (.int .i64 k) (.slice va (i + 1) vc) uv2 hv2 uv hv tv (.slice (some ⟨ga, 0, none⟩) (i + 1) gcap) (atL x.n start (i + 1)) k S ψ E x.n start (x.n + i) (g := g) (pre ++ [⟨(f, p, t), hx⟩]) w7 :=
              ⟨y', (Af, p, At) :: F, up', d', tv', j1, j2, by rw [j3]; exact HI3.out, fun e he => List.mem_cons_of_mem _ (HI4.out e he), hFF, j5, hcl⟩
            have HFIN := Lib.hid (And.intro ((HKO.out.trans hka).from W5.heap.size) (And.intro (HBD.out.trans hbe7) hfin))
            have cN1 := hcl.fbox.cell (j := 0) rfl
            have cN2 := hcl.box.cell (j := 0) rfl
            have hAw : (atL x.n start (i + 1)).length = i + 1 := atL_len _ _ _
            obtain ⟨ga3, gc3, hge3, -, -, -, hce3⟩ := hcl.own.open (n := i + 1) hAw (by omega)
            obtain ⟨rfl, rfl⟩ : ga = ga3 ∧ gcap = gc3 := by simpa using hge3
            have cN3 := hce3 f _ (atL_get hx1)
            have cN4 := hce3 t _ (atL_get hx4)
            rw [HAF.out.1] at cN3
            rw [HAF.out.2] at cN4
            dsimp only
            refine hK.out _ _ ⟨cN1, cN2, cN3, cN4⟩ (fun hHeld => ?_)
            clear hcl hbe7 hka hFF hfin cN1 cN2 hAw hge3 hce3 cN3 cN4 j1 j2 j3 j4 j5 j6
            clear hK K
            try simp only [Act.put, List.setIfInBounds_toArray, List.set_cons_zero, List.set_cons_succ]
            refine wpAnyH_done (by kernel_rfl) ?_ _
            simp only [OnlyN]
            gi_wp2
            exact HFIN.out
        case done =>
          subst hA
          rintro D xs W hD hxs ⟨y, F, up3, d3, tv3, i1, i2, i3, i4, i5, i6, hc⟩ hK
          have hD2 : W5.heap.size ≤ D := hD
          have hgr := grownBy_putObj' W D (.deferred none)
          have hc9 := hc.other hgr (fun r e => by cases e; exact ⟨by omega, _, hK, rfl⟩)
          have hmem : ∀ v p u, nxT g v p = some u → p % 2 = 0 → (atC x.n start v, p, atC x.n start u) ∈ F := fun v p u h1 h2 => by
            have h3 := (mem_edgesR HG.out).2 ⟨h1, h2⟩
            rw [← hxs] at h3
            obtain ⟨e, he, h4⟩ := List.mem_map.1 h3
            have := i5 e he
            unfold edC at this
            rw [h4] at this
            exact this
          have HFIN := Lib.hid (show ∃ y ψ F up' d' uv' hv' tv', Inv k S ψ F y ∧ y.todo = [] ∧ (∀ i, i < x.n → ψ i = φ i) ∧ (∀ e ∈ E, e ∈ F) ∧ (∀ v p u, nxT g v p = some u → p % 2 = 0 → (atC x.n start v, p, atC x.n start u) ∈ F) ∧
            y.n = x.n + g.length - 1 ∧ FM (W.putObj D (.deferred none)) base fg kk y up' uv' hv' tv' ∧ UF y.n up' y.R d' ∧ Frm w (W.putObj D (.deferred none)) fg uv hv tv uv' hv' tv' from ⟨y, ψ, F, up3, d3, uv2, hv2, tv3, i1, i2, HOLD.out, i4, hmem, by rw [i3, HGN.out]; omega, hc9.fm, i6, hc9.frm⟩)
          have HK := Lib.hid hK
          clear hc9 hmem hgr hD hxs hD2 i1 i2 i3 i4 i5 i6 hc hK hJ0 hbs hbe hgk hrr
          go_wp2_with fail
          refine ⟨by simp, .inl ⟨_, _, rfl, run_takeDeferred HK.out, ?_⟩⟩
          refine ⟨_, results_none rfl _ _ _, ?_⟩
          exact ⟨rfl, HFIN.out⟩
end Go.Proofs.Ytlooclpfoeakgaa

/- A folder that is made of new blocks alone: its steps. -/
namespace Go.Proofs.Ytlooclpfoeakgaa
open Go.RowKit

/-- a folder with nothing left to join, made behind w1 -/
def FD (w1 : World) (k : Nat) (S : List UInt8 → Prop) (φ : Nat → List UInt8) (E : List (Nat × Nat × Nat)) (y : FS) (w : World) : Prop :=
  Inv k S φ E y ∧ y.todo = [] ∧ Below w1.heap.size w1 w ∧ ∃ (up d : Nat → Nat) (uv hv tv : Value), FM w w1.heap.size w1.heap.size k y up uv hv tv ∧ UF y.n up y.R d
theorem FM.frm_below {w w' : World} {base g k : Nat} {x : FS} {up : Nat → Nat} {uv hv tv uv' hv' tv' : Value} (h : FM w base g k x up uv hv tv) (hF : Frm w w' g uv hv tv uv' hv' tv') (hb : base ≤ w.heap.size) (hg : base ≤ g) : Below base w w' :=
  hF.below hg hb (fun b e => (World.ownsRow.lt h.ups b e).1) (fun b e => (World.ownsRow.lt h.hass b e).1) (fun b e => (World.ownsRow.lt h.todos b e).1)
theorem FD.keep {w1 w w' : World} {k : Nat} {S : List UInt8 → Prop} {φ : Nat → List UInt8} {E : List (Nat × Nat × Nat)} {y : FS} (h : FD w1 k S φ E y w) (hb : Below w.heap.size w w') : FD w1 k S φ E y w' := by
  obtain ⟨hI, h0, hB, up, d, uv, hv, tv, hM, hU⟩ := h
  exact ⟨hI, h0, hB.trans (hb.mono hB.size), up, d, uv, hv, tv, hM.keep hb, hU⟩
theorem newFD (w1 : World) (k : Nat) (S : List UInt8 → Prop) (φ : Nat → List UInt8) : Calls Try.prog 58 #[.int .i64 k] w1 fun e w' => e = .returned (.pointer (some ⟨w1.heap.size, 0, none⟩)) ∧ FD w1 k S φ [] fs1 w' := by
  refine (newFolder_any w1 k).mono ?_
  rintro e w' ⟨rfl, up, uv, hv, tv, h1, h2, h3⟩
  exact ⟨rfl, inv_fs1 k S φ, rfl, h3, up, _, uv, hv, tv, h1, h2⟩
theorem FD.copied {w1 w : World} {k : Nat} {S : List UInt8 → Prop} {φ : Nat → List UInt8} {E : List (Nat × Nat × Nat)} {x : FS} (h : FD w1 k S φ E x w) {g : List (List Int)} {rv : Value} (hr : RowsR w1 rv g) (hg : RowG k g) (start : Nat) (hs : start < x.n) (Wf : Nat → List UInt8) (hW0 : Wf 0 = [])
    (hG : ∀ v p u, nxT g v p = some u → p % 2 = 0 → Gen S (φ start ++ Wf v ++ [letP p] ++ invL (φ start ++ Wf u))) (hn : x.n ≤ 20000) :
    Calls Try.prog 81 #[.pointer (some ⟨w1.heap.size, 0, none⟩), .agg #[.int .i64 k, rv], .int .i64 start] w fun e w' => e = .returned (.tuple #[]) ∧ ∃ y ψ F, FD w1 k S ψ F y w' ∧ (∀ i, i < x.n → ψ i = φ i) ∧ (∀ e ∈ E, e ∈ F) ∧ (∀ v p u, nxT g v p = some u → p % 2 = 0 → (atC x.n start v, p, atC x.n start u) ∈ F) ∧ y.n = x.n + g.length - 1 := by
  obtain ⟨hI, h0, hB, up, d, uv, hv, tv, hM, hU⟩ := h
  refine (copied_any w w1 w1.heap.size w1.heap.size k x up d uv hv tv hI h0 hM hU hB.size g _ rv hr hB (Nat.le_refl _) hg rfl start hs Wf hW0 hG hn).mono ?_
  rintro e w' ⟨rfl, y, ψ, F, up', d', uv', hv', tv', a1, a2, a3, a4, a5, a6, a7, a8, a9⟩
  exact ⟨rfl, y, ψ, F, ⟨a1, a2, hB.trans (hM.frm_below a9 hB.size (Nat.le_refl _)), up', d', uv', hv', tv', a7, a8⟩, a3, a4, a5, a6⟩
theorem FD.add {w1 w : World} {k : Nat} {S : List UInt8 → Prop} {φ : Nat → List UInt8} {E : List (Nat × Nat × Nat)} {x : FS} (h : FD w1 k S φ E x w) (hn : x.n < 1000000) (s : List UInt8) :
    Calls Try.prog 100 #[.pointer (some ⟨w1.heap.size, 0, none⟩), .agg bareL.toArray] w fun e w' => e = .returned (.int .i64 x.n) ∧ FD w1 k S (fun i => if i < x.n then φ i else s) E (addF x) w' := by
  obtain ⟨hI, h0, hB, up, d, uv, hv, tv, hM, hU⟩ := h
  refine (add_any w w1.heap.size w1.heap.size k x up uv hv tv hM hB.size hn).mono ?_
  rintro e w' ⟨rfl, nv, mv, hz, hF⟩
  refine ⟨rfl, inv_add (inv_phi hI (fun i hi => if_pos hi) hI.has_lt), h0, hB.trans (hM.frm_below hF hB.size (Nat.le_refl _)), _, d, nv, mv, tv, FM.added (fun p => (hI.out x.n (Nat.le_refl _)).2 p) hz, UF.added hU (hI.out x.n (Nat.le_refl _)).1⟩
theorem FD.way {w1 w : World} {k : Nat} {S : List UInt8 → Prop} {φ : Nat → List UInt8} {E : List (Nat × Nat × Nat)} {x : FS} (h : FD w1 k S φ E x w) (hk : k ≤ 4) (s : ByteArray) (a b : Nat) (ha : a < x.n) (hbb : b < x.n) (hw : ∀ c ∈ bts s, letter c.toNat = true ∧ placeB c < 2 * k)
    (hG : Gen S (φ a ++ bts s ++ invL (φ b))) (hne : s.size ≠ 0 ∨ a = b) (hn : 8 * (x.n + s.size) + 2 < 1000000) :
    Calls Try.prog 61 #[.pointer (some ⟨w1.heap.size, 0, none⟩), .int .i64 a, .string s, .int .i64 b] w fun e w' => e = .returned (.tuple #[]) ∧ ∃ y ψ F, FD w1 k S ψ F y w' ∧ (∀ i, i < x.n → ψ i = φ i) ∧ (∀ e ∈ E, e ∈ F) ∧ Along F a (bts s) b ∧ x.n ≤ y.n ∧ y.n ≤ x.n + s.size := by
  obtain ⟨hI, h0, hB, up, d, uv, hv, tv, hM, hU⟩ := h
  refine (way_any w w1.heap.size w1.heap.size k x up d uv hv tv hI hk h0 hM hU hB.size s a b ha hbb hw hG hne hn).mono ?_
  rintro e w' ⟨rfl, y, ψ, F, up', d', uv', hv', tv', a1, a2, a3, a4, a5, a6, a7, a8, a9, a10⟩
  exact ⟨rfl, y, ψ, F, ⟨a1, a2, hB.trans (hM.frm_below a10 hB.size (Nat.le_refl _)), up', d', uv', hv', tv', a8, a9⟩, a3, a4, a5, a6, a7⟩
theorem FD.graph {w1 w : World} {k : Nat} {S : List UInt8 → Prop} {φ : Nat → List UInt8} {E : List (Nat × Nat × Nat)} {x : FS} (h : FD w1 k S φ E x w) (hk1 : 1 ≤ k) (hk4 : k ≤ 4) (s0 : Nat) (hs : s0 < x.n) (hn : x.n ≤ 5000) (hφ : φ s0 = []) (hS : ∀ a, S a → runS (stepL k (nxF x)) (x.R s0) a = some (x.R s0)) :
    Calls Try.prog 62 #[.pointer (some ⟨w1.heap.size, 0, none⟩), .int .i64 s0] w fun e w' => ∃ (rv : Value) (g : List (List Int)), e = .returned (.agg #[.int .i64 k, rv]) ∧ IsGraph k S g ∧ RowsAt w' w1.heap.size rv g (fun _ => True) ∧ Below w1.heap.size w1 w' := by
  obtain ⟨hI, h0, hB, up, d, uv, hv, tv, hM, hU⟩ := h
  refine (graph_any w w1.heap.size w1.heap.size k x up d uv hv tv s0 5000 hI h0 hM hU hk1 hk4 hs hn (Nat.le_refl _)).mono ?_
  rintro e w' ⟨rv, G, rfl, hp, hne, hr, -, hF⟩
  exact ⟨rv, _, rfl, graph_made (by omega) hI h0 hs hn hφ hp hne hS, hr.mono hB.size, hB.trans (hM.frm_below hF hB.size (Nat.le_refl _))⟩
end Go.Proofs.Ytlooclpfoeakgaa

/- A graph turned by a word: the walk. -/
namespace Go.Proofs.Ytlooclpfoeakgaa
open Go.RowKit

theorem ret83 {w : World} {tmps : Array Value} {g : Nat} {M : List Value} (hM : M.length = 2) (hp : tmps.getD 4 undef = .pointer (some ⟨g, 0, none⟩)) (hb : Blk w g 25 M) : (results Try.f83 tmps).run Try.prog w = .ok (.agg M.toArray) w :=
  results_cell_row rfl tmps w g 25 _ (0, 0) _ hp hb Try.underlying25 rfl (by rw [Try.size25]; simp [hM])

theorem turn_runs {k : Nat} {S : List UInt8 → Prop} {ψ : Nat → List UInt8} {F : List (Nat × Nat × Nat)} {y : FS} (hk : k ≤ 26) (hI : Inv k S ψ F y) (h0 : y.todo = []) {g : List (List Int)} (hf : FoldP k (nxT g)) {s : List UInt8} {st : Nat} (hA : Along F st s 0)
    (hE : ∀ v p u, nxT g v p = some u → p % 2 = 0 → (atC 1 0 v, p, atC 1 0 u) ∈ F) : ∀ a, conjL k g s a → runS (stepL k (nxF y)) (y.R st) a = some (y.R st) := by
  rintro a ⟨l, hl, rfl⟩
  have h1 := settled_along hI h0 hA
  have h2 := copy_run hk hI h0 hf 1 0 hE l 0 0 hl
  exact run_app_some (run_app_some h1 h2) (run_inv ((settled_fold hI h0).foldd hk) h1)
set_option maxRecDepth 100000 in
set_option maxHeartbeats 4000000 in
theorem turn_any (w : World) (k : Nat) (rv : Value) (g : List (List Int)) (h : RowsR w rv g) (hg : GoodG k g) (s : ByteArray) (hlen : g.length + s.size < 5000) (hw : ∀ c ∈ bts s, letter c.toNat = true ∧ placeB c < 2 * k) :
    Calls Try.prog 83 #[.agg #[.int .i64 k, rv], .string s] w fun e w' => ∃ (rv' : Value) (g' : List (List Int)), e = .returned (.agg #[.int .i64 k, rv']) ∧ IsGraph k (conjL k g (bts s)) g' ∧ RowsAt w' w.heap.size rv' g' (fun _ => True) ∧ Below w.heap.size w w' := by
  have hk1 := hg.k1
  have hk4 := hg.k4
  have hn1 := hg.n1
  obtain ⟨w1, hw1⟩ : ∃ w1, w1 = (w.alloc (.cells #[.int .i64 k, rv] 25)).alloc (.cells #[.int .i64 0, .slice none 0 0] 25) := ⟨_, rfl⟩
  have hb1 : Below w.heap.size w w1 := by rw [hw1]; exact ((Below.refl _ w).alloc (Nat.le_refl _) _).alloc (by simp) _
  have hx1 : Blk w1 w.heap.size 25 [.int .i64 k, rv] := by rw [hw1]; exact (Blk.new w 25 [.int .i64 k, rv]).alloc _
  have hz1 : Blk w1 (w.heap.size + 1) 25 zeroG := by
    rw [hw1]
    have := Blk.new (w.alloc (.cells #[.int .i64 k, rv] 25)) 25 zeroG
    rw [show (w.alloc (.cells #[.int .i64 k, rv] 25)).heap.size = w.heap.size + 1 by simp] at this
    exact this
  have hs1 : w1.heap.size = w.heap.size + 2 := by rw [hw1]; simp
  have h1 := h.keep hb1
  have c0 := hx1.cell (j := 0) rfl
  have HNF := Lib.hid (newFD w1 k (conjL k g (bts s)) (fun _ => bts s))
  have HB := Lib.hid hb1
  have HX := Lib.hid hx1
  have HZ := Lib.hid hz1
  have HS := Lib.hid hs1
  have HR := Lib.hid h1
  have HG := Lib.hid hg
  have HW := Lib.hid hw
  clear h h1 hb1 hx1 hz1 hs1 hg hw
  obtain ⟨fg, hfg⟩ : ∃ fg, w1.heap.size = fg := ⟨_, rfl⟩
  rw [hfg] at HNF
  go_enter Try.func83, Try.ntmps83
  go_upto_region 1 with fail
  rw [← hw1]
  clear hw1
  go_upto_region 2 with (go_at_call 58; refine HNF.out.mono ?_; rintro e w2 ⟨rfl, hd2⟩)
  have hbw2 := hd2.2.2.1
  have c2 := ((hbw2.block _ (by have := HS.out; omega)) : w2.heap[w.heap.size]? = _)
  obtain ⟨HX2, HZ2⟩ : Hid (Blk w2 w.heap.size 25 [.int .i64 k, rv]) ∧ Hid (Blk w2 (w.heap.size + 1) 25 zeroG) := ⟨Lib.hid (HX.out.keep hbw2), Lib.hid (HZ.out.keep hbw2)⟩
  have c21 := HX2.out.cell (j := 0) rfl
  have c22 := HX2.out.cell (j := 1) rfl
  have hcp := hd2.copied HR.out HG.out.rowG 0 (by show 0 < 1; omega) (wayW k g) (way_zero k g) (fun v p u h1 h2 => conj_edge HG.out _ h1) (by show 1 ≤ 20000; omega)
  rw [hfg] at hcp
  have HCP := Lib.hid hcp
  clear hcp hd2 hbw2 c2 HNF
  go_upto_region 3 with (go_at_call 81; refine HCP.out.mono ?_; rintro e w3 ⟨rfl, y, ψ, F, hd3, hψ, -, hF, hn⟩)
  have hbw3 := hd3.2.2.1
  have HX3 := Lib.hid (HX.out.keep hbw3)
  have HZ3 := Lib.hid (HZ.out.keep hbw3)
  have HN : Hid (y.n = g.length) := Lib.hid (by rw [hn]; show 1 + g.length - 1 = _; omega)
  have HD3 := Lib.hid hd3
  have HPSI : Hid (ψ 0 = bts s) := Lib.hid (hψ 0 (by show 0 < 1; omega))
  have HF := Lib.hid hF
  clear hd3 hbw3 hn hψ hF HX2 HZ2 HCP c21 c22
  have hy1 : 0 < y.n := by rw [HN.out]; omega
  have hyn : y.n + s.size < 5000 := by rw [HN.out]; exact hlen
  by_cases hs : bts s = []
  · have hse : s.toList.isEmpty = true := by rw [ByteArray.toList_eq]; show (bts s).isEmpty = true; rw [hs]; rfl
    have hst := hy1
    have hwy := HD3.out.way hk4 s 0 0 hy1 hy1 HW.out (by rw [HPSI.out, hs]; exact .nil) (.inr rfl) (by omega)
    rw [hfg] at hwy
    have HWY := Lib.hid hwy
    have HFX := HF
    have HPX : Hid (ψ 0 = []) := Lib.hid (HPSI.out.trans hs)
    clear hwy HD3 HF hs
    go_wp2_with (first
      | (go_at_call 61
         refine HWY.out.mono ?_
         rintro e w5 ⟨rfl, y2, ψ2, F2, hd5, p1, p2, p3, p4, p5⟩
         have HD5 := Lib.hid hd5
         have HX5 := Lib.hid (HZ.out.keep hd5.2.2.1)
         have HS2 := Lib.hid (turn_runs (S := conjL k g (bts s)) (by omega) hd5.1 hd5.2.1 HG.out.sym p3 (fun v p u h1 h2 => p2 _ (HFX.out v p u h1 h2)))
         have HP2 := Lib.hid (p1 _ hst)
         clear hd5 p1 p2 p3)
      | (go_at_call 62
         have hgr := HD5.out.graph hk1 hk4 _ (Nat.lt_of_lt_of_le hst p4) (by omega) (HP2.out.trans HPX.out) HS2.out
         rw [hfg] at hgr
         refine hgr.mono ?_
         rintro e w6 ⟨rv6, g6, rfl, hg6, hr6, hb6⟩
         have HX6 := Lib.hid (HZ.out.keep (hfg ▸ hb6))
         have HG6 := Lib.hid hg6
         have HR6 := Lib.hid hr6
         have HB6 := Lib.hid hb6
         have HRV := Lib.hid (rows_one hr6 k)
         clear hgr hg6 hr6 hb6)
      | (with_reducible show wpList _ _ _ (Oper.mk _ (Op.store 25 _ _) _ _ _ _ :: _) _ _; (refine wpList_storeB (vs := [.int .i64 k, rv6]) HX6.out Try.size25 rfl rfl HRV.out rfl _ _ rfl rfl rfl ?_)))
    have hr1 := HX6.out.set 0 (.int .i64 k)
    have hrow := ((HR6.out.mono (B2 := w.heap.size) (by have := HS.out; omega)).other HX6.out (by decide) (by decide) 0 (.int .i64 k)).other hr1 (by decide) (by decide) 1 rv6
    have hb6 : Below w.heap.size w w6 := HB.out.trans (HB6.out.mono (by have := HS.out; omega))
    exact bodyPost_ret (ret83 (M := [.int .i64 k, rv6]) rfl rfl (hr1.set 1 rv6)) rfl ⟨rv6, g6, rfl, HG6.out, hrow, below_setCells (Nat.le_succ _) [.int .i64 k, rv6] 0 hb6⟩
  · have hse : s.toList.isEmpty = false := by rw [ByteArray.toList_eq]; show (bts s).isEmpty = false; cases h : bts s with
      | nil => exact absurd h hs
      | cons a l => rfl
    have hsz : s.size ≠ 0 := by intro e; rw [← bts_len] at e; exact hs (List.eq_nil_of_length_eq_zero e)
    go_upto_region 5 with fail
    go_region_with (first
      | (go_at_call 101; refine (bare_any _).mono ?_; rintro e w4 ⟨rfl, hb4⟩; have hb4' : Below w3.heap.size w3 w4 := ((Below.refl _ w3).drewN' 1).trans (by exact hb4))
      | (go_at_call 100
         have had := (HD3.out.keep hb4').add (by omega) []
         rw [hfg] at had
         refine had.mono ?_
         rintro e w45 ⟨rfl, hd45⟩))
    have hst : y.n < (addF y).n := Nat.lt_succ_self _
    have hwy := hd45.way hk4 s y.n 0 hst (Nat.lt_succ_of_lt hy1) HW.out (by
      show Gen _ ((if y.n < y.n then ψ y.n else []) ++ bts s ++ invL (if 0 < y.n then ψ 0 else []))
      rw [if_neg (Nat.lt_irrefl _), if_pos hy1, HPSI.out]
      exact Gen.refl_ _ _) (.inl hsz) (by show 8 * (y.n + 1 + s.size) + 2 < 1000000; omega)
    rw [hfg] at hwy
    have HWY := Lib.hid hwy
    have HFX := HF
    have HPX : Hid ((fun i => if i < y.n then ψ i else []) y.n = []) := Lib.hid (if_neg (Nat.lt_irrefl _))
    have hadd : (addF y).n = y.n + 1 := rfl
    clear hwy HD3 HF hs hd45 hb4'
    go_wp2_with (first
      | (go_at_call 61
         refine HWY.out.mono ?_
         rintro e w5 ⟨rfl, y2, ψ2, F2, hd5, p1, p2, p3, p4, p5⟩
         have HD5 := Lib.hid hd5
         have HX5 := Lib.hid (HZ.out.keep hd5.2.2.1)
         have HS2 := Lib.hid (turn_runs (S := conjL k g (bts s)) (by omega) hd5.1 hd5.2.1 HG.out.sym p3 (fun v p u h1 h2 => p2 _ (HFX.out v p u h1 h2)))
         have HP2 := Lib.hid (p1 _ hst)
         clear hd5 p1 p2 p3)
      | (go_at_call 62
         have hgr := HD5.out.graph hk1 hk4 _ (Nat.lt_of_lt_of_le hst p4) (by omega) (HP2.out.trans HPX.out) HS2.out
         rw [hfg] at hgr
         refine hgr.mono ?_
         rintro e w6 ⟨rv6, g6, rfl, hg6, hr6, hb6⟩
         have HX6 := Lib.hid (HZ.out.keep (hfg ▸ hb6))
         have HG6 := Lib.hid hg6
         have HR6 := Lib.hid hr6
         have HB6 := Lib.hid hb6
         have HRV := Lib.hid (rows_one hr6 k)
         clear hgr hg6 hr6 hb6)
      | (with_reducible show wpList _ _ _ (Oper.mk _ (Op.store 25 _ _) _ _ _ _ :: _) _ _; (refine wpList_storeB (vs := [.int .i64 k, rv6]) HX6.out Try.size25 rfl rfl HRV.out rfl _ _ rfl rfl rfl ?_)))
    have hr1 := HX6.out.set 0 (.int .i64 k)
    have hrow := ((HR6.out.mono (B2 := w.heap.size) (by have := HS.out; omega)).other HX6.out (by decide) (by decide) 0 (.int .i64 k)).other hr1 (by decide) (by decide) 1 rv6
    have hb6 : Below w.heap.size w w6 := HB.out.trans (HB6.out.mono (by have := HS.out; omega))
    exact bodyPost_ret (ret83 (M := [.int .i64 k, rv6]) rfl rfl (hr1.set 1 rv6)) rfl ⟨rv6, g6, rfl, HG6.out, hrow, below_setCells (Nat.le_succ _) [.int .i64 k, rv6] 0 hb6⟩
end Go.Proofs.Ytlooclpfoeakgaa

/- limited, equal, Turn. -/
namespace Go.Proofs.Ytlooclpfoeakgaa
open Go.RowKit

theorem ret82 {w : World} {tmps : Array Value} {g : Nat} {M : List Value} {e : Value} (hM : M.length = 2) (hp : tmps.getD 2 undef = .pointer (some ⟨g, 0, none⟩)) (he : tmps.getD 3 undef = e) (hb : Blk w g 25 M) : (results Try.f82 tmps).run Try.prog w = .ok (.tuple #[.agg M.toArray, e]) w := by
  rw [results_cell_tmp (p := 2) (u := 3) (ty := 25) rfl, hp, he, show (asAddr (.pointer (some ⟨g, 0, none⟩))).run Try.prog w = .ok ⟨g, 0, none⟩ w from rfl]
  simp only [Result.andThen]
  rw [run_loadVar_row w g 25 25 M.toArray (0, 0) _ hb Try.underlying25 rfl (by rw [Try.size25]; simp [hM])]
theorem ret44 {w : World} {tmps : Array Value} {g : Nat} {M : List Value} {e : Value} (hM : M.length = 2) (hp : tmps.getD 4 undef = .pointer (some ⟨g, 0, none⟩)) (he : tmps.getD 5 undef = e) (hb : Blk w g 25 M) : (results Try.f44 tmps).run Try.prog w = .ok (.tuple #[.agg M.toArray, e]) w := by
  rw [results_cell_tmp (p := 4) (u := 5) (ty := 25) rfl, hp, he, show (asAddr (.pointer (some ⟨g, 0, none⟩))).run Try.prog w = .ok ⟨g, 0, none⟩ w from rfl]
  simp only [Result.andThen]
  rw [run_loadVar_row w g 25 25 M.toArray (0, 0) _ hb Try.underlying25 rfl (by rw [Try.size25]; simp [hM])]

set_option maxRecDepth 100000 in
set_option maxHeartbeats 4000000 in
theorem limited_any (w : World) (k : Nat) (a : Option Addr) (n c : Nat) (hn : n ≤ 5000) : Calls Try.prog 82 #[.agg #[.int .i64 k, .slice a n c]] w fun e w' => e = .returned (.tuple #[.agg #[.int .i64 k, .slice a n c], .int .i64 0]) ∧ Below w.heap.size w w' := by
  obtain ⟨w1, hw1⟩ : ∃ w1, w1 = (w.alloc (.cells #[.int .i64 k, .slice a n c] 25)).alloc (.cells #[.int .i64 0, .slice none 0 0] 25) := ⟨_, rfl⟩
  have hb1 : Below w.heap.size w w1 := by rw [hw1]; exact ((Below.refl _ w).alloc (Nat.le_refl _) _).alloc (by simp) _
  have hx1 : Blk w1 w.heap.size 25 [.int .i64 k, .slice a n c] := by rw [hw1]; exact (Blk.new w 25 [.int .i64 k, .slice a n c]).alloc _
  have hz1 : Blk w1 (w.heap.size + 1) 25 zeroG := by
    rw [hw1]
    have := Blk.new (w.alloc (.cells #[.int .i64 k, .slice a n c] 25)) 25 zeroG
    rw [show (w.alloc (.cells #[.int .i64 k, .slice a n c] 25)).heap.size = w.heap.size + 1 by simp] at this
    exact this
  have c0 := hx1.cell (j := 0) rfl
  have c1 := hx1.cell (j := 1) rfl
  have h5 : ¬ (5000 : Int) < n := by omega
  have HB := Lib.hid hb1
  have HX := Lib.hid hx1
  have HZ := Lib.hid hz1
  have HO : Hid (∀ v ∈ [Value.int .i64 k, Value.slice a n c], v.oneCell' = true) := Lib.hid (by intro v hv; simp at hv; rcases hv with rfl | rfl <;> rfl)
  clear hb1 hx1 hz1
  go_enter Try.func82, Try.ntmps82
  go_upto_region 1 with fail
  rw [← hw1]
  clear hw1
  go_wp2_with (with_reducible show wpList _ _ _ (Oper.mk _ (Op.store 25 _ _) _ _ _ _ :: _) _ _; (refine wpList_storeB (vs := [.int .i64 k, .slice a n c]) HZ.out Try.size25 rfl rfl HO.out rfl _ _ rfl rfl rfl ?_))
  exact bodyPost_ret (ret82 (M := [.int .i64 k, .slice a n c]) rfl rfl rfl ((HZ.out.set 0 (.int .i64 k)).set 1 (.slice a n c))) rfl ⟨rfl, below_setCells (Nat.le_succ _) [.int .i64 k, .slice a n c] 0 HB.out⟩

set_option maxRecDepth 100000 in
set_option maxHeartbeats 4000000 in
theorem gequal_any (w : World) (k1 k2 u1 u2 : Value) (g h : List (List Int)) (h1 : RowsR w u1 g) (h2 : RowsR w u2 h) (hl : g.length < 1000000000) (hr : ∀ r ∈ g, r.length < 1000000000) :
    Calls Try.prog 85 #[.agg #[k1, u1], .agg #[k2, u2]] w fun e w' => e = .returned (.bool (decide (g = h))) ∧ Below w.heap.size w w' := by
  obtain ⟨w1, hw1⟩ : ∃ w1, w1 = (w.alloc (.cells #[k1, u1] 25)).alloc (.cells #[k2, u2] 25) := ⟨_, rfl⟩
  have hb1 : Below w.heap.size w w1 := by rw [hw1]; exact ((Below.refl _ w).alloc (Nat.le_refl _) _).alloc (by simp) _
  have hx1 : Blk w1 w.heap.size 25 [k1, u1] := by rw [hw1]; exact (Blk.new w 25 [k1, u1]).alloc _
  have hz1 : Blk w1 (w.heap.size + 1) 25 [k2, u2] := by
    rw [hw1]
    have := Blk.new (w.alloc (.cells #[k1, u1] 25)) 25 [k2, u2]
    rw [show (w.alloc (.cells #[k1, u1] 25)).heap.size = w.heap.size + 1 by simp] at this
    exact this
  have c1 := hx1.cell (j := 1) rfl
  have d1 := hz1.cell (j := 1) rfl
  have HE := Lib.hid (eqfunc_any w1 u1 u2 g h (h1.keep hb1) (h2.keep hb1) hl hr)
  have HB := Lib.hid hb1
  clear hb1 hx1 hz1 h1 h2
  go_enter Try.func85, Try.ntmps85
  go_upto_region 1 with fail
  rw [← hw1]
  clear hw1
  go_wp2_with (go_at_call 87; refine HE.out.mono ?_; rintro e w3 ⟨rfl, hb3⟩)
  go_ret
  exact ⟨rfl, HB.out.trans (hb3.mono HB.out.size)⟩

set_option maxRecDepth 100000 in
set_option maxHeartbeats 4000000 in
theorem Turn_good (w : World) (k : Nat) (rv : Value) (g : List (List Int)) (h : RowsR w rv g) (hg : GoodG k g) (s : ByteArray) (hs : s.size ≤ 30000) (h0 : cwErr k s = 0) (hlen : g.length + s.size < 5000) :
    Calls Try.prog 44 #[.agg #[.int .i64 k, rv], .string s] w fun e w' => ∃ (rv' : Value) (g' : List (List Int)), e = .returned (.tuple #[.agg #[.int .i64 k, rv'], .int .i64 0]) ∧ IsGraph k (conjL k g (redW (bts s))) g' ∧ RowsAt w' w.heap.size rv' g' (fun _ => True) ∧ Below w.heap.size w w' := by
  have hk1 := hg.k1
  have hk4 := hg.k4
  obtain ⟨w1, hw1⟩ : ∃ w1, w1 = (w.alloc (.cells #[.int .i64 k, rv] 25)).alloc (.cells #[.int .i64 0, .slice none 0 0] 25) := ⟨_, rfl⟩
  have hb1 : Below w.heap.size w w1 := by rw [hw1]; exact ((Below.refl _ w).alloc (Nat.le_refl _) _).alloc (by simp) _
  have hx1 : Blk w1 w.heap.size 25 [.int .i64 k, rv] := by rw [hw1]; exact (Blk.new w 25 [.int .i64 k, rv]).alloc _
  have hz1 : Blk w1 (w.heap.size + 1) 25 zeroG := by
    rw [hw1]
    have := Blk.new (w.alloc (.cells #[.int .i64 k, rv] 25)) 25 zeroG
    rw [show (w.alloc (.cells #[.int .i64 k, rv] 25)).heap.size = w.heap.size + 1 by simp] at this
    exact this
  have hs1 : w1.heap.size = w.heap.size + 2 := by rw [hw1]; simp
  have h1 := h.keep hb1
  have hrd := read_good w1 k rv g h1 hg s (by omega)
  rw [if_pos h0, h0] at hrd
  obtain ⟨q1, q2⟩ := cwErr_zero h0
  have hlet : ∀ c ∈ redW (bts s), letter c.toNat = true ∧ placeB c < 2 * k := fun c hc => ⟨List.all_eq_true.1 (show (bts s).all _ = true from q1) c (redW_sub hc), of_decide_eq_true (List.all_eq_true.1 q2 c (redW_sub hc))⟩
  have hrl := redW_len (bts s)
  rw [bts_len] at hrl
  obtain ⟨q, hq⟩ : ∃ q, redW (bts s) = q := ⟨_, rfl⟩
  rw [hq] at hrd hlet hrl ⊢
  obtain ⟨Q, hQ⟩ : ∃ Q, strB q = Q := ⟨_, rfl⟩
  have hQb : bts Q = q := by rw [← hQ]
  have hQs : Q.size = q.length := by rw [← hQb, bts_len]
  rw [hQ] at hrd
  rw [← hQb] at hlet ⊢
  have HTN := Lib.hid (fun (wx : World) (hb : Below w1.heap.size w1 wx) => turn_any wx k rv g (h1.keep hb) hg Q (by omega) hlet)
  have HRD := Lib.hid hrd
  have HB := Lib.hid hb1
  have HX := Lib.hid hx1
  have HZ := Lib.hid hz1
  have HS := Lib.hid hs1
  have HK := Lib.hid (And.intro hk1 hk4)
  clear h h1 hb1 hx1 hz1 hs1 hg hrd hlet hQ hQb hq hrl hlen hs h0 q1 q2 hQs hk1 hk4
  go_enter Try.func44, Try.ntmps44
  go_upto_region 1 with fail
  rw [← hw1]
  clear hw1
  have c0 := HX.out.cell (j := 0) rfl
  have c1 := HX.out.cell (j := 1) rfl
  go_upto_region 4 with (go_at_call 74; refine HRD.out.mono ?_; rintro e w2 ⟨rfl, hb2⟩)
  have d0 := (HX.out.keep hb2).cell (j := 0) rfl
  have d1 := (HX.out.keep hb2).cell (j := 1) rfl
  have htn := HTN.out w2 hb2
  have hle := hb2.size
  have HT2 := Lib.hid htn
  have HB2 := Lib.hid hb2
  clear htn hb2 HRD HTN
  go_wp2_with (first
    | (go_at_call 83
       refine HT2.out.mono ?_
       rintro e w3 ⟨rv3, g3, rfl, hg3, hr3, hb3⟩
       have HG3 := Lib.hid hg3
       have HR3 := Lib.hid hr3
       have HB3 := Lib.hid (HB2.out.trans (hb3.mono hle))
       obtain ⟨a3, c3, rfl, -, -⟩ := hr3.toR.shape (n := g3.length) rfl
       have hn3 := (hg3.good HK.out.1 HK.out.2).n5
       clear hg3 hr3 hb3)
    | (go_at_call 82
       refine (limited_any _ k a3 _ c3 hn3).mono ?_
       rintro e w4 ⟨rfl, hb4⟩
       have HR4 := Lib.hid (HR3.out.keep hb4)
       have hb34 := HB3.out.trans (hb4.mono HB3.out.size)
       have HZ4 := Lib.hid (HZ.out.keep hb34)
       have HB4 := Lib.hid (HB.out.trans (hb34.mono HB.out.size))
       have HRV := Lib.hid (rows_one HR3.out k)
       clear hb4 hb34)
    | (with_reducible show wpList _ _ _ (Oper.mk _ (Op.store 25 _ _) _ _ _ _ :: _) _ _; (refine wpList_storeB (vs := [.int .i64 k, .slice a3 g3.length c3]) HZ4.out Try.size25 rfl rfl HRV.out rfl _ _ rfl rfl rfl ?_)))
  have hr1 := HZ4.out.set 0 (.int .i64 k)
  have hrow := ((HR4.out.mono (B2 := w.heap.size) (by have := HS.out; omega)).other HZ4.out (by decide) (by decide) 0 (.int .i64 k)).other hr1 (by decide) (by decide) 1 (.slice a3 g3.length c3)
  exact bodyPost_ret (ret44 (M := [.int .i64 k, .slice a3 g3.length c3]) rfl rfl rfl (hr1.set 1 (.slice a3 g3.length c3))) rfl ⟨_, g3, rfl, HG3.out, hrow, below_setCells (Nat.le_succ _) [.int .i64 k, .slice a3 g3.length c3] 0 HB4.out⟩
end Go.Proofs.Ytlooclpfoeakgaa
