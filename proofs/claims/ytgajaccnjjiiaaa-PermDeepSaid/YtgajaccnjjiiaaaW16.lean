/- The program's tree. -/
import Derived.Test.YtgajaccnjjiiaaaW15
namespace Go.Proofs.Ytgajaccnjjiiaaa
open Go.RowKit

theorem ret41 {w : World} {tmps : Array Value} {g : Nat} {x y z : Value} (hp : tmps.getD 2 undef = .pointer (some ⟨g, 0, none⟩)) (hb : Blk w g 41 [x, y, z]) : (results Try.f70 tmps).run Try.prog w = .ok (.agg #[x, y, z]) w :=
  results_cell_row rfl tmps w g 41 _ (0, 0) _ hp hb Try.underlying41 rfl Try.size41

theorem Own.mono {w : World} {base base' : Nat} {e : TypeId} {v : Value} {zs : List Int} (h : Own w base e v zs) (hb : base' ≤ base) : Own w base' e v zs := by
  refine ⟨h.1, ?_⟩
  rcases h.2 with hn | ⟨g, cap, cur, rfl, h1, rest⟩
  · exact .inl hn
  · exact .inr ⟨g, cap, cur, rfl, Nat.le_trans hb h1, rest⟩

theorem shape_a {p zs : List Int} {k : Int} (hz : zs = if (cutsM p true).length = 1 then cutsM p false else cutsM p true) (hk : k = if (cutsM p true).length = 1 then 2 else 1) :
    (zs.length ≠ 1 → marksM p = zs ∧ topsM p = [] ∧ kindM p = k) ∧ (zs.length = 1 → marksM p = blocksM p ∧ topsM p = flatM (pickM p) ∧ kindM p = 3) := by
  subst hz hk
  unfold marksM topsM kindM
  by_cases h1 : (cutsM p true).length = 1
  · simp only [if_pos h1]
    refine ⟨fun h => ?_, fun h => ?_⟩
    · simp only [if_neg h]; exact ⟨trivial, trivial, trivial⟩
    · simp only [if_pos h]; exact ⟨trivial, trivial, trivial⟩
  · simp only [if_neg h1]
    exact ⟨fun _ => ⟨trivial, trivial, trivial⟩, fun h => absurd h h1⟩

theorem slice_inj {g g' n c c' : Nat} (h : Value.slice (some ⟨g, 0, none⟩) n c = .slice (some ⟨g', 0, none⟩) n c') : g = g' ∧ c = c' := by simpa using h

theorem tops_state {w wr w6 : World} {tv : Value} {zs zs' as_ : List Int} {g5 m c5 g6 n6 c6 : Nat} {k : Value} (hownt : Own wr w.heap.size 3 tv zs) (hblk2 : Blk wr w.heap.size 41 [.int .i64 0, .slice none 0 0, .slice none 0 0])
    (hblk3 : Blk wr (w.heap.size + 1) 41 [k, tv, .slice none 0 0]) (hown5 : Own wr w.heap.size 3 (.slice (some ⟨g5, 0, none⟩) m c5) as_) (hap : some g5 ≠ tv.ownBlock) (hap2 : some w.heap.size ≠ tv.ownBlock) (hap3 : some (w.heap.size + 1) ≠ tv.ownBlock)
    (hB : Below w.heap.size w wr) (o : Obj) (hgrow : (wr.alloc o).drew.grownBy w6 tv.ownBlock) (hown6 : Own w6 w.heap.size 3 (.slice (some ⟨g6, 0, none⟩) n6 c6) zs') (hat : tv.ownBlock = some g6 ∨ g6 = (wr.alloc o).drew.heap.size) (hg5 : g5 < wr.heap.size) :
    Own (w6.setCell ⟨w.heap.size + 1, 1, none⟩ (.slice (some ⟨g6, 0, none⟩) n6 c6)) w.heap.size 3 (.slice (some ⟨g6, 0, none⟩) n6 c6) zs' ∧
    Blk (w6.setCell ⟨w.heap.size + 1, 1, none⟩ (.slice (some ⟨g6, 0, none⟩) n6 c6)) w.heap.size 41 [.int .i64 0, .slice none 0 0, .slice none 0 0] ∧
    Blk (w6.setCell ⟨w.heap.size + 1, 1, none⟩ (.slice (some ⟨g6, 0, none⟩) n6 c6)) (w.heap.size + 1) 41 [k, .slice (some ⟨g6, 0, none⟩) n6 c6, .slice none 0 0] ∧
    Own (w6.setCell ⟨w.heap.size + 1, 1, none⟩ (.slice (some ⟨g6, 0, none⟩) n6 c6)) w.heap.size 3 (.slice (some ⟨g5, 0, none⟩) m c5) as_ ∧
    Hid (some g5 ≠ (Value.slice (some ⟨g6, 0, none⟩) n6 c6).ownBlock) ∧ Below w.heap.size w (w6.setCell ⟨w.heap.size + 1, 1, none⟩ (.slice (some ⟨g6, 0, none⟩) n6 c6)) := by
  have e : (wr.alloc o).drew.heap.size = wr.heap.size + 1 := by simp
  rw [e] at hat
  have hblk6 : Blk w6 (w.heap.size + 1) 41 [k, tv, .slice none 0 0] := Blk.grown (by exact Blk.alloc hblk3 o) hgrow hap3
  have hblk7 : Blk w6 w.heap.size 41 [.int .i64 0, .slice none 0 0, .slice none 0 0] := Blk.grown (by exact Blk.alloc hblk2 o) hgrow hap2
  have hne : some (w.heap.size + 1) ≠ (Value.slice (some ⟨g6, 0, none⟩) n6 c6).ownBlock := Own.apartB hown6 hblk6 (by decide)
  have hown5' : Own w6 w.heap.size 3 (.slice (some ⟨g5, 0, none⟩) m c5) as_ := World.ownsRow.kept (w := (wr.alloc o).drew) (by exact World.ownsRow.alloc hown5 o) hgrow (.inr hap)
  have hne5 : some (w.heap.size + 1) ≠ (Value.slice (some ⟨g5, 0, none⟩) m c5).ownBlock := Own.apartB hown5' hblk6 (by decide)
  refine ⟨Own.other hown6 hne _, hblk7.other (by simp) _, by simpa using hblk6.set 1 _, Own.other hown5' hne5 _, ?_, ?_⟩
  · rw [ob_some]
    intro h
    rcases hat with hat | hat
    · rw [hat] at hap; exact hap h
    · have : g5 = g6 := by simpa using h
      omega
  · have h1 : Below w.heap.size w w6 := Below.grown (w := (wr.alloc o).drew) (by exact (hB.alloc hB.size o).drewN' 1) hgrow (by rw [e]; have := hB.size; omega) (fun k hk => (World.ownsRow.lt hownt k hk).1)
    exact h1.setCell (p := ⟨w.heap.size + 1, 1, none⟩) (by simp) _

theorem own_trees {w : World} {base base' : Nat} {ok : Nat → Prop} {u v : Value} {zs : List Int} {ts : List TM} (h : Own w base 3 u zs) (ht : TreesOwn w base' ok v ts) : u.ownBlock = none ∨ u.ownBlock ≠ v.ownBlock := by
  obtain ⟨cs, _, h2, _⟩ := ht
  rcases h.2 with ⟨rfl, _⟩ | ⟨g, cap, cur, rfl, _, hg, _⟩
  · exact .inl (by rw [ob_nil])
  · refine .inr ?_
    rcases h2.2 with ⟨rfl, _⟩ | ⟨g', cap', cur', rfl, _, hg', _⟩
    · rw [ob_some, ob_nil]; simp
    · rw [ob_some, ob_some]
      intro e
      cases e
      have := hg.symm.trans hg'
      simp at this

theorem trees_state {w w5 w6 : World} {v tv at_ : Value} {zs as_ : List Int} {ts ts' : List TM} {g6 n6 c6 : Nat} {k : Value} (hto : TreesOwn w5 (w.heap.size + 2) (fun b => w.heap.size + 2 ≤ b ∧ some b ≠ v.ownBlock) v ts)
    (hblk2 : Blk w5 w.heap.size 41 [.int .i64 0, .slice none 0 0, .slice none 0 0]) (hblk3 : Blk w5 (w.heap.size + 1) 41 [k, tv, v]) (hat_ : Own w5 w.heap.size 3 at_ as_) (htv : Own w5 w.heap.size 3 tv zs)
    (hB : Below w.heap.size w w5) (o : Obj) (hgrow : (w5.alloc o).grownBy w6 v.ownBlock)
    (hown6 : TreesOwn w6 (w.heap.size + 2) (fun b => w.heap.size + 2 ≤ b ∧ some b ≠ v.ownBlock ∧ b < w5.heap.size + 1) (.slice (some ⟨g6, 0, none⟩) n6 c6) ts') (hat : v.ownBlock = some g6 ∨ g6 = w5.heap.size + 1) :
    TreesOwn (w6.setCell ⟨w.heap.size + 1, 2, none⟩ (.slice (some ⟨g6, 0, none⟩) n6 c6)) (w.heap.size + 2) (fun b => w.heap.size + 2 ≤ b ∧ some b ≠ (Value.slice (some ⟨g6, 0, none⟩) n6 c6).ownBlock) (.slice (some ⟨g6, 0, none⟩) n6 c6) ts' ∧
    Blk (w6.setCell ⟨w.heap.size + 1, 2, none⟩ (.slice (some ⟨g6, 0, none⟩) n6 c6)) w.heap.size 41 [.int .i64 0, .slice none 0 0, .slice none 0 0] ∧
    Blk (w6.setCell ⟨w.heap.size + 1, 2, none⟩ (.slice (some ⟨g6, 0, none⟩) n6 c6)) (w.heap.size + 1) 41 [k, tv, .slice (some ⟨g6, 0, none⟩) n6 c6] ∧
    Own (w6.setCell ⟨w.heap.size + 1, 2, none⟩ (.slice (some ⟨g6, 0, none⟩) n6 c6)) w.heap.size 3 at_ as_ ∧
    Own (w6.setCell ⟨w.heap.size + 1, 2, none⟩ (.slice (some ⟨g6, 0, none⟩) n6 c6)) w.heap.size 3 tv zs ∧
    Below w.heap.size w (w6.setCell ⟨w.heap.size + 1, 2, none⟩ (.slice (some ⟨g6, 0, none⟩) n6 c6)) := by
  have hlt := hto.lt
  have hn : ∀ j, j < w.heap.size + 2 → some j ≠ v.ownBlock := fun j hj e => by have := hlt j e.symm; omega
  have hblk6 : Blk w6 (w.heap.size + 1) 41 [k, tv, v] := Blk.grown (Blk.alloc hblk3 o) hgrow (hn _ (by omega))
  have hblk7 : Blk w6 w.heap.size 41 [.int .i64 0, .slice none 0 0, .slice none 0 0] := Blk.grown (Blk.alloc hblk2 o) hgrow (hn _ (by omega))
  have hat6 : Own w6 w.heap.size 3 at_ as_ := World.ownsRow.kept (World.ownsRow.alloc hat_ o) hgrow (own_trees hat_ hto)
  have htv6 : Own w6 w.heap.size 3 tv zs := World.ownsRow.kept (World.ownsRow.alloc htv o) hgrow (own_trees htv hto)
  have hlt6 := hown6.lt g6 (by rw [ob_some])
  refine ⟨?_, hblk7.other (by simp) _, by simpa using hblk6.set 2 _, Own.other hat6 (Own.apartB hat6 hblk6 (by decide)) _, Own.other htv6 (Own.apartB htv6 hblk6 (by decide)) _, ?_⟩
  · refine hown6.kept (by simp [World.setCell]) (fun g hg => ?_) (fun b hb _ => ⟨⟨hb.1, ?_⟩, ?_⟩)
    · rw [ob_some] at hg
      cases hg
      exact Below.heap_setCell _ _ _ _ (by simp; omega)
    · rw [ob_some]
      intro e
      have : b = g6 := by simpa using e
      subst this
      rcases hat with h | h
      · exact hb.2.1 h.symm
      · omega
    · exact Below.heap_setCell _ _ _ _ (by have := hb.1; simp; omega)
  · have h1 : Below w.heap.size w w6 := Below.grown (hB.alloc hB.size o) hgrow (by have := hB.size; simp; omega) (fun k hk => by have := hlt k hk; omega)
    exact h1.setCell (p := ⟨w.heap.size + 1, 2, none⟩) (by simp) _

theorem TreeAt.shape {w : World} {ok : Nat → Prop} {u : Value} {t : TM} (h : TreeAt w ok u t) : ∃ k pv tv, u = .agg #[.int .i64 k, pv, tv] ∧ pv.oneCell' = true ∧ tv.oneCell' = true := by
  cases h with
  | mk k pv perm a n cap parts f hp =>
    obtain ⟨a', cap', rfl, _⟩ := hp
    exact ⟨_, _, _, rfl, rfl, rfl⟩

theorem new_tree {w4 w5 : World} {v u : Value} {t : TM} {H : Nat} (h : TreeAt w5 (fun b => w4.heap.size ≤ b) u t) (hH : H ≤ w4.heap.size) (hv : ∀ g, v.ownBlock = some g → g < w4.heap.size) :
    TreeAt w5 (fun b => H ≤ b ∧ some b ≠ v.ownBlock) u t :=
  h.kept (Nat.le_refl _) fun b hb _ => ⟨⟨Nat.le_trans hH hb, fun e => by have := hv b e.symm; have : w4.heap.size ≤ b := hb; omega⟩, rfl⟩

theorem TreesOwn.mono {w : World} {base base' : Nat} {ok : Nat → Prop} {v : Value} {ts : List TM} (h : TreesOwn w base ok v ts) (hb : base' ≤ base) : TreesOwn w base' ok v ts := by
  obtain ⟨cs, h1, h2, h3⟩ := h
  refine ⟨cs, h1, ⟨h2.1, ?_⟩, h3⟩
  rcases h2.2 with hn | ⟨g, cap, cur, rfl, hg, rest⟩
  · exact .inl hn
  · exact .inr ⟨g, cap, cur, rfl, Nat.le_trans hb hg, rest⟩
theorem Own.raise {w : World} {base : Nat} {e : TypeId} {v : Value} {zs : List Int} (h : Own w base e v zs) (hb : some base ≠ v.ownBlock) : Own w (base + 1) e v zs := by
  refine ⟨h.1, ?_⟩
  rcases h.2 with hn | ⟨g, cap, cur, rfl, h1, rest⟩
  · exact .inl hn
  · refine .inr ⟨g, cap, cur, rfl, ?_, rest⟩
    rw [ob_some] at hb
    have : g ≠ base := fun e => hb (by rw [e])
    omega
theorem TreeAt.after {w : World} {B : Nat} {ok : Nat → Prop} {u : Value} {t : TM} (h : TreeAt w ok u t) (hok : ∀ b, ok b → B + 1 ≤ b) (x y z : Value) :
    TreeAt (((w.setCell ⟨B, 0, none⟩ x).setCell ⟨B, 1, none⟩ y).setCell ⟨B, 2, none⟩ z) (fun b => B ≤ b) u t :=
  h.kept (by simp [World.setCell]) fun b hb _ => by
    have := hok b hb
    refine ⟨by omega, ?_⟩
    rw [Below.heap_setCell _ _ _ _ (by simp; omega), Below.heap_setCell _ _ _ _ (by simp; omega), Below.heap_setCell _ _ _ _ (by simp; omega)]

theorem piece_to {p : List Int} (h : 1 < p.length) {j : Nat} {iN : Nat} (hj : (marksM p)[j]? = some (iN : Int)) :
    ∃ toN : Nat, iN < toN ∧ toN ≤ p.length ∧ toN - iN < p.length ∧ pieceM p (marksM p) j = (p.take toN).drop iN ∧ (j + 1 < (marksM p).length → (marksM p)[j + 1]? = some (toN : Int)) ∧ (¬ j + 1 < (marksM p).length → toN = p.length) := by
  obtain ⟨h1, h2, h3, h4⟩ := piece_box (marksM_marks (by omega)) (marksM_two h) hj
  by_cases hl : j + 1 < (marksM p).length
  · have hy : (marksM p)[j + 1]? = some (marksM p)[j + 1] := List.getElem?_eq_getElem hl
    obtain ⟨h5, h6⟩ := h3 _ hy
    generalize (marksM p)[j + 1] = y at *
    obtain ⟨yN, rfl⟩ : ∃ yN : Nat, y = yN := ⟨y.toNat, by omega⟩
    refine ⟨yN, by omega, by omega, by omega, ?_, fun _ => hy, fun h => absurd hl h⟩
    unfold pieceM
    rw [hj, hy]
    simp
  · refine ⟨p.length, by omega, by omega, ?_, ?_, fun h => absurd h hl, fun _ => rfl⟩
    · have := h4 (by omega); omega
    · unfold pieceM
      rw [hj, List.getElem?_eq_none (by omega)]
      simp

set_option maxRecDepth 100000 in
set_option maxHeartbeats 8000000 in
theorem tree_any : ∀ (d : Nat) (v : Value) (p : List Int) (w : World), Ints w v p → 0 < p.length → p.length ≤ d → p.length ≤ 1000 → (∀ x ∈ p, 0 ≤ x ∧ x ≤ 1000) →
    Calls Try.prog 70 #[v] w fun e w' => ∃ u, e = .returned u ∧ TreeAt w' (fun b => w.heap.size ≤ b) u (treeF d p) ∧ Below w.heap.size w w' := by
  intro d
  induction d with
  | zero => intro v p w hv h0 hd; omega
  | succ d ih =>
  intro v p w hv h0 hd hl hr
  obtain ⟨ad, n, cap, rfl, HN, hn'⟩ := hv.open
  have hl' : n ≤ 1000 := by have := HN.out; omega
  have h0' : 0 < n := by have := HN.out; omega
  have hd' : n ≤ d + 1 := by have := HN.out; omega
  have H0 := Lib.hid h0
  have HL := Lib.hid hl
  have HR := Lib.hid hr
  have IH := Lib.hid ih
  clear h0 hl hd hr ih
  by_cases hn1 : n = 1
  · subst hn1
    go_enter Try.func70, Try.ntmps70
    go_wp2_with fail
    have hb2 := Blk.new w 41 [.int .i64 0, .slice none 0 0, .slice none 0 0]
    exact bodyPost_ret (ret41 rfl hb2) rfl ⟨_, rfl, by
      rw [treeF, if_pos HN.out]
      exact (TreesOwn.nil _ _ _).tree (Own.nil _ _ _) 0 |>.kept (Nat.le_refl _) (fun b hb _ => ⟨hb.elim id id, rfl⟩), (Below.refl _ _).alloc (Nat.le_refl _) _⟩
  · have h2 : 1 < n := by omega
    obtain ⟨b, o, x0, rfl, hx0, c0⟩ := hv.at_ h0'
    clear hx0 c0 x0
    go_enter Try.func70, Try.ntmps70
    have hm1 := cutsTo_length p true (p.length - 1)
    have hm2 := cutsTo_length p false (p.length - 1)
    change 0 < (cutsM p true).length ∧ _ at hm1
    change 0 < (cutsM p false).length ∧ _ at hm2
    have HM1 := Lib.hid hm1
    have HM2 := Lib.hid hm2
    clear hm1 hm2
    go_upto_region 4 with fail
    have hB0 : Below w.heap.size w ((w.alloc (Obj.cells #[.int .i64 0, .slice none 0 0, .slice none 0 0] 41)).alloc (Obj.cells #[.int .i64 1, .slice none 0 0, .slice none 0 0] 41)) := ((Below.refl _ _).alloc (Nat.le_refl _) _).alloc (by simp) _
    have hblk2 : Blk ((w.alloc (Obj.cells #[.int .i64 0, .slice none 0 0, .slice none 0 0] 41)).alloc (Obj.cells #[.int .i64 1, .slice none 0 0, .slice none 0 0] 41)) w.heap.size 41 [.int .i64 0, .slice none 0 0, .slice none 0 0] := (Blk.new w 41 [.int .i64 0, .slice none 0 0, .slice none 0 0]).alloc _
    have hblk3 : Blk ((w.alloc (Obj.cells #[.int .i64 0, .slice none 0 0, .slice none 0 0] 41)).alloc (Obj.cells #[.int .i64 1, .slice none 0 0, .slice none 0 0] 41)) (w.heap.size + 1) 41 [.int .i64 1, .slice none 0 0, .slice none 0 0] := by
      have := Blk.new (w.alloc (Obj.cells #[.int .i64 0, .slice none 0 0, .slice none 0 0] 41)) 41 [.int .i64 1, .slice none 0 0, .slice none 0 0]
      simpa using this
    have hz0 : ((w.alloc (Obj.cells #[.int .i64 0, .slice none 0 0, .slice none 0 0] 41)).alloc (Obj.cells #[.int .i64 1, .slice none 0 0, .slice none 0 0] 41)).heap.size = w.heap.size + 2 := by simp
    generalize (w.alloc (Obj.cells #[.int .i64 0, .slice none 0 0, .slice none 0 0] 41)).alloc (Obj.cells #[.int .i64 1, .slice none 0 0, .slice none 0 0] 41) = W0 at *
    go_upto_if 19 with (first | (go_at_call 100; refine (cuts_any _ p _ _ (hv.below hB0 (Nat.le_refl _)) H0.out HL.out).mono ?_; rintro e w2 ⟨v2, rfl, hown2, hb2⟩; obtain ⟨g4, c4, rfl, hg4, hg4l, hfz, hcs⟩ := Own.open hown2 rfl HM1.out.1; clear hfz hcs))
    go_cut [4] (fun s4 wx => ∃ (zs : List Int) (k : Int), Own wx w.heap.size 3 s4 zs ∧ Hid (zs = if (cutsM p true).length = 1 then cutsM p false else cutsM p true) ∧ Hid (k = if (cutsM p true).length = 1 then 2 else 1) ∧ Hid (0 < zs.length) ∧ Blk wx w.heap.size 41 [.int .i64 0, .slice none 0 0, .slice none 0 0] ∧ Blk wx (w.heap.size + 1) 41 [.int .i64 k, .slice none 0 0, .slice none 0 0] ∧ Below w.heap.size w wx)
    case first =>
      have hblk2 := hblk2.keep hb2
      have hblk3 := hblk3.keep hb2
      have hB2 := hB0.trans (hb2.mono (by omega))
      have c3 := hblk3.cell (j := 0) rfl
      have f3 := hblk3.free 0
      by_cases hc1 : (cutsM p true).length = 1
      · have HC := Lib.hid hc1
        rw [hc1]
        clear hc1
        go_wp2_with (first | (go_at_call 100; refine (cuts_any _ p _ _ (hv.below (hB2.setCell (p := ⟨w.heap.size + 1, 0, none⟩) (by simp) (.int .i64 2)) (Nat.le_refl _)) H0.out HL.out).mono ?_; rintro e w3 ⟨v3, rfl, hown3, hb3⟩))
        go_meet
        have hz2 := hb2.size
        have hb2' : Below w.heap.size w w3 := (hB2.setCell (p := ⟨w.heap.size + 1, 0, none⟩) (by simp) (.int .i64 2)).trans (hb3.mono (by simp [World.setCell]; omega))
        refine ⟨cutsM p false, 2, Own.mono hown3 (by simp [World.setCell]; omega), ?_, ?_, HM2.out.1, ?_, ?_, hb2'⟩
        · exact (if_pos HC.out).symm
        · exact (if_pos HC.out).symm
        · exact (hblk2.other (a := ⟨w.heap.size + 1, 0, none⟩) (by simp) _).keep hb3
        · exact ((hblk3.set 0 (.int .i64 2)).keep hb3)
      · have HC := Lib.hid hc1
        have hc1' : ((cutsM p true).length : Int) ≠ 1 := by omega
        clear hc1
        go_wp2_with fail
        go_meet
        exact ⟨cutsM p true, 1, Own.mono hown2 (by omega), (if_neg HC.out).symm, (if_neg HC.out).symm, HM1.out.1, hblk2, hblk3, hB2⟩
    case rest =>
      obtain ⟨zs, k, hown2, HZS, HK, HZ, hblk2, hblk3, hB⟩ := hcut
      obtain ⟨g4, c4, rfl, hg4, hg4l, hfz, hcs⟩ := Own.open hown2 rfl HZ.out
      clear hfz hcs
      go_upto_if 25 with fail
      go_cut [4] (fun s4 wx => ∃ tv : Value, Own wx w.heap.size 3 s4 (marksM p) ∧ Own wx w.heap.size 3 tv (topsM p) ∧ Blk wx w.heap.size 41 [.int .i64 0, .slice none 0 0, .slice none 0 0] ∧ Blk wx (w.heap.size + 1) 41 [.int .i64 (kindM p), tv, .slice none 0 0] ∧ Below w.heap.size w wx)
      case first =>
        obtain ⟨hsh1, hsh2⟩ := shape_a HZS.out HK.out
        have HSH1 := Lib.hid hsh1
        have HSH2 := Lib.hid hsh2
        clear hsh1 hsh2
        by_cases hc1 : zs.length = 1
        · have HC := Lib.hid hc1
          rw [hc1]
          clear hc1
          have c3 := hblk3.cell (j := 0) rfl
          have f3 := hblk3.free 0
          have hB3 := hB.setCell (p := ⟨w.heap.size + 1, 0, none⟩) (by simp) (.int .i64 3)
          have hblk3' := hblk3.set 0 (.int .i64 3)
          have hblk2' := hblk2.other (a := ⟨w.heap.size + 1, 0, none⟩) (by simp) (.int .i64 3)
          have hbp := blocksM_two (p := p) (by rw [HN.out]; exact h2)
          have HBP := Lib.hid hbp
          clear hbp
          go_upto_region 11 with (first | (go_at_call 101; refine (blocks_any _ p _ (hv.below hB3 (Nat.le_refl _)) HL.out HR.out).mono ?_; rintro e w3 ⟨v3, rfl, hown3, hb3⟩))
          obtain ⟨g5, c5, rfl, hg5, hg5l, hfz, hcs⟩ := Own.open hown3 rfl (by have := HBP.out; omega)
          clear hfz hcs
          have hB4 := hB3.trans (hb3.mono hB3.size)
          have hblk2 := hblk2'.keep hb3
          have hblk3 := hblk3'.keep hb3
          have hown5 : Own w3 w.heap.size 3 (.slice (some ⟨g5, 0, none⟩) (blocksM p).length c5) (blocksM p) := Own.mono hown3 hB3.size
          clear hblk2' hblk3' hown3 hown2 c3 f3 hb3
          simp only [List.set_cons_zero] at hblk3
          have hmn := marks_len (blocksM_marks p)
          rw [HN.out] at hmn
          generalize hm : (blocksM p).length = m at *
          have HM := Lib.hid hm
          clear hm
          go_wp2_with fail
          go_loopw [31] (fun i wr => ∃ (j : Nat) (tv : Value), j ≤ m ∧ i = .int .i64 j ∧ Own wr w.heap.size 3 tv ((pickM p).take j) ∧ Blk wr w.heap.size 41 [.int .i64 0, .slice none 0 0, .slice none 0 0] ∧ Blk wr (w.heap.size + 1) 41 [.int .i64 3, tv, .slice none 0 0] ∧ Own wr w.heap.size 3 (.slice (some ⟨g5, 0, none⟩) m c5) (blocksM p) ∧ Hid (some g5 ≠ tv.ownBlock) ∧ Below w.heap.size w wr) (fun i _ => m - (intOf i).toNat)
          case atStart => exact ⟨0, .slice none 0 0, by omega, rfl, by simpa using Own.nil _ _ _, hblk2, hblk3, hown5, by rw [ob_nil]; simp [Hid], hB4⟩
          case round =>
            obtain ⟨j, tv, hj, rfl, hownt, hblk2, hblk3, hown5, HAP, hB⟩ := hrel
            have hsz := hB.size
            by_cases hlt : j < m
            · obtain ⟨i, hi⟩ := get_of_lt (zs := blocksM p) (k := j) (by have := HM.out; omega)
              have hib := (blocksM_marks p).2 i (List.mem_of_getElem? hi)
              obtain ⟨iN, rfl⟩ : ∃ iN : Nat, i = iN := ⟨i.toNat, by omega⟩
              have hin : iN < n := by have := HN.out; omega
              obtain ⟨_, _, hv5, _, hg5l5, hfz5, hcs5⟩ := Own.open hown5 HM.out (by omega)
              obtain ⟨rfl, rfl⟩ := slice_inj hv5
              have cj := hcs5 j _ hi
              obtain ⟨x, hx, cx⟩ := (hv.below hB (Nat.le_refl _)).cell_ hin
              have hbl : b < wr.heap.size := World.block_lt_of_cell? wr _ cx
              have hpk : (pickM p).take (j + 1) = (pickM p).take j ++ [x] := by
                apply take_snoc'
                simp only [pickM, List.getElem?_map, hi, Option.map_some]
                simp [hx.out]
              have HPK := Lib.hid hpk
              have HFZ := Lib.hid hfz5
              have HCS := Lib.hid hcs5
              have HI := Lib.hid hi
              clear hpk hfz5 hcs5 hi hv5 hib
              have hg3 := hblk3.lt
              have hblk3d : Blk wr.drew (w.heap.size + 1) 41 [.int .i64 3, tv, .slice none 0 0] := hblk3
              have c3 := hblk3.cell (j := 1) rfl
              have hlen : ((pickM p).take j).length < 1000000000000 := by simp; omega
              have HLEN := Lib.hid hlen
              clear hlen
              go_upto_region 14 with fail
              have hap3 := Own.apartB hownt hblk3 (by decide)
              have hap2 := Own.apartB hownt hblk2 (by decide)
              have HAP3 := Lib.hid hap3
              have HAP2 := Lib.hid hap2
              clear hap3 hap2
              go_region_law ((refine step_appI Try.info3 Try.underlying22 (v := tv) (zs := (pickM p).take j) (base := w.heap.size) (B := wr.heap.size) (z := x) (by exact World.ownsRow.alloc hownt _) HLEN.out (by rfl) (.tmp 36) (.tmp 41) (by rfl) (by simp [Act.eval]) (by simp [Act.eval]) (by exact Blk.cell (Blk.new wr 3 [Value.int .i64 x]) (j := 0) rfl) (by simp; omega) _ (by rfl) ?_; intro g6 cap6 w6 hown6 hgrow6 hat6 hlt6; rw [List.length_take] at hown6; have hblk6 : Blk w6 (w.heap.size + 1) 41 [.int .i64 3, tv, .slice none 0 0] := Blk.grown (by exact Blk.alloc hblk3 (.cells #[.int .i64 x] 3)) hgrow6 HAP3.out; have c6 := hblk6.cell (j := 1) rfl; have f6 := hblk6.free 1))
              all_goals go_wp2_with fail
              all_goals
                obtain ⟨t1, t2, t3, t4, t5, t6⟩ := tops_state hownt hblk2 hblk3 hown5 HAP.out HAP2.out HAP3.out hB (.cells #[.int .i64 x] 3) hgrow6 hown6 hat6 (by omega)
                exact ⟨⟨j + 1, _, by omega, by go_num, HPK.out ▸ t1, t2, t3, t4, t5, t6⟩, by simp [intOf]; omega⟩
            · obtain rfl : j = m := by omega
              have hpl : (pickM p).length = j := by simp [pickM, HM.out]
              rw [List.take_of_length_le (by omega)] at hownt
              have c3 := hblk3.cell (j := 1) rfl
              have HPL := Lib.hid hpl
              have hj0 : 0 < j := by have := HBP.out; have := HM.out; omega
              clear hpl
              go_wp2_with (first | (go_at_call 102; refine (flat_any _ (pickM p) _ (Own.ints hownt) (by rw [HPL.out]; have := HBP.out; have := HM.out; omega) (by rw [HPL.out]; omega)).mono ?_; rintro e w6 ⟨v6, rfl, hown6, hb6⟩; obtain ⟨g8, c8, rfl, hg8, hg8l, hfz8, hcs8⟩ := Own.open hown6 (n := j) (by rw [flatM_len, HPL.out]) (by omega); clear hfz8 hcs8; have hblk6 := hblk3.keep hb6; have c6 := hblk6.cell (j := 1) rfl; have f6 := hblk6.free 1))
              go_meet
              obtain ⟨e1, e2, e3⟩ := HSH2.out HC.out
              rw [e1, e2, e3]
              have hown7 : Own w6 w.heap.size 3 (.slice (some ⟨g8, 0, none⟩) j c8) (flatM (pickM p)) := Own.mono hown6 hsz
              have hown8 := World.ownsRow.keep hown5 hb6
              refine ⟨_, Own.other hown8 (Own.apartB hown8 hblk6 (by decide)) _, Own.other hown7 (Own.apartB hown7 hblk6 (by decide)) _, (hblk2.keep hb6).other (by simp) _, by simpa using hblk6.set 1 (.slice (some ⟨g8, 0, none⟩) j c8), (hB.trans (hb6.mono hsz)).setCell (p := ⟨w.heap.size + 1, 1, none⟩) (by simp) _⟩
        · have HC := Lib.hid hc1
          have hc1' : (zs.length : Int) ≠ 1 := by omega
          clear hc1
          go_wp2_with fail
          go_meet
          obtain ⟨e1, e2, e3⟩ := HSH1.out HC.out
          rw [e1, e2, e3]
          exact ⟨_, hown2, Own.nil _ _ _, hblk2, hblk3, hB⟩
      case rest =>
        obtain ⟨tv, hat, htv, hblk2, hblk3, hB⟩ := hcut
        have hm2 := marksM_two (p := p) (by rw [HN.out]; exact h2)
        have hmn := marksM_len (p := p) H0.out
        rw [HN.out] at hmn
        obtain ⟨m, hm⟩ : ∃ m, (marksM p).length = m := ⟨_, rfl⟩
        rw [hm] at hm2 hmn
        obtain ⟨g9, c9, rfl, hg9, hg9l, hfz, hcs⟩ := Own.open hat hm (by omega)
        clear hfz hcs
        have HM := Lib.hid hm
        obtain ⟨ts, hts⟩ : ∃ ts, ts = (List.range (marksM p).length).map fun k => treeF d (flatM (pieceM p (marksM p) k)) := ⟨_, rfl⟩
        have HTS := Lib.hid hts
        have htl : ts.length = m := by rw [hts]; simp [hm]
        have HTL := Lib.hid htl
        clear hm hts htl
        have htv2 := Own.ints htv
        have hto0 : TreesOwn wc (w.heap.size + 2) (fun b => w.heap.size + 2 ≤ b ∧ some b ≠ (Value.slice none 0 0).ownBlock) (.slice none 0 0) (ts.take 0) := by simpa using TreesOwn.nil _ _ _
        have hB2 : w.heap.size + 2 ≤ wc.heap.size := by have := hblk3.lt; omega
        go_wp2_with fail
        go_loopw [51] (fun i wr => ∃ (j : Nat) (v : Value), j ≤ m ∧ i = .int .i64 j ∧ TreesOwn wr (w.heap.size + 2) (fun b => w.heap.size + 2 ≤ b ∧ some b ≠ v.ownBlock) v (ts.take j) ∧ Blk wr w.heap.size 41 [.int .i64 0, .slice none 0 0, .slice none 0 0] ∧ Blk wr (w.heap.size + 1) 41 [.int .i64 (kindM p), tv, v] ∧ Own wr w.heap.size 3 (.slice (some ⟨g9, 0, none⟩) m c9) (marksM p) ∧ Own wr w.heap.size 3 tv (topsM p) ∧ Below w.heap.size w wr) (fun i _ => m - (intOf i).toNat)
        case atStart => exact ⟨0, .slice none 0 0, by omega, rfl, hto0, hblk2, hblk3, hat, htv, hB⟩
        case round =>
          obtain ⟨j, v, hj, rfl, hto, hblk2, hblk3, hat, htv, hB⟩ := hrel
          have hsz := hB.size
          by_cases hlt : j < m
          · obtain ⟨i, hi⟩ := get_of_lt (zs := marksM p) (k := j) (by have := HM.out; omega)
            have hib := (marksM_marks (p := p) H0.out).2 i (List.mem_of_getElem? hi)
            obtain ⟨iN, rfl⟩ : ∃ iN : Nat, i = iN := ⟨i.toNat, by omega⟩
            obtain ⟨toN, ht1, ht2, ht3, ht4, ht5, ht6⟩ := piece_to (by rw [HN.out]; exact h2) hi
            rw [HN.out] at ht2 ht3 ht6
            rw [HM.out] at ht5 ht6
            obtain ⟨_, _, hv9, _, hg9l9, hfz9, hcs9⟩ := Own.open hat HM.out (by omega)
            obtain ⟨rfl, rfl⟩ := slice_inj hv9
            have cj := hcs9 j _ hi
            have cj1 : j + 1 < m → wr.cell? ⟨g9, j + 1, none⟩ = some (.int .i64 (toN : Int)) := fun h => hcs9 (j + 1) _ (ht5 h)
            have HT4 := Lib.hid ht4
            have HT6 := Lib.hid ht6
            have HCJ1 := Lib.hid cj1
            have HI := Lib.hid hi
            clear hfz9 hcs9 hv9 hib ht4 ht5 ht6 cj1 hi
            go_upto_if 62 with fail
            go_cut [9] (fun s9 wx => s9 = .int .i64 (toN : Int) ∧ wr = wx)
            case first =>
              by_cases hlast : j + 1 < m
              · have cj1 := HCJ1.out hlast
                go_wp2_with fail
                go_meet
                exact ⟨rfl, rfl⟩
              · have ht6 := HT6.out hlast
                subst ht6
                go_wp2_with fail
                go_meet
                exact ⟨rfl, rfl⟩
            case rest =>
              obtain ⟨rfl, rfl⟩ := hcut
              have hsub := Ints.sub (hv.below (hB.drewN' 1) (Nat.le_refl _)) ht1 ht2
              have hql : ((p.take toN).drop iN).length = toN - iN := by have := HN.out; simp; omega
              have hq4 := HT4.out
              have hts1 : ts.take (j + 1) = ts.take j ++ [treeF d (flatM ((p.take toN).drop iN))] := by
                rw [List.take_add_one, show ts[j]? = some (treeF d (flatM ((p.take toN).drop iN))) by rw [HTS.out, List.getElem?_map, List.getElem?_range (by rw [HM.out]; exact hlt), Option.map_some, hq4]]
                rfl
              clear hq4
              generalize (p.take toN).drop iN = q at *
              have HTS1 := Lib.hid hts1
              have HQL := Lib.hid hql
              have hfl := flatM_len q
              have hfb := flatM_box q
              have HFL := Lib.hid hfl
              have HFB := Lib.hid hfb
              have htl : (ts.take j).length = j := by rw [List.length_take, HTL.out]; omega
              have HTJ := Lib.hid htl
              clear hts1 hql hfl hfb htl
              have c3 := hblk3.cell (j := 2) rfl
              have hg3lt := hblk3.lt
              have hvlt := hto.lt
              have HVLT := Lib.hid hvlt
              clear hvlt
              go_upto_region 23 with fail
              have hcap1 := hv.cap_.1
              have q1 : toN ≤ cap := by omega
              have q2 : iN ≤ toN := by omega
              have q3 : ¬ cap = iN := by omega
              go_region_law ((first
                | (go_simp; go_at_call 102; refine (flat_any _ q _ hsub (by rw [HQL.out]; omega) (by rw [HQL.out]; omega)).mono ?_; rintro e w4 ⟨v4, rfl, hown4, hb4⟩; obtain ⟨g4', c4', rfl, hg4', hg4l', hfz4, hcs4⟩ := Own.open hown4 (n := toN - iN) (by rw [HFL.out, HQL.out]) (by omega); clear hfz4 hcs4; have c34 : w4.cell? ⟨w.heap.size + 1, 2, none⟩ = some v := (Blk.keep (w := wr.drew) hblk3 hb4).cell (j := 2) rfl; dsimp only)
                | (go_simp; go_at_call 70; refine (IH.out _ (flatM q) _ (Own.ints hown4) (by rw [HFL.out, HQL.out]; omega) (by rw [HFL.out, HQL.out]; omega) (by rw [HFL.out, HQL.out]; omega) (fun x hx => by have := HFB.out x hx; have := HQL.out; omega)).mono ?_; rintro e w5 ⟨u5, rfl, ht5, hb5⟩; obtain ⟨k5, p5, t5, rfl, hp5, ht5c⟩ := ht5.shape; have hbx : Below wr.heap.size wr w5 := ((Below.refl _ wr).drewN' 1).trans (Below.trans (by exact hb4) (hb5.mono (by exact hb4.size))); have hsx := hbx.size; have hto5 := hto.keep hbx; have hblk25 := hblk2.keep hbx; have hblk35 := hblk3.keep hbx; have hat5 := World.ownsRow.keep hat hbx; have htv5 := World.ownsRow.keep htv hbx; have hB5 := hB.trans (hbx.mono hsz); have hz4 : wr.heap.size ≤ w4.heap.size := (by exact hb4.size); have htn := new_tree (v := v) (H := w.heap.size + 2) ht5 (by omega) (fun g hg => by have := HVLT.out g hg; omega); have c35 := hblk35.cell (j := 2) rfl; have hl35 := hblk35.lt; dsimp only)
                | (refine step_appT Try.info41 Try.underlying39 (v := v) (ts := ts.take j) (base := w.heap.size + 2) (B := w5.heap.size) (z := k5) (pv := p5) (tv := t5) (tm := treeF d (flatM q)) (ok := fun b => w.heap.size + 2 ≤ b ∧ some b ≠ v.ownBlock) (ok' := fun b => w.heap.size + 2 ≤ b ∧ some b ≠ v.ownBlock ∧ b < w5.heap.size + 1) (by exact hto5.keep ((Below.refl _ _).alloc (Nat.le_refl _) _)) (by rw [HTJ.out]; omega) (by rfl) (.tmp 69) (.tmp 76) (by rfl) (by simp [Act.eval]) (by simp [Act.eval]) (by exact Blk.cell (Blk.new w5 41 [Value.int .i64 k5, p5, t5]) (j := 0) rfl) (by exact Blk.cell (Blk.new w5 41 [Value.int .i64 k5, p5, t5]) (j := 1) rfl) (by exact Blk.cell (Blk.new w5 41 [Value.int .i64 k5, p5, t5]) (j := 2) rfl) hp5 ht5c (by exact htn.kept (by simp) (fun b hb hlt => ⟨hb, Below.heap_alloc _ _ _ hlt⟩)) (by exact fun b hb hlt => ⟨hb.2, hb.1, hb.2, by simpa using hlt⟩) (by simp; omega) _ (by rfl) ?_; intro g6 cap6 w6 hown6 hgrow6 hat6 hlt6; rw [HTJ.out] at hown6 ⊢; have hblk6 : Blk w6 (w.heap.size + 1) 41 [.int .i64 (kindM p), tv, v] := Blk.grown (by exact Blk.alloc hblk35 _) hgrow6 (fun e => by have := HVLT.out _ e.symm; omega); have c6 := hblk6.cell (j := 2) rfl; have f6 := hblk6.free 2)
                | (fail "NONE")))
              all_goals go_wp2_with fail
              all_goals
                obtain ⟨r1, r2, r3, r4, r5, r6⟩ := trees_state hto5 hblk25 hblk35 hat5 htv5 hB5 (.cells #[.int .i64 k5, p5, t5] 41) hgrow6 hown6 (by simpa using hat6)
                exact ⟨⟨j + 1, _, by omega, by go_num, by rw [HTS1.out]; exact r1, r2, r3, r4, r5, r6⟩, by simp [intOf]; omega⟩
          · obtain rfl : j = m := by omega
            obtain ⟨at1, nt1, ct1, rfl, _, _⟩ := (Own.ints htv).open
            obtain ⟨at2, nt2, ct2, rfl⟩ : ∃ a n c, v = .slice a n c := by
              rcases hto.value with ⟨h, _⟩ | ⟨g, c, h⟩
              · exact ⟨_, _, _, h⟩
              · exact ⟨_, _, _, h⟩
            have c1 := hblk3.cell (j := 0) rfl
            have c2 := hblk3.cell (j := 1) rfl
            have c3 := hblk3.cell (j := 2) rfl
            have d1 := hblk2.cell (j := 0) rfl
            have d2 := hblk2.cell (j := 1) rfl
            have d3 := hblk2.cell (j := 2) rfl
            have f1 := hblk2.free 0
            have f2 := hblk2.free 1
            have f3 := hblk2.free 2
            rw [List.take_of_length_le (by rw [HTL.out]; exact Nat.le_refl _)] at hto
            have hb0 := ((hblk2.set 0 (.int .i64 (kindM p))).set 1 (.slice at1 nt1 ct1)).set 2 (.slice at2 nt2 ct2)
            have hB3 := ((hB.setCell (p := ⟨w.heap.size, 0, none⟩) (by simp) (.int .i64 (kindM p))).setCell (p := ⟨w.heap.size, 1, none⟩) (by simp) (.slice at1 nt1 ct1)).setCell (p := ⟨w.heap.size, 2, none⟩) (by simp) (.slice at2 nt2 ct2)
            have htr := ((hto.mono (base' := w.heap.size + 1) (by omega)).tree (Own.raise htv (Own.apartB htv hblk2 (by decide))) (kindM p)).after (B := w.heap.size) (fun b hb => by rcases hb with hb | hb <;> omega) (.int .i64 (kindM p)) (.slice at1 nt1 ct1) (.slice at2 nt2 ct2)
            have hF : treeF (d + 1) p = .mk (kindM p) (topsM p) ts := by rw [treeF, if_neg (by rw [HN.out]; omega), HTS.out]
            have HF := Lib.hid hF
            clear hF
            go_wp2_with fail
            refine bodyPost_ret (ret41 rfl hb0) rfl ⟨_, rfl, ?_, hB3⟩
            rw [HF.out]
            exact htr
end Go.Proofs.Ytgajaccnjjiiaaa
