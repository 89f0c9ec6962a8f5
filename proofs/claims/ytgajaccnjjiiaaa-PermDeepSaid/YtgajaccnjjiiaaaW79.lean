/- The law's give (a reference's tree as the program's) and the reference's Fill at a good tree: the walks. -/
import Derived.Test.YtgajaccnjjiiaaaW77
import Derived.Test.YtgajaccnjjiiaaaW78
import Derived.Test.YtgajaccnjjiiaaaW16
namespace Go.Proofs.Ytgajaccnjjiiaaa
open Go.RowKit

/-- a tree of so many levels, its nodes with few parts -/
def NarrowAt : Nat → TM → Prop
  | 0, _ => False
  | d + 1, .mk _ _ ps => ps.length ≤ 1000 ∧ ∀ t ∈ ps, NarrowAt d t
theorem TreeAt.permok {w : World} {ok : Nat → Prop} {x : Int} {pv tv : Value} {k : Int} {perm : List Int} {ts : List TM} (h : TreeAt w ok (.agg #[.int .i64 x, pv, tv]) (.mk k perm ts)) : ∀ b, pv.ownBlock = some b → 0 < perm.length → ok b := by
  cases h with
  | mk k pv perm a n cap parts f hp hpo => exact hpo
theorem TreesOwn.treeI {w : World} {base : Nat} {ok : Nat → Prop} {v pv : Value} {ts : List TM} {perm : List Int} (h : TreesOwn w base ok v ts) (hp : Ints w pv perm) (hpo : ∀ b, pv.ownBlock = some b → 0 < perm.length → ok b) (k : Int) :
    TreeAt w (fun b => ok b ∨ base ≤ b) (.agg #[.int .i64 k, pv, v]) (.mk k perm ts) := by
  obtain ⟨cs, h1, h2, h3⟩ := h
  have h2' := h2
  rcases h2.2 with ⟨rfl, h0⟩ | ⟨g, cap, cur, rfl, hb, hg, hn, hm, hs, ht⟩
  · have : ts = [] := List.eq_nil_of_length_eq_zero h0
    subst this
    exact TreeAt.mk k pv perm none 0 0 [] (fun _ => (0, .slice none 0 0, .slice none 0 0)) hp (fun b hb h0 => .inl (hpo b hb h0)) rfl (by omega) (by omega) (by omega) (by simp)
  · refine TreeAt.mk k pv perm _ _ cap ts (fun j => cs[j]?.getD (0, .slice none 0 0, .slice none 0 0)) hp (fun b hb h0 => .inl (hpo b hb h0)) rfl hn hm (fun h0 => ⟨g, 0, rfl, (Array.getElem?_eq_some_iff.1 hg).1, .inr hb, fun j hj => ?_⟩) (fun j t hj => ?_)
    · have hc : cs[j]? = some cs[j] := List.getElem?_eq_getElem (by omega)
      obtain ⟨c1, c2, c3⟩ := cells3_get hc
      have hcell : ∀ i u, (cells3 cs)[i]? = some u → w.cell? ⟨g, i, none⟩ = some u := by
        intro i u hi
        rw [World.ownsRow.cellAt h2' i ?_]
        · exact hi
        · have := (List.getElem?_eq_some_iff.1 hi).1
          rw [cells3_len] at this
          omega
      rw [hc, Nat.zero_add]
      exact ⟨hcell _ _ c1, hcell _ _ c2, hcell _ _ c3⟩
    · obtain ⟨c, hc, ht'⟩ := h3 j t hj
      rw [hc]
      exact ht'.kept (Nat.le_refl _) (fun b hk _ => ⟨.inl hk, rfl⟩)

/-- the blocks that give's growing tree may stand on -/
abbrev okG (B H : Nat) (v : Value) (b : Nat) : Prop := b < B ∨ H + 3 ≤ b ∧ some b ≠ v.ownBlock

structure GS (w W : World) (B : Nat) (k : Int) (pv tv v : Value) (ts : List TM) : Prop where
  own : TreesOwn W (w.heap.size + 3) (okG B w.heap.size v) v ts
  b1 : Blk W w.heap.size 65 [.int .i64 k, pv, tv]
  b2 : Blk W (w.heap.size + 1) 41 [.int .i64 0, .slice none 0 0, .slice none 0 0]
  b3 : Blk W (w.heap.size + 2) 41 [.int .i64 k, pv, v]
  below : Below w.heap.size w W
theorem GS.keep {w W W' : World} {B : Nat} {k : Int} {pv tv v : Value} {ts : List TM} (h : GS w W B k pv tv v ts) (hb : Below W.heap.size W W') : GS w W' B k pv tv v ts :=
  ⟨h.own.keep hb, h.b1.keep hb, h.b2.keep hb, h.b3.keep hb, h.below.trans (hb.mono h.below.size)⟩
theorem GS.step {w w5 w6 : World} {B : Nat} {k : Int} {pv tv v : Value} {ts ts' : List TM} {g6 n6 c6 : Nat} (h : GS w w5 B k pv tv v ts) (hBw : B ≤ w.heap.size) (o : Obj) (hgrow : (w5.alloc o).grownBy w6 v.ownBlock)
    (hown6 : TreesOwn w6 (w.heap.size + 3) (fun b => b < B ∨ w.heap.size + 3 ≤ b ∧ some b ≠ v.ownBlock ∧ b < w5.heap.size + 1) (.slice (some ⟨g6, 0, none⟩) n6 c6) ts') (hat : v.ownBlock = some g6 ∨ g6 = w5.heap.size + 1) :
    GS w (w6.setCell ⟨w.heap.size + 2, 2, none⟩ (.slice (some ⟨g6, 0, none⟩) n6 c6)) B k pv tv (.slice (some ⟨g6, 0, none⟩) n6 c6) ts' := by
  obtain ⟨hto, hblk1, hblk2, hblk3, hB⟩ := h
  have hlt := hto.lt
  have hn : ∀ j, j < w.heap.size + 3 → some j ≠ v.ownBlock := fun j hj e => by have := hlt j e.symm; omega
  have hblk6 : Blk w6 (w.heap.size + 2) 41 [.int .i64 k, pv, v] := Blk.grown (Blk.alloc hblk3 o) hgrow (hn _ (by omega))
  have hblk7 : Blk w6 (w.heap.size + 1) 41 [.int .i64 0, .slice none 0 0, .slice none 0 0] := Blk.grown (Blk.alloc hblk2 o) hgrow (hn _ (by omega))
  have hblk8 : Blk w6 w.heap.size 65 [.int .i64 k, pv, tv] := Blk.grown (Blk.alloc hblk1 o) hgrow (hn _ (by omega))
  have hlt6 := hown6.lt g6 (by rw [ob_some])
  refine ⟨?_, hblk8.other (by simp) _, hblk7.other (by simp) _, by simpa using hblk6.set 2 _, ?_⟩
  · refine hown6.kept (by simp [World.setCell]) (fun g hg => ?_) (fun b hb _ => ?_)
    · rw [ob_some] at hg
      cases hg
      exact Below.heap_setCell _ _ _ _ (by simp; omega)
    · rcases hb with hb | hb
      · exact ⟨.inl hb, Below.heap_setCell _ _ _ _ (by simp; omega)⟩
      · refine ⟨.inr ⟨hb.1, ?_⟩, Below.heap_setCell _ _ _ _ (by have := hb.1; simp; omega)⟩
        rw [ob_some]
        intro e
        have : b = g6 := by simpa using e
        subst this
        rcases hat with h | h
        · exact hb.2.1 h.symm
        · omega
  · have h1 : Below w.heap.size w w6 := Below.grown (hB.alloc hB.size o) hgrow (by have := hB.size; simp; omega) (fun k hk => by have := hlt k hk; omega)
    exact h1.setCell (p := ⟨w.heap.size + 2, 2, none⟩) (by simp) _

theorem ret48 {w : World} {tmps : Array Value} {g : Nat} {x y z : Value} (hp : tmps.getD 2 undef = .pointer (some ⟨g, 0, none⟩)) (hb : Blk w g 41 [x, y, z]) : (results Try.f48 tmps).run Try.prog w = .ok (.agg #[x, y, z]) w :=
  results_cell_row rfl tmps w g 41 _ (0, 0) _ hp hb Try.underlying41 rfl Try.size41

set_option maxRecDepth 100000 in
set_option maxHeartbeats 8000000 in
theorem give_any : ∀ (d : Nat) (v : Value) (t : TM) (w : World) (B : Nat), B ≤ w.heap.size → TreeAt w (fun b => b < B) v t → NarrowAt d t →
    Calls Try.prog 48 #[v] w fun e w' => ∃ u, e = .returned u ∧ TreeAt w' (fun b => b < B ∨ w.heap.size ≤ b) u t ∧ Below w.heap.size w w' := by
  intro d
  induction d with
  | zero => intro v t w B _ _ h; exact h.elim
  | succ d ih =>
    intro v t w B hBw ht hna
    obtain ⟨k, perm, ts⟩ := t
    have hpo0 := fun pv tv (h : v = .agg #[.int .i64 k, pv, tv]) => (show TreeAt w (fun b => b < B) (.agg #[.int .i64 k, pv, tv]) (.mk k perm ts) from h ▸ ht).permok
    obtain ⟨pv, tv, rfl, hp, hts⟩ := ht.parts
    have hpo := hpo0 pv tv rfl
    clear hpo0
    have hnp := hna.2
    have hnl := hna.1
    obtain ⟨a1, n1, c1, rfl, _, _⟩ := hp.open
    obtain ⟨a, n, cap, rfl, HN, hn⟩ := hts.open
    rw [HN.out] at hnl
    have HTS := Lib.hid hts
    have HP := Lib.hid hp
    have HPO := Lib.hid hpo
    have HNP := Lib.hid hnp
    have IH := Lib.hid ih
    have HBW := Lib.hid hBw
    clear hts hp hpo hnp ih ht hna
    have hg0 : GS w (((w.alloc (.cells #[.int .i64 k, .slice a1 n1 c1, .slice a n cap] 65)).alloc (.cells #[.int .i64 0, .slice none 0 0, .slice none 0 0] 41)).alloc (.cells #[.int .i64 k, .slice a1 n1 c1, .slice none 0 0] 41)) B k (.slice a1 n1 c1) (.slice a n cap) (.slice none 0 0) (ts.take 0) := by
      refine ⟨by simpa using TreesOwn.nil _ _ _, ((Blk.new w 65 _).alloc _).alloc _, ?_, ?_, (((Below.refl _ _).alloc (Nat.le_refl _) _).alloc (by simp) _).alloc (by simp; omega) _⟩
      · have := (Blk.new (w.alloc (.cells #[.int .i64 k, .slice a1 n1 c1, .slice a n cap] 65)) 41 [.int .i64 0, .slice none 0 0, .slice none 0 0]).alloc (.cells #[.int .i64 k, .slice a1 n1 c1, .slice none 0 0] 41)
        simpa using this
      · have := Blk.new ((w.alloc (.cells #[.int .i64 k, .slice a1 n1 c1, .slice a n cap] 65)).alloc (.cells #[.int .i64 0, .slice none 0 0, .slice none 0 0] 41)) 41 [.int .i64 k, .slice a1 n1 c1, .slice none 0 0]
        simpa using this
    have HG0 := Lib.hid hg0
    clear hg0
    go_enter Try.func48, Try.ntmps48
    go_wp2_with fail
    go_loopw [4] (fun iv wr => ∃ (j : Nat) (v : Value), j ≤ n ∧ iv = .int .i64 j ∧ Hid (GS w wr B k (.slice a1 n1 c1) (.slice a n cap) v (ts.take j))) (fun iv _ => n - (intOf iv).toNat)
    case atStart => exact ⟨0, .slice none 0 0, by omega, rfl, HG0⟩
    case round =>
      clear HG0
      obtain ⟨j, v, hj, rfl, HG⟩ := hrel
      have hB := HG.out.below
      have hsz := hB.size
      have q1 := HG.out.b1.cell (j := 2) rfl
      have q3 := HG.out.b3.cell (j := 2) rfl
      have hg3 := HG.out.b3.lt
      by_cases hlt : j < n
      · obtain ⟨b, o, t, rfl, hbl, hgt, x, ya, yn, yc, za, zn, zc, d0, d1, d2, htr⟩ := HTS.out.at_ hlt
        have e0 := (hB.cell (p := ⟨b, o + j * 3, none⟩) hbl).trans d0
        have e1 := (hB.cell (p := ⟨b, o + j * 3 + 1, none⟩) hbl).trans d1
        have e2 := (hB.cell (p := ⟨b, o + j * 3 + 2, none⟩) hbl).trans d2
        have htr1 : TreeAt wr (fun b => b < B) (.agg #[.int .i64 x, .slice ya yn yc, .slice za zn zc]) t := htr.keep hB
        have hca := IH.out _ t _ B (by have := HBW.out; omega) htr1 (HNP.out t (List.mem_of_getElem? hgt.out))
        have hts1 : ts.take (j + 1) = ts.take j ++ [t] := by rw [List.take_add_one, hgt.out]; rfl
        have htl : (ts.take j).length = j := by rw [List.length_take, HN.out]; omega
        obtain ⟨va, vn, vc, rfl⟩ : ∃ a n c, v = .slice a n c := by
          rcases HG.out.own.value with ⟨h, _⟩ | ⟨g, c, h⟩
          · exact ⟨_, _, _, h⟩
          · exact ⟨_, _, _, h⟩
        generalize ts.take j = us at *
        have HCA := Lib.hid hca
        have HTS1 := Lib.hid hts1
        have HTL := Lib.hid htl
        have hvlt := HG.out.own.lt
        have HVLT := Lib.hid hvlt
        clear d0 d1 d2 htr htr1 hca hts1 htl hvlt
        go_wp2_with (first
          | (go_at_call 48; refine HCA.out.mono ?_; rintro e w4 ⟨u4, rfl, ht4, hb4⟩; obtain ⟨k4, p4, t4, rfl, hp4, ht4c⟩ := ht4.shape; have hg4 := HG.out.keep hb4; have hz4 := hb4.size; have HG4 := Lib.hid hg4; have HT4 := Lib.hid ht4; have s3 := hg4.b3.free 2; clear hg4 ht4)
          | (at_builtin; go_loud (refine wpList_step (fun K hK => ?_); refine step_appT Try.info41 Try.underlying39 (v := .slice va vn vc) (ts := us) (base := w.heap.size + 3) (B := w4.heap.size) (z := k4) (pv := p4) (tv := t4) (tm := t) (ok := okG B w.heap.size (.slice va vn vc)) (ok' := fun b => b < B ∨ w.heap.size + 3 ≤ b ∧ some b ≠ (Value.slice va vn vc).ownBlock ∧ b < w4.heap.size + 1) (HG4.out.own.keep ((Below.refl _ _).alloc (Nat.le_refl _) _)) (by rw [HTL.out]; omega) (by rfl) (.tmp 20) (.tmp 27) (by rfl) (by simp [Act.eval]) (by simp [Act.eval]) (Blk.cell (Blk.new w4 41 [Value.int .i64 k4, p4, t4]) (j := 0) rfl) (Blk.cell (Blk.new w4 41 [Value.int .i64 k4, p4, t4]) (j := 1) rfl) (Blk.cell (Blk.new w4 41 [Value.int .i64 k4, p4, t4]) (j := 2) rfl) hp4 ht4c (HT4.out.kept (by simp) (fun b hb hlt => ⟨by rcases hb with hb | hb; exact .inl hb; exact .inr ⟨by omega, fun e => by have := HVLT.out b e.symm; omega⟩, Below.heap_alloc _ _ _ hlt⟩)) (fun b hb hlt => by rcases hb with hb | hb; exact ⟨fun e => by have := HVLT.out b e.symm; have := HBW.out; omega, .inl hb⟩; exact ⟨hb.2, .inr ⟨hb.1, hb.2, by simpa using hlt⟩⟩) (by simp; omega) (w4.heap.size + 1) (by simp) ?_; intro g6 c6 w6 hown6 hgrow6 hat6 hlt6; have hg6 := HG4.out.step HBW.out _ hgrow6 hown6 (by simpa using hat6); have HG6 := Lib.hid hg6; have s4 := (Blk.grown (Blk.alloc HG4.out.b3 (.cells #[.int .i64 k4, p4, t4] 41)) hgrow6 (fun e => by have := HVLT.out _ e.symm; omega)); have s5 := s4.cell (j := 2) rfl; have s6 := s4.free 2; clear hg6; refine hK _ _ ?_; clear hK)))
        go_roundw
        case rel => exact ⟨j + 1, _, by omega, by go_num, by rw [HTS1.out]; exact HG6⟩
        case measure => simp [intOf]; omega
      · obtain rfl : j = n := by omega
        obtain ⟨at2, nt2, ct2, rfl⟩ : ∃ a n c, v = .slice a n c := by
          rcases HG.out.own.value with ⟨h, _⟩ | ⟨g, c, h⟩
          · exact ⟨_, _, _, h⟩
          · exact ⟨_, _, _, h⟩
        have cc1 := HG.out.b3.cell (j := 0) rfl
        have cc2 := HG.out.b3.cell (j := 1) rfl
        have cc3 := HG.out.b3.cell (j := 2) rfl
        have d1 := HG.out.b2.cell (j := 0) rfl
        have d2 := HG.out.b2.cell (j := 1) rfl
        have d3 := HG.out.b2.cell (j := 2) rfl
        have f1 := HG.out.b2.free 0
        have f2 := HG.out.b2.free 1
        have f3 := HG.out.b2.free 2
        rw [List.take_of_length_le (by rw [HN.out]; exact Nat.le_refl _)] at HG
        have hb0 := ((HG.out.b2.set 0 (.int .i64 k)).set 1 (.slice a1 n1 c1)).set 2 (.slice at2 nt2 ct2)
        have hB3 := ((hB.setCell (p := ⟨w.heap.size + 1, 0, none⟩) (by simp) (.int .i64 k)).setCell (p := ⟨w.heap.size + 1, 1, none⟩) (by simp) (.slice a1 n1 c1)).setCell (p := ⟨w.heap.size + 1, 2, none⟩) (by simp) (.slice at2 nt2 ct2)
        have htr := (HG.out.own.treeI (HP.out.below hB (Nat.le_refl _)) (fun b h1 h2 => .inl (HPO.out b h1 h2)) k)
        have htr2 : TreeAt (((wr.setCell ⟨w.heap.size + 1, 0, none⟩ (.int .i64 k)).setCell ⟨w.heap.size + 1, 1, none⟩ (.slice a1 n1 c1)).setCell ⟨w.heap.size + 1, 2, none⟩ (.slice at2 nt2 ct2)) (fun b => b < B ∨ w.heap.size ≤ b) (.agg #[.int .i64 k, .slice a1 n1 c1, .slice at2 nt2 ct2]) (.mk k perm ts) :=
          htr.kept (by simp [World.setCell]) fun b hb _ => by
            have hbw := HBW.out
            have hb1 : b < B ∨ w.heap.size + 3 ≤ b := by
              rcases hb with (hb | hb) | hb
              · exact .inl hb
              · exact .inr hb.1
              · exact .inr hb
            refine ⟨by omega, ?_⟩
            rw [Below.heap_setCell _ _ _ _ (by simp; omega), Below.heap_setCell _ _ _ _ (by simp; omega), Below.heap_setCell _ _ _ _ (by simp; omega)]
        have HTR := Lib.hid htr2
        clear htr htr2
        go_wp2_with fail
        exact bodyPost_ret (ret48 rfl hb0) rfl ⟨_, rfl, HTR.out, hB3⟩

theorem TreeAt.any {w : World} {ok : Nat → Prop} {v : Value} {t : TM} (h : TreeAt w ok v t) : TreeAt w (fun _ => True) v t := h.kept (Nat.le_refl _) fun _ _ _ => ⟨trivial, rfl⟩

set_option maxRecDepth 100000 in
set_option maxHeartbeats 4000000 in
theorem rFill_good (v : Value) (t : TM) (w : World) (ok : Nat → Prop) (ht : TreeAt w ok v t) (hd : DeepAt 101 t) (hn : nodesT 101 t ≤ 1000) (s1 : (szR 101 t).2.1 ≤ 1000) (s2 : (szR 101 t).2.2 ≤ 100) (s3 : (szR 101 t).1 ≤ 60) (hc : canT 101 t = true) :
    Calls Try.prog 49 #[v] w fun e w' => ∃ u, e = .returned (.tuple #[u, .bool true]) ∧ Own w' w.heap.size 3 u (rfillT 101 t) ∧ Below w.heap.size w w' := by
  obtain ⟨k, a, n, c, a', n', c', rfl⟩ := ht.slices
  have hB := (Below.refl w.heap.size w).alloc (Nat.le_refl _) (.cells #[.int .i64 k, .slice a n c, .slice a' n' c'] 65)
  have hsz := rSize_any 101 _ t _ ok 1 (by omega) (by omega) (ht.keep hB)
  have hcn := fun W (h : TreeAt W ok (.agg #[.int .i64 k, .slice a n c, .slice a' n' c']) t) => canonical_any 101 _ t W ok h hd
  have hfl := fun W (h : TreeAt W ok (.agg #[.int .i64 k, .slice a n c, .slice a' n' c']) t) => rfill_any 101 (by omega) _ t W ok h (rgood_can _ _ hc hn)
  rw [hc] at hcn
  generalize rfillT 101 t = L at *
  generalize szR 101 t = r at *
  obtain ⟨r1, r2, r3⟩ := r
  simp only [] at s1 s2 s3 hsz
  have i1 : ¬ (1000 : Int) < (r2 : Int) := by omega
  have i2 : ¬ (100 : Int) < (r3 : Int) := by omega
  have i3 : ¬ (60 : Int) < (r1 : Int) := by omega
  have HSZ := Lib.hid hsz
  have HCN := Lib.hid hcn
  have HFL := Lib.hid hfl
  have HT := Lib.hid (ht.keep hB)
  clear hsz hcn hfl ht hd hn hc hB s1 s2 s3
  go_enter Try.func49, Try.ntmps49
  go_wp2_with (first
    | (go_at_call 87; refine (HFL.out _ (ht2.keep hb3)).mono ?_; rintro e w4 ⟨u4, rfl, ho4, hb4⟩)
    | (go_at_call 86; refine (HCN.out _ ht2).mono ?_; rintro e w3 ⟨rfl, hb3⟩; have k3 := k2.keep hb3; have p0 := k3.cell (j := 0) rfl; have p1 := k3.cell (j := 1) rfl; have p2 := k3.cell (j := 2) rfl)
    | (go_at_call 85; refine HSZ.out.mono ?_; rintro e w2 ⟨rfl, hb2⟩; have k2 := (Blk.new w 65 [.int .i64 k, .slice a n c, .slice a' n' c']).keep hb2; have q0 := k2.cell (j := 0) rfl; have q1 := k2.cell (j := 1) rfl; have q2 := k2.cell (j := 2) rfl; have ht2 := HT.out.keep hb2))
  go_ret2
  have z2 := hb2.size
  have z3 := hb3.size
  simp at z2
  exact ⟨_, rfl, ho4.mono (by omega), ((Below.refl _ _).alloc (Nat.le_refl _) _).trans ((hb2.mono (by simp)).trans ((hb3.mono (by omega)).trans (hb4.mono (by omega))))⟩
end Go.Proofs.Ytgajaccnjjiiaaa
