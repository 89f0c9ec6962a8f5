/- Blocks, and what a program must do whatever the input is. -/
import Derived.Test.YtgajaccnjjiiaaaW16
import Derived.Laws.ResultCell
namespace Go.Proofs.Ytgajaccnjjiiaaa
open Go.RowKit

theorem check_or (p : List Int) : checkM p = 0 ∨ checkM p = 20 := by
  unfold checkM
  split
  · exact .inr rfl
  · split
    · exact .inr rfl
    · split
      · exact .inl rfl
      · exact .inr rfl
theorem check_zero {p : List Int} (h : checkM p = 0) : 0 < p.length ∧ p.length ≤ 60 ∧ (∀ x ∈ p, 0 ≤ x ∧ x < p.length) ∧ markAll p zero60 = fullL p.length := by
  unfold checkM at h
  split at h
  · cases h
  · split at h
    · cases h
    · split at h
      · rename_i h1 h2 h3
        refine ⟨by omega, by omega, ?_, h3⟩
        have : inRange p = true := by simpa using h2
        unfold inRange at this
        intro x hx
        have := List.all_eq_true.1 this x hx
        simpa using this
      · cases h

theorem TreeAt.slices {w : World} {ok : Nat → Prop} {u : Value} {t : TM} (h : TreeAt w ok u t) : ∃ k a n c a' n' c', u = .agg #[.int .i64 k, .slice a n c, .slice a' n' c'] := by
  cases h with
  | mk k pv perm a n cap parts f hp =>
    obtain ⟨a', cap', rfl, _⟩ := hp
    exact ⟨_, _, _, _, _, _, _, rfl⟩

theorem ret25 {w : World} {tmps : Array Value} {g : Nat} {x y z : Value} (hp : tmps.getD 2 undef = .pointer (some ⟨g, 0, none⟩)) (hb : Blk w g 41 [x, y, z]) : (results Try.f25 tmps).run Try.prog w = .ok (.tuple #[.agg #[x, y, z], tmps.getD 3 undef]) w := by
  rw [results_cell_tmp (fn := Try.f25) (p := 2) (u := 3) (ty := 41) rfl, hp]
  simp [asAddr, run_loadVar_row w g 41 41 #[x, y, z] (0, 0) _ hb Try.underlying41 rfl Try.size41]

set_option maxRecDepth 100000 in
set_option maxHeartbeats 2000000 in
theorem Blocks_bad (v : Value) (p : List Int) (w : World) (hv : Ints w v p) (hch : checkM p = 20) :
    Calls Try.prog 25 #[v] w fun e w' => e = .returned (.tuple #[.agg #[.int .i64 0, .slice none 0 0, .slice none 0 0], .int .i64 20]) ∧ Below w.heap.size w w' := by
  have hv0 := hv.below ((Below.refl w.heap.size w).alloc (Nat.le_refl _) (.cells #[.int .i64 0, .slice none 0 0, .slice none 0 0] 41)) (Nat.le_refl _)
  go_enter Try.func25, Try.ntmps25
  go_wp2_with (go_at_call 63; refine (check_any _ p _ hv0).mono ?_; rw [hch]; rintro e w1 ⟨rfl, hb⟩; have hk := (Blk.new w 41 [.int .i64 0, .slice none 0 0, .slice none 0 0]).keep hb; have d1 := hk.cell (j := 0) rfl; have d2 := hk.cell (j := 1) rfl; have d3 := hk.cell (j := 2) rfl; have f1 := hk.free 0; have f2 := hk.free 1; have f3 := hk.free 2)
  have hk' := ((hk.set 0 (.int .i64 0)).set 1 (.slice none 0 0)).set 2 (.slice none 0 0)
  have hB : Below w.heap.size w w1 := ((Below.refl w.heap.size w).alloc (Nat.le_refl _) _).trans (hb.mono (by simp))
  exact bodyPost_ret (ret25 rfl hk') rfl ⟨rfl, ((hB.setCell (p := ⟨w.heap.size, 0, none⟩) (by simp) (.int .i64 0)).setCell (p := ⟨w.heap.size, 1, none⟩) (by simp) (.slice none 0 0)).setCell (p := ⟨w.heap.size, 2, none⟩) (by simp) (.slice none 0 0)⟩

set_option maxRecDepth 100000 in
set_option maxHeartbeats 2000000 in
theorem Blocks_any (v : Value) (p : List Int) (w : World) (hv : Ints w v p) (hch : checkM p = 0) :
    Calls Try.prog 25 #[v] w fun e w' => ∃ u, e = .returned (.tuple #[u, .int .i64 0]) ∧ TreeAt w' (fun b => w.heap.size ≤ b) u (treeF 60 p) ∧ Below w.heap.size w w' := by
  have hv0 := hv.below ((Below.refl w.heap.size w).alloc (Nat.le_refl _) (.cells #[.int .i64 0, .slice none 0 0, .slice none 0 0] 41)) (Nat.le_refl _)
  obtain ⟨h1, h2, h3, _⟩ := check_zero hch
  have H1 := Lib.hid h1
  have H2 := Lib.hid h2
  have H3 := Lib.hid h3
  clear h1 h2 h3
  go_enter Try.func25, Try.ntmps25
  go_wp2_with (first | (go_at_call 63; refine (check_any _ p _ hv0).mono ?_; rw [hch]; rintro e w1 ⟨rfl, hb⟩; have hz := hb.size; have hv1 := hv0.below hb (by simp)) | (go_at_call 70; refine (tree_any 60 _ p _ hv1 H1.out H2.out (by have := H2.out; omega) (fun x hx => by have := H3.out x hx; have := H2.out; omega)).mono ?_; rintro e w2 ⟨u, rfl, ht, hb2⟩; obtain ⟨k5, a5, n5, c5, a6, n6, c6, rfl⟩ := ht.slices; have hk := ((Blk.new w 41 [.int .i64 0, .slice none 0 0, .slice none 0 0]).keep hb).keep hb2; have d1 := hk.cell (j := 0) rfl; have d2 := hk.cell (j := 1) rfl; have d3 := hk.cell (j := 2) rfl; have f1 := hk.free 0; have f2 := hk.free 1; have f3 := hk.free 2))
  have hk' := ((hk.set 0 (.int .i64 k5)).set 1 (.slice a5 n5 c5)).set 2 (.slice a6 n6 c6)
  have hB : Below w.heap.size w w2 := ((Below.refl w.heap.size w).alloc (Nat.le_refl _) _).trans ((hb.mono (by simp)).trans (hb2.mono (by simp at hz; omega)))
  have ht' := ht.after (B := w.heap.size) (fun b hb => by simp at hz; omega) (.int .i64 k5) (.slice a5 n5 c5) (.slice a6 n6 c6)
  exact bodyPost_ret (ret25 rfl hk') rfl ⟨_, rfl, ht', ((hB.setCell (p := ⟨w.heap.size, 0, none⟩) (by simp) (.int .i64 k5)).setCell (p := ⟨w.heap.size, 1, none⟩) (by simp) (.slice a5 n5 c5)).setCell (p := ⟨w.heap.size, 2, none⟩) (by simp) (.slice a6 n6 c6)⟩

theorem awake_code : codeM [2, 0, 1] = [2, 0, 0] := by decide +kernel
theorem awake_sort : (sortOut (sortM [2, 0, 1])).1.length = 6 ∧ (sortOut (sortM [2, 0, 1])).2 = true := by decide +kernel
theorem awake_check3 : checkM [2, 0, 1] = 0 := by decide +kernel
theorem awake_check4 : checkM [1, 3, 0, 2] = 0 := by decide +kernel
theorem awake_bx : bxTo 4 4 = 22 := by decide +kernel
theorem awake_cuts : (cutsM [1, 3, 0, 2] true).length = 1 ∧ (cutsM [1, 3, 0, 2] false).length = 1 := by decide +kernel
theorem awake_blocks : blocksM [1, 3, 0, 2] = [0, 1, 2, 3] := by
  have e0 : endM [1, 3, 0, 2] 0 = 1 := by decide +kernel
  have e1 : endM [1, 3, 0, 2] 1 = 2 := by decide +kernel
  have e2 : endM [1, 3, 0, 2] 2 = 3 := by decide +kernel
  have e3 : endM [1, 3, 0, 2] 3 = 4 := by decide +kernel
  rw [blocksM, blocksFrom, dif_pos (by simp), e0, blocksFrom, dif_pos (by simp), e1, blocksFrom, dif_pos (by simp), e2, blocksFrom, dif_pos (by simp), e3, blocksFrom, dif_neg (by simp)]
  rfl
theorem awake_tree : ∃ perm parts, treeF 60 [1, 3, 0, 2] = .mk 3 perm parts ∧ parts.length = 4 := by
  have hk : kindM [1, 3, 0, 2] = 3 := by unfold kindM; rw [if_pos awake_cuts.1, if_pos awake_cuts.2]
  have hm : marksM [1, 3, 0, 2] = [0, 1, 2, 3] := by unfold marksM; rw [if_pos awake_cuts.1, if_pos awake_cuts.2, awake_blocks]
  refine ⟨_, _, by rw [treeF, if_neg (by simp), hk], ?_⟩
  rw [hm]; simp
theorem tree_four {w : World} {ok : Nat → Prop} {u : Value} {t : TM} (h : TreeAt w ok u t) {perm : List Int} {parts : List TM} {k : Int} (e : t = .mk k perm parts) : ∃ a n c a' c', u = .agg #[.int .i64 k, .slice a n c, .slice a' parts.length c'] := by
  cases h with
  | mk k' pv perm' a n cap parts' f hp hpo hn =>
    obtain ⟨a', cap', rfl, _⟩ := hp
    cases e
    exact ⟨_, _, _, _, _, by rw [hn]⟩

theorem awake_18 (w : World) : Calls Try.prog 18 #[.int .i64 4] w fun e w' => e = .returned (.tuple #[.int .i64 22, .int .i64 0]) ∧ ∃ m, w' = w.drewN m := by
  refine (baxters_in 4 w (by omega) (by omega)).mono ?_
  rintro e w' ⟨rfl, h⟩
  exact ⟨by rw [show bxTo ((4 : Nat) : Int) 4 = 22 from awake_bx], h⟩

theorem awake_23 (v : Value) (w : World) (hv : Ints w v [2, 0, 1]) : Calls Try.prog 23 #[v] w fun e w' => ∃ s : ByteArray, e = .returned (.tuple #[.string s, .bool true, .int .i64 0]) ∧ s.size = 6 ∧ Below w.heap.size w w' := by
  refine (sort_any v [2, 0, 1] w hv awake_check3 (by simp)).mono ?_
  rintro e w' ⟨rfl, h⟩
  exact ⟨_, by rw [awake_sort.2], by simpa [ByteArray.size] using awake_sort.1, h⟩

set_option maxRecDepth 100000 in
set_option maxHeartbeats 4000000 in
theorem awake_any (w : World) : Calls Try.prog 22 #[] w fun e w' => e = .returned (.bool true) ∧ Below w.heap.size w w' := by
  obtain ⟨perm, parts, htree, hparts⟩ := awake_tree
  have HT := Lib.hid htree
  have HP := Lib.hid hparts
  clear htree hparts
  go_enter Try.func22, Try.ntmps22
  go_wp2_with (first
    | (go_at_call 32; refine (Code_any _ [2, 0, 1] _ (Ints.lit w 3 [2, 0, 1] (by simp)) awake_check3 (by simp)).mono ?_; rw [awake_code]; rintro e w1 ⟨u1, rfl, hu1, hb1⟩)
    | (go_at_call 18; refine (awake_18 _).mono ?_; rintro e w2 ⟨rfl, m2, rfl⟩; have hu2 : Ints (w1.drewN m2) u1 [2, 0, 0] := hu1; have hB2 : Below w.heap.size w (w1.drewN m2) := (((Below.refl _ w).alloc (Nat.le_refl _) _).trans (hb1.mono (by simp))).drewN' m2; generalize w1.drewN m2 = wa at *)
    | (go_at_call 25; refine (Blocks_any _ [1, 3, 0, 2] _ (Ints.lit wa 3 [1, 3, 0, 2] (by simp)) awake_check4).mono ?_; rintro e w3 ⟨u3, rfl, ht3, hb3⟩; obtain ⟨a3, n3, c3, a4, c4, rfl⟩ := tree_four ht3 HT.out; rw [HP.out]; have hB3 : Below wa.heap.size wa w3 := ((Below.refl _ wa).alloc (Nat.le_refl _) _).trans (hb3.mono (by simp)); have hu3 := hu2.below hB3 (Nat.le_refl _); have hB3' := hB2.trans (hB3.mono hB2.size); have hz3 := hB3'.size)
    | (go_at_call 23; refine (awake_23 _ _ (by simpa using Ints.lit (w3.alloc (.cells #[.int .i64 3, .slice a3 n3 c3, .slice a4 4 c4] 41)) 3 [2, 0, 1] (by simp))).mono ?_; rintro e w5 ⟨s5, rfl, hs5, hb5⟩; have hB5 : Below w3.heap.size w3 w5 := (((Below.refl _ w3).alloc (Nat.le_refl _) _).alloc (by simp) _).trans (hb5.mono (by simp; omega)); have hu5 := hu3.below hB5 (Nat.le_refl _); have hk5 := (Blk.alloc (Blk.new w3 41 [.int .i64 3, .slice a3 n3 c3, .slice a4 4 c4]) (.cells #[.int .i64 2, .int .i64 0, .int .i64 1] 3)).keep hb5; have d1 := hk5.cell (j := 0) rfl; have d3 := hk5.cell (j := 2) rfl; obtain ⟨a1, n1, c1, rfl, hn1, _⟩ := hu5.open; obtain rfl : n1 = 3 := hn1.out.symm; obtain ⟨b1, o1, x1, rfl, hx1, cx1⟩ := hu5.at_ (k := 0) (by omega); obtain rfl : x1 = 2 := (by simpa using hx1.out.symm); rw [Nat.add_zero] at cx1))

  go_ret
  exact ⟨rfl, hB3'.trans (hB5.mono hz3)⟩
end Go.Proofs.Ytgajaccnjjiiaaa
