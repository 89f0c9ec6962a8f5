/- Weak: the walk. -/
import Derived.Test.YtgajaccnjjiiaaaW35
namespace Go.Proofs.Ytgajaccnjjiiaaa
open Go.RowKit Go.Shelf
attribute [local go_sem] Oper.semAt_some

/-- whether each inversion of p is one of q -/
def weakM (p q : List Int) : Bool := (invs p).all fun x => invT q (p[x.1]?.getD 0).toNat (p[x.2]?.getD 0).toNat

theorem ret52 {w : World} {tmps : Array Value} {g h : Nat} {b : Bool} {e : Int} (h4 : tmps[4]?.getD undef = .pointer (some ⟨g, 0, none⟩)) (h5 : tmps[5]?.getD undef = .pointer (some ⟨h, 0, none⟩))
    (hb : Blk w g 4 [.bool b]) (he : Blk w h 24 [.int .i64 e]) : (results Try.f52 tmps).run Try.prog w = .ok (.tuple #[.bool b, .int .i64 e]) w := by
  have c1 := hb.cell (j := 0) rfl
  have c2 := he.cell (j := 0) rfl
  simp [results, Try.results52, go_sem, h4, h5, c1, c2]

set_option maxRecDepth 100000 in
set_option maxHeartbeats 2000000 in
theorem Weak_bad (v u : Value) (p q : List Int) (w : World) (hv : Ints w v p) (hu : Ints w u q) (hc : ck2 p q ≠ 0) :
    Calls Try.prog 52 #[v, u] w fun e w' => e = .returned (.tuple #[.bool false, .int .i64 (ck2 p q)]) ∧ Below w.heap.size w w' := by
  obtain ⟨a, n, cap, rfl, HN, hn'⟩ := hv.open
  have hb1 : (ck2 p q != 0) = true := by simpa using hc
  have hB0 : Below w.heap.size w (((w.alloc (.cells #[.slice a n cap] 22)).alloc (.cells #[.bool false] 4)).alloc (.cells #[.int .i64 0] 24)) := (((Below.refl _ _).alloc (Nat.le_refl _) _).alloc (by simp) _).alloc (by simp; omega) _
  have k1 := (Blk.new (w.alloc (.cells #[.slice a n cap] 22)) 4 [.bool false]).alloc (.cells #[.int .i64 0] 24)
  have k2 := Blk.new ((w.alloc (.cells #[.slice a n cap] 22)).alloc (.cells #[.bool false] 4)) 24 [.int .i64 0]
  simp only [World.size_alloc] at k1 k2
  go_enter Try.func52, Try.ntmps52
  go_wp2_with (go_at_call 88; refine (checkTwo_any _ _ p q _ (hv.below hB0 (Nat.le_refl _)) (hu.below hB0 (Nat.le_refl _))).mono ?_; rintro e w1 ⟨rfl, hb⟩; have d1 := (k1.keep hb).cell (j := 0) rfl; have d2 := (k2.keep hb).cell (j := 0) rfl; have f1 := (k1.keep hb).free 0; have f2 := (k2.keep hb).free 0)
  have k1' := ((k1.keep hb).set 0 (.bool false)).other (a := ⟨w.heap.size + 1 + 1, 0, none⟩) (by simp) (.int .i64 (ck2 p q))
  have k2' := ((k2.keep hb).other (a := ⟨w.heap.size + 1, 0, none⟩) (by simp) (.bool false)).set 0 (.int .i64 (ck2 p q))
  have hB1 : Below w.heap.size w w1 := hB0.trans (hb.mono (by simp; omega))
  exact bodyPost_ret (ret52 rfl rfl k1' k2') rfl ⟨rfl, (hB1.setCell (p := ⟨w.heap.size + 1, 0, none⟩) (by simp) _).setCell (p := ⟨w.heap.size + 1 + 1, 0, none⟩) (by simp; omega) _⟩

set_option maxRecDepth 100000 in
set_option maxHeartbeats 4000000 in
theorem Weak_any (v u : Value) (p q : List Int) (w : World) (hv : Ints w v p) (hu : Ints w u q) (hc : ck2 p q = 0) :
    Calls Try.prog 52 #[v, u] w fun e w' => e = .returned (.tuple #[.bool (weakM p q), .int .i64 0]) ∧ Below w.heap.size w w' := by
  obtain ⟨hcp, hcq, hlen⟩ := ck2_zero hc
  obtain ⟨h1, h2, hrp, _⟩ := check_zero hcp
  have hrq := perm_range hcq
  have hrl : q.length ≤ 60 := by omega
  obtain ⟨ao, n, cap, rfl, HN, hn'⟩ := hv.open
  rw [HN.out] at h1 h2
  have HRP := Lib.hid hrp
  have HRQ := Lib.hid hrq
  have HC := Lib.hid hc
  have HRL := Lib.hid hrl
  clear hcp hcq hlen hrp hrq hc hrl
  have hB0 : Below w.heap.size w (((w.alloc (.cells #[.slice ao n cap] 22)).alloc (.cells #[.bool false] 4)).alloc (.cells #[.int .i64 0] 24)) := (((Below.refl _ _).alloc (Nat.le_refl _) _).alloc (by simp) _).alloc (by simp; omega) _
  have k0 := ((Blk.new w 22 [.slice ao n cap]).alloc (.cells #[.bool false] 4)).alloc (.cells #[.int .i64 0] 24)
  have k1 := (Blk.new (w.alloc (.cells #[.slice ao n cap] 22)) 4 [.bool false]).alloc (.cells #[.int .i64 0] 24)
  have k2 := Blk.new ((w.alloc (.cells #[.slice ao n cap] 22)).alloc (.cells #[.bool false] 4)) 24 [.int .i64 0]
  simp only [World.size_alloc] at k1 k2
  refine (callsIn_wide (n := 6)).1 ?_
  refine callsIn_of_wp_marks Try.func52 rfl trivial ?_ rfl
  simp only [Try.ntmps52, List.size_toArray, List.length_cons, List.length_nil, Nat.reduceAdd, Nat.reduceSub, Array.replicate_succ, Array.replicate_zero, List.push_toArray, List.append_toArray, List.nil_append, List.cons_append]
  refine wpIn_wide.2 ?_
  go_wp2_with (first
    | (go_at_call 88; refine (checkTwo_any _ _ p q _ (hv.below hB0 (Nat.le_refl _)) (hu.below hB0 (Nat.le_refl _))).mono ?_; rw [HC.out]; rintro e w1 ⟨rfl, hb⟩; have hz1 := hb.size; have hB1 : Below w.heap.size w w1 := hB0.trans (hb.mono (by simp; omega)))
    | (go_at_call 89; refine (inverted_any _ q _ (hu.below hB1 (Nat.le_refl _)) HRQ.out HRL.out).mono ?_; rintro e w2 ⟨g, rfl, hg, hm, hb2⟩; have hB2 := hB1.trans (hb2.mono hB1.size); have d0 := ((k0.keep hb).keep hb2).cell (j := 0) rfl; have hlt0 := ((k0.keep hb).keep hb2).lt)
    | (go_at_call 73; refine (inversions_plain _ _ _ _).mono ?_; rintro e w' ⟨rfl, rfl⟩))
  have hlt2 := hm.lt
  have hW2 : Below w2.heap.size w2 ((w2.alloc (.cells #[.pointer (some ⟨g, 0, none⟩)] 107)).alloc (.cells #[.slice ao n cap] 22)) := ((Below.refl _ _).alloc (Nat.le_refl _) _).alloc (by simp) _
  have kb0 := ((k0.keep hb).keep hb2).keep hW2
  have kb1 := ((k1.keep hb).keep hb2).keep hW2
  have kb2 := ((k2.keep hb).keep hb2).keep hW2
  have kb3 := (Blk.new w2 107 [.pointer (some ⟨g, 0, none⟩)]).alloc (.cells #[.slice ao n cap] 22)
  have hmW := hm.keep hW2
  have hBW := hB2.trans (hW2.mono hB2.size)
  have hbx2 := (Blk.new (w2.alloc (.cells #[.pointer (some ⟨g, 0, none⟩)] 107)) 22 [.slice ao n cap]).cell (j := 0) rfl
  rw [World.size_alloc] at hbx2
  have hsz2 : ((w2.alloc (.cells #[.pointer (some ⟨g, 0, none⟩)] 107)).alloc (.cells #[.slice ao n cap] 22)).heap.size = w2.heap.size + 2 := by simp
  have hz1' : w.heap.size + 3 ≤ w1.heap.size := by simpa using hz1
  have hz2 := hb2.size
  have hv2 := hv.below hB2 (Nat.le_refl _)
  generalize ((w2.alloc (.cells #[.pointer (some ⟨g, 0, none⟩)] 107)).alloc (.cells #[.slice ao n cap] 22)) = W0 at *
  obtain ⟨b, hbS⟩ := hv2.slAt hW2 hbx2
  clear k0 k1 k2 hb hz1 hb2 hm hbx2 hv2 d0 hB0
  have hpl : p.length = n := HN.out
  refine (wpIn_wide (n := 6)).1 ?_
  refine wpIn_rangeFunc_ownF rfl (by omega) (gf := 104) (lb := #[.pointer (some ⟨w2.heap.size + 1, 0, none⟩)]) rfl trivial (enters_of Try.func104 (by kernel_rfl) rfl)
    (inv_stops Fence.wide 5 trivial rfl (by omega) (w2.heap.size + 1) b (.slice ao n cap) p (by omega) _ hbS.1 (by omega) (by intro h; have := hbS.2 h; omega)) KpP_t KpP_b (Below.refl _ _) (fun _ => rfl)
    (fun pre W => ((Blk W w.heap.size 22 [.slice ao n cap] ∧ Blk W (w.heap.size + 1) 4 [.bool false] ∧ Blk W (w.heap.size + 1 + 1) 24 [.int .i64 0] ∧ Blk W w2.heap.size 107 [.pointer (some ⟨g, 0, none⟩)] ∧ Mat W g (invT q)) ∧ Hid (∀ x ∈ vals pre, invT q (p[x.1]?.getD 0).toNat (p[x.2]?.getD 0).toNat = true)) ∧ Below w.heap.size w W)
    (fun c pre W => ((c = .ret ∧ Blk W (w.heap.size + 1) 4 [.bool false] ∧ Blk W (w.heap.size + 1 + 1) 24 [.int .i64 0]) ∧ Hid (weakM p q = false)) ∧ Below w.heap.size w W)
    (OwnFrom.and (Own.from (fun s A B row hs hg hr => ⟨⟨hs.1.1.own hg hr, hs.1.2.1.own hg hr, hs.1.2.2.1.own hg hr, hs.1.2.2.2.1.own hg hr, hs.1.2.2.2.2.own hg hr⟩, hs.2⟩) _) (ownFrom_below (Nat.le_refl _) (by omega)))
    (fun c => OwnFrom.and (Own.from (fun s A B row hs hg hr => ⟨⟨hs.1.1, hs.1.2.1.own hg hr, hs.1.2.2.own hg hr⟩, hs.2⟩) _) (ownFrom_below (Nat.le_refl _) (by omega)))
    ?h0
    (fun x => { tmps := #[.slice ao n cap, u, .pointer (some ⟨w.heap.size, 0, none⟩), undef, .pointer (some ⟨w.heap.size + 1, 0, none⟩), .pointer (some ⟨w.heap.size + 1 + 1, 0, none⟩), .int .i64 0, .pointer (some ⟨w2.heap.size, 0, none⟩), .int .i64 x.1.1, .int .i64 x.1.2, .slice ao n cap, u, .int .i64 0, .int .i64 0, .bool false, undef, u, .pointer (some ⟨g, 0, none⟩), .slice ao n cap, .func (.func 104) #[] #[.pointer (some ⟨w2.heap.size + 1, 0, none⟩)], .int .i64 x.1.1, .int .i64 x.1.2, undef, undef, undef, undef, undef, undef, undef, undef, undef, undef, undef, undef, undef, undef], defers := [] }) ?assign ?body ?done ?stop
  case h0 => exact ⟨⟨⟨kb0, kb1, kb2, kb3, hmW⟩, (show Hid (∀ x ∈ vals ([] : List (Inv p)), invT q (p[x.1]?.getD 0).toNat (p[x.2]?.getD 0).toNat = true) from fun x hx => by simp [vals] at hx)⟩, hBW⟩
  case assign =>
    intro l x W K hK
    gi_wp2
    simpa using hK
  case body =>
    rintro l pre x W ⟨⟨⟨e0, e1, e2, e3, hm⟩, HALL⟩, hB⟩ hlen
    clear kb0 kb1 kb2 kb3 hmW hBW
    have hx := invs_lt p x.1 x.2
    have hx1 : x.1.1 < n := by omega
    have hx2 : x.1.2 < n := by omega
    have hvW := hv.below hB (Nat.le_refl _)
    obtain ⟨b2, o2, y1, rfl, hy1, hc1⟩ := hvW.at_ hx1
    obtain ⟨y2, hy2, hc2⟩ := hvW.cell_ hx2
    obtain ⟨q1, q2⟩ := HRP.out y1 (List.mem_of_getElem? hy1.out)
    obtain ⟨q3, q4⟩ := HRP.out y2 (List.mem_of_getElem? hy2.out)
    obtain ⟨a1, rfl⟩ := Int.eq_ofNat_of_zero_le q1
    obtain ⟨a2, rfl⟩ := Int.eq_ofNat_of_zero_le q3
    have r1 : a1 < 60 := by omega
    have r2 : a2 < 60 := by omega
    have r3 : (a1 : Int) < 60 := by omega
    have r4 : (a2 : Int) < 60 := by omega
    have hcell := hm.cell r1 r2
    have hval : invT q (p[x.1.1]?.getD 0).toNat (p[x.1.2]?.getD 0).toNat = invT q a1 a2 := by rw [hy1.out, hy2.out]; rfl
    have c0 := e0.cell (j := 0) rfl
    have c3 := e3.cell (j := 0) rfl
    have c4 := e1.cell (j := 0) rfl
    have c5 := e2.cell (j := 0) rfl
    have f4 := e1.free 0
    have f5 := e2.free 0
    have HVAL := Lib.hid hval
    have HM := Lib.hid hm
    have HE0 := Lib.hid e0
    have HE1 := Lib.hid e1
    have HE2 := Lib.hid e2
    have HE3 := Lib.hid e3
    have HBS := Lib.hid hbS
    clear hm hval hy1 hy2 hvW hbS e0 e1 e2 e3
    generalize hbb : invT q a1 a2 = bb at *
    clear hbb
    cases bb
    · have hfin : weakM p q = false := by
        unfold weakM
        rw [List.all_eq_false]
        exact ⟨x.1, x.2, by rw [HVAL.out]; decide⟩
      have HF := Lib.hid hfin
      clear hfin
      gi_wp2
      refine wpIn_tail (fun _ => trivial) 13 (by kernel_rfl) (by kernel_rfl) (by rfl) ?_
      simp only [List.take_succ_cons, List.take_zero, List.drop_succ_cons, List.drop_zero]
      repeat still_step
      try refine wpStill_nil ?_
      go_wp2
      refine ⟨fun h => (by cases h), ?_⟩
      gi_wp2
      refine ⟨((KeepsOthers.setCell _ _ _).trans (KeepsOthers.setCell _ _ _)).trans (KeepsOthers.drew _), ⟨⟨rfl, ?_, ?_⟩, HF⟩, ?_⟩
      · exact (HE1.out.set 0 (.bool false)).other (a := ⟨w.heap.size + 1 + 1, 0, none⟩) (by simp) (.int .i64 0)
      · exact (HE2.out.other (a := ⟨w.heap.size + 1, 0, none⟩) (by simp) (.bool false)).set 0 (.int .i64 0)
      · exact ((hB.setCell (p := ⟨w.heap.size + 1, 0, none⟩) (by simp) (.bool false)).setCell (p := ⟨w.heap.size + 1 + 1, 0, none⟩) (by simp; omega) (.int .i64 0)).drewN' 1
    · gi_wp2
      refine wpIn_tail (fun _ => trivial) 13 (by kernel_rfl) (by kernel_rfl) (by rfl) ?_
      simp only [List.take_succ_cons, List.take_zero, List.drop_succ_cons, List.drop_zero]
      repeat still_step
      try refine wpStill_nil ?_
      go_wp2
      refine ⟨fun h => (by cases h), ?_⟩
      gi_wp2
      refine ⟨KeepsOthers.drew _, ⟨fun _ h => h, fun _ _ h => h⟩, ⟨⟨HE0.out, HE1.out, HE2.out, HE3.out, HM.out⟩, ?_⟩, hB.drewN' 1⟩
      show Hid _
      rw [vals_snoc]
      intro y hy
      rcases List.mem_append.1 hy with hy | hy
      · exact HALL.out y hy
      · rw [List.mem_singleton] at hy
        subst hy
        exact HVAL.out
  case done =>
    rintro D ys W hD hys ⟨⟨⟨e0, e1, e2, e3, hm⟩, HALL⟩, hB⟩ hK
    have hfin : weakM p q = true := by
      unfold weakM
      rw [List.all_eq_true, ← hys]
      exact HALL.out
    have HF := Lib.hid hfin
    clear hfin kb0 kb1 kb2 kb3 hmW hBW
    have c4 := e1.cell (j := 0) rfl
    have c5 := e2.cell (j := 0) rfl
    have f4 := e1.free 0
    have f5 := e2.free 0
    have g1 := (e1.set 0 (.bool true)).other (a := ⟨w.heap.size + 1 + 1, 0, none⟩) (by simp) (.int .i64 0)
    have g2 := (e2.other (a := ⟨w.heap.size + 1, 0, none⟩) (by simp) (.bool true)).set 0 (.int .i64 0)
    have hB' := (hB.setCell (p := ⟨w.heap.size + 1, 0, none⟩) (by simp) (.bool true)).setCell (p := ⟨w.heap.size + 1 + 1, 0, none⟩) (by simp; omega) (.int .i64 0)
    have hK1 := (heap_setCell_other W ⟨w.heap.size + 1, 0, none⟩ D (.bool true) (by simp; omega)).trans hK
    have hK2 := (heap_setCell_other (W.setCell ⟨w.heap.size + 1, 0, none⟩ (.bool true)) ⟨w.heap.size + 1 + 1, 0, none⟩ D (.int .i64 0) (by simp; omega)).trans hK1
    have HG1 := Lib.hid g1
    have HG2 := Lib.hid g2
    have HB' := Lib.hid hB'
    have HK2 := Lib.hid hK2
    clear g1 g2 hB' hK1 hK2 e0 e1 e2 e3 hm
    go_wp2
    refine ⟨by simp, .inl ⟨_, _, rfl, run_takeDeferred HK2.out, ?_⟩⟩
    refine ⟨_, ret52 rfl rfl (HG1.out.own (grownBy_putObj' _ D (.deferred none)) (fun r e => by cases e; exact ⟨_, HK2.out, rfl⟩)) (HG2.out.own (grownBy_putObj' _ D (.deferred none)) (fun r e => by cases e; exact ⟨_, HK2.out, rfl⟩)), ?_⟩
    exact ⟨by rw [HF.out], HB'.out.trans (belowK_b (w := w) (Nat.le_refl _) _ D _ _ (by omega) HK2.out rfl rfl)⟩
  case stop =>
    rintro D c pre W hD hpre ⟨⟨⟨rfl, e1, e2⟩, HF⟩, hB⟩ hK
    clear kb0 kb1 kb2 kb3 hmW hBW
    have HE1 := Lib.hid e1
    have HE2 := Lib.hid e2
    clear e1 e2
    refine wpIn_wide.2 ?_
    go_wp2
    refine ⟨by simp, .inl ⟨_, _, rfl, run_takeDeferred hK, ?_⟩⟩
    refine ⟨_, ret52 rfl rfl (HE1.out.own (grownBy_putObj' _ D (.deferred none)) (fun r e => by cases e; exact ⟨_, hK, rfl⟩)) (HE2.out.own (grownBy_putObj' _ D (.deferred none)) (fun r e => by cases e; exact ⟨_, hK, rfl⟩)), ?_⟩
    exact ⟨by rw [HF.out], hB.trans (belowK_b (w := w) (Nat.le_refl _) _ D _ _ (by omega) hK rfl rfl)⟩
end Go.Proofs.Ytgajaccnjjiiaaa
