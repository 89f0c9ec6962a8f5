/- Fill: filled: the walk. -/
import Derived.Test.YtgajaccnjjiiaaaW66
import Derived.Test.YtgajaccnjjiiaaaW13
import Derived.Test.YtgajaccnjjiiaaaW23
namespace Go.Proofs.Ytgajaccnjjiiaaa
open Go.RowKit

/-- what filled answers, at a depth -/
def FilledAt (d : Nat) : Prop := ∀ (v : Value) (t : TM) (w : World) (ok : Nat → Prop), TreeAt w ok v t → GoodT d t → Calls Try.prog 83 #[v] w fun e w' => ∃ u, e = .returned u ∧ Own w' w.heap.size 3 u (filledT d t) ∧ Below w.heap.size w w'

/-- what stands while filled runs: the box of the tree, and the rows of order -/
structure FS (w : World) (W : World) (k : Int) (pv tv : Value) (n : Nat) (os : List Int) : Prop where
  below : Below w.heap.size w W
  box : Blk W w.heap.size 41 [.int .i64 k, pv, tv]
  ord : Blk W (w.heap.size + 1) 3 (I64s os ++ List.replicate (n - os.length) (.int .i64 0))
theorem FS.keep {w W W' : World} {k : Int} {pv tv : Value} {n : Nat} {os : List Int} (h : FS w W k pv tv n os) (hb : Below W.heap.size W W') : FS w W' k pv tv n os :=
  ⟨h.below.trans (hb.mono h.below.size), h.box.keep hb, h.ord.keep hb⟩

theorem FS.set {w W : World} {k : Int} {pv tv : Value} {n : Nat} {os : List Int} (h : FS w W k pv tv n os) {i : Nat} (hi : os.length = i) (hn : i < n) (x : Int) : FS w (W.setCell ⟨w.heap.size + 1, i, none⟩ (.int .i64 x)) k pv tv n (os ++ [x]) := by
  subst hi
  refine ⟨h.below.setCell (p := ⟨w.heap.size + 1, os.length, none⟩) (by simp) _, h.box.other (by simp) _, ?_⟩
  have h1 := h.ord.set os.length (.int .i64 x)
  have h2 := snoc_set (xs := I64s os) (n := n) (z := Value.int .i64 0) (y := Value.int .i64 x) (by simpa using hn)
  simp only [I64s, List.length_map] at h2
  rw [h2] at h1
  simpa [I64s] using h1
theorem FS.other {w W : World} {k : Int} {pv tv : Value} {n : Nat} {os : List Int} (h : FS w W k pv tv n os) {a : Addr} (ha : w.heap.size + 1 < a.block) (x : Value) : FS w (W.setCell a x) k pv tv n os :=
  ⟨h.below.setCell (p := a) (by omega) x, h.box.other (by omega) x, h.ord.other (by omega) x⟩
theorem FS.drewN {w W : World} {k : Int} {pv tv : Value} {n : Nat} {os : List Int} (h : FS w W k pv tv n os) (m : Nat) : FS w (W.drewN m) k pv tv n os := ⟨h.below.drewN' m, h.box, h.ord⟩
theorem FS.grown {w W W' : World} {k : Int} {pv tv : Value} {n : Nat} {os : List Int} (h : FS w W k pv tv n os) {row : Option Nat} (hg : W.grownBy W' row) (hb : Below w.heap.size W W') (hr : ∀ g, row = some g → w.heap.size + 1 < g) : FS w W' k pv tv n os :=
  ⟨h.below.trans hb, h.box.grown hg (fun e => by have := hr _ e.symm; omega), h.ord.grown hg (fun e => by have := hr _ e.symm; omega)⟩
theorem FS.cell {w W : World} {k : Int} {pv tv : Value} {n : Nat} {os : List Int} (h : FS w W k pv tv n os) {i : Nat} {x : Int} (hx : os[i]? = some x) : W.cell? ⟨w.heap.size + 1, i, none⟩ = some (.int .i64 x) :=
  h.ord.cell (by rw [List.getElem?_append_left (by simpa using (List.getElem?_eq_some_iff.1 hx).1)]; exact i64s_get hx)
theorem ordL_take {k : Int} {perm : List Int} {n i : Nat} (h : i < n) : (ordL k perm n).take (i + 1) = (ordL k perm n).take i ++ [ordF k perm n i] := take_snoc' (ordL_get h)

/-- the rows vs, which lie below block H -/
def RowsIn (w : World) (base H : Nat) (vs : List Value) (Ls : List (List Int)) : Prop := ∀ (j : Nat) (v : Value), vs[j]? = some v → ∃ l, Ls[j]? = some l ∧ Own w base 3 v l ∧ ∀ g, v.ownBlock = some g → g < H
theorem RowsOwn.in_ {w : World} {base : Nat} {vs : List Value} {Ls : List (List Int)} (h : RowsOwn w base vs Ls) : RowsIn w base w.heap.size vs Ls := fun j v hj => by
  obtain ⟨l, h1, h2⟩ := h j v hj
  exact ⟨l, h1, h2, fun g hg => (World.ownsRow.lt h2 g hg).2⟩
theorem RowsIn.grown {w w' : World} {base H : Nat} {vs : List Value} {Ls : List (List Int)} (h : RowsIn w base H vs Ls) {row : Option Nat} (hg : w.grownBy w' row) (hr : ∀ g, row = some g → H ≤ g) : RowsIn w' base H vs Ls := fun j v hj => by
  obtain ⟨l, h1, h2, h3⟩ := h j v hj
  exact ⟨l, h1, Own.kept h2 hg (fun g hv e => by have := h3 g hv; have := hr g e; omega), h3⟩
structure FB3 (w : World) (G2 H : Nat) (k : Int) (pv tv : Value) (n : Nat) (os : List Int) (vs : List Value) (S : List Int) (Ls : List (List Int)) (W : World) : Prop where
  fs : FS w W k pv tv n os
  rows : Blk W G2 22 vs
  sizes : Blk W (G2 + 1) 3 (I64s S)
  own : RowsIn W (G2 + 1 + 1) H vs Ls
  le : H ≤ W.heap.size
theorem FB3.grown {w W W' : World} {G2 H : Nat} {k : Int} {pv tv : Value} {n : Nat} {os : List Int} {vs : List Value} {S : List Int} {Ls : List (List Int)} (h : FB3 w G2 H k pv tv n os vs S Ls W) (h1 : w.heap.size + 1 < G2) (h2 : G2 + 1 < H)
    {ov ov' : Value} {zs zs' : List Int} (ho : Own W H 3 ov zs) (hg : W.grownBy W' ov.ownBlock) (hb : Below H W W') (_ho' : Own W' H 3 ov' zs') : FB3 w G2 H k pv tv n os vs S Ls W' := by
  have hr : ∀ g, ov.ownBlock = some g → H ≤ g := fun g hg => (World.ownsRow.lt ho g hg).1
  exact ⟨h.fs.grown hg (hb.mono (by omega)) (fun g e => by have := hr g e; omega), h.rows.grown hg (fun e => by have := hr _ e.symm; omega), h.sizes.grown hg (fun e => by have := hr _ e.symm; omega), h.own.grown hg hr, Nat.le_trans h.le hb.size⟩
theorem outL_short {os : List Int} {Ls : List (List Int)} (h : ∀ l ∈ Ls, l.length ≤ 1000) : ∀ q, (outL os Ls q).length ≤ 1000 * q
  | 0 => by simp [outL]
  | q + 1 => by
    have := outL_short (os := os) h q
    rw [outL, List.length_append, List.length_map]
    rcases hl : Ls[q]? with _ | l
    · simp; omega
    · have := h l (List.mem_of_getElem? hl)
      simp; omega
theorem get_of_lt' {α : Type} {zs : List α} {k : Nat} (h : k < zs.length) : ∃ x, zs[k]? = some x := ⟨zs[k], List.getElem?_eq_getElem h⟩
theorem map_take_snoc {l : List Int} {e : Nat} {x c : Int} (h : l[e]? = some x) : (l.take (e + 1)).map (· + c) = (l.take e).map (· + c) ++ [x + c] := by
  rw [take_snoc' h, List.map_append]; rfl

set_option maxRecDepth 100000 in
set_option maxHeartbeats 16000000 in
theorem filled_any : ∀ d, d ≤ 200 → FilledAt d := by
  intro d
  induction d with
  | zero => intro _ v t w ok _ h; exact absurd h (GoodT.zero t)
  | succ d ih =>
    intro hd200 v t w ok ht hg
    obtain ⟨k, perm, ts⟩ := t
    have hB := (Below.refl w.heap.size w).alloc (Nat.le_refl _)
    obtain ⟨pv, tv, rfl, hp, hts⟩ := ht.parts
    obtain ⟨a1, n1, c1, rfl, HN1, _⟩ := hp.open
    obtain ⟨a, n, cap, rfl, HN, hn⟩ := hts.open
    by_cases hk : k = 0
    · subst hk
      have hf : filledT (d + 1) (.mk 0 perm ts) = [0] := by rw [filledT, if_pos rfl]
      have HF := Lib.hid hf
      clear hf hts hp ht hg ih hB
      go_enter Try.func83, Try.ntmps83
      go_wp2_with fail
      go_ret
      exact ⟨_, rfl, by rw [HF.out]; have := Own.lit (w.alloc (.cells #[.int .i64 0, .slice a1 n1 c1, .slice a n cap] 41)) w.heap.size 3 [0] (by simp) (by simp); simpa using this, ((Below.refl _ _).alloc (Nat.le_refl _) _).alloc (by simp) _⟩
    · have tk : (k == 0) = false := by simpa using hk
      obtain ⟨h2, h3, h4⟩ := hg.kinds hk
      rw [HN.out] at h2 h3 h4
      have hf : filledT (d + 1) (.mk k perm ts) = outL (ordL k perm n) (ts.map (filledT d)) n := by rw [filledT, if_neg hk, HN.out]
      have hgp := fun t (h : t ∈ ts) => hg.part hk h
      have hob := fun i (h : i < n) => ord_box (perm := perm) h4 h
      have HF := Lib.hid hf
      have HTS := Lib.hid hts
      have HP := Lib.hid hp
      have HG := Lib.hid hgp
      have IH := Lib.hid (ih (by omega))
      have HOB := Lib.hid hob
      have H4 := Lib.hid h4
      clear hf hts hp ht hg ih hB hgp hob hk h4
      go_enter Try.func83, Try.ntmps83
      go_wp2_with (at_make; refine wpList_makeV Try.info3 Try.underlying22 rfl rfl _ _ rfl n rfl rfl (by omega) (by omega) (by omega) (by omega) ?_; intro w1 hk1 hB1 hs1)
      have hbox1 : Blk w1 w.heap.size 41 [.int .i64 k, .slice a1 n1 c1, .slice a n cap] := (Blk.new w 41 [.int .i64 k, .slice a1 n1 c1, .slice a n cap]).keep hB1
      simp only [World.size_alloc] at hk1
      have hFS1 : FS w w1 k (.slice a1 n1 c1) (.slice a n cap) n ((ordL k perm n).take 0) := ⟨((Below.refl _ _).alloc (Nat.le_refl _) _).trans (hB1.mono (by simp)), hbox1, by simpa using hk1⟩
      have HFS1 := Lib.hid hFS1
      clear hk1 hB1 hs1 hbox1 hFS1
      go_loopw [4, 27] (fun _ iv wr => ∃ i : Nat, i ≤ n ∧ iv = .int .i64 i ∧ Hid (FS w wr k (.slice a1 n1 c1) (.slice a n cap) n ((ordL k perm n).take i))) (fun _ iv _ => n - (intOf iv).toNat)
      case atStart => exact ⟨0, by omega, rfl, HFS1⟩
      case round =>
        clear HFS1
        obtain ⟨i, hi, rfl, HFS⟩ := hrel
        by_cases hlt : i < n
        · have hbx := HFS.out.box.cell (j := 0) rfl
          have hby := HFS.out.box.cell (j := 1) rfl
          have hol : ((ordL k perm n).take i).length = i := by rw [List.length_take, ordL_len]; omega
          have hcO : wr.cell? ⟨w.heap.size + 1, i, none⟩ = some (.int .i64 0) := HFS.out.ord.cell (by rw [List.getElem?_append_right (by rw [List.length_map, hol]; exact Nat.le_refl _), List.length_map, hol, Nat.sub_self]; rw [List.getElem?_replicate, if_pos (by omega)])
          have hfO := HFS.out.ord.free i
          have hnx := fun x => HFS.out.set hol hlt x
          have hot := ordL_take (k := k) (perm := perm) hlt
          have HNX := Lib.hid hnx
          have HOT := Lib.hid hot
          clear hol hnx hot
          rcases H4.out with rfl | rfl | ⟨rfl, hpn, hpc⟩
          · have ho : ordF 1 perm n i = (i : Int) := by rw [ordF, if_pos rfl]
            have HO := Lib.hid ho
            clear ho
            go_wp2_with fail
            go_roundw
            case rel => exact ⟨i + 1, by omega, by go_num, by show FS _ _ _ _ _ _ _; rw [HOT.out, HO.out]; exact HNX.out _⟩
            case measure => simp [intOf]; omega
          · have ho : ordF 2 perm n i = (n : Int) - 1 - i := by rw [ordF, if_neg (by decide), if_pos rfl]
            have HO := Lib.hid ho
            clear ho
            go_wp2_with fail
            go_roundw
            case rel => exact ⟨i + 1, by omega, by go_num, by show FS _ _ _ _ _ _ _; rw [HOT.out, HO.out]; exact HNX.out _⟩
            case measure => simp [intOf]; omega
          · obtain rfl : n1 = n := HN1.out.symm.trans hpn
            obtain ⟨bp, op, x, rfl, hx, cx0⟩ := HP.out.at_ hlt
            have hbl := World.block_lt_of_cell? w _ cx0
            have cx := (HFS.out.below.cell (p := ⟨bp, op + i, none⟩) hbl).trans cx0
            have ho : ordF 3 perm n1 i = x := by rw [ordF, if_neg (by decide), if_neg (by decide), vat_of hx.out]
            have HO := Lib.hid ho
            clear ho hpn hpc cx0
            go_wp2_with fail
            go_roundw
            case rel => exact ⟨i + 1, by omega, by go_num, by show FS _ _ _ _ _ _ _; rw [HOT.out, HO.out]; exact HNX.out _⟩
            case measure => simp [intOf]; omega
        · obtain rfl : i = n := by omega
          rw [List.take_of_length_le (by rw [ordL_len]; exact Nat.le_refl _)] at HFS
          generalize hos : ordL k perm i = os at *
          have hol : os.length = i := by rw [← hos, ordL_len]
          have hov : ∀ j, j < i → ∃ o : Nat, os[j]? = some (o : Int) ∧ o < i := fun j hj => by
            have hb := HOB.out j hj
            exact ⟨(ordF k perm i j).toNat, by rw [← hos, ordL_get hj]; congr 1; omega, by omega⟩
          have HOL := Lib.hid hol
          have HOV := Lib.hid hov
          clear hos hol hov H4 HOB
          go_wp2_with (first
            | (at_make; refine wpList_makeV Try.info22 Try.underlying91 rfl rfl _ _ rfl i rfl rfl (by omega) (by omega) (by omega) (by omega) ?_; intro w2 hk2 hB2 hs2)
            | (at_make; refine wpList_makeV Try.info3 Try.underlying22 rfl rfl _ _ rfl i rfl rfl (by omega) (by omega) (by omega) (by omega) ?_; intro w3 hk3 hB3 hs3; have HFS3 := Lib.hid ((HFS.out.keep hB2).keep hB3); have q2 := HFS3.out.box.cell (j := 2) rfl))
          have hG2 : w.heap.size + 1 < wr.heap.size := HFS.out.ord.lt
          have hk2' := hk2.keep hB3
          have hR3 := RowsOwn.nil w3 (w2.heap.size + 1) (ts.map (filledT d))
          have hz0 : I64s (szL os (ts.map (filledT d)) 0) = List.replicate i (Value.int .i64 0) := by simp [szL, HOL.out]
          have HS0 := Lib.hid hz0
          have HK2 := Lib.hid hk2'
          have HK3 := Lib.hid hk3
          have HR3 := Lib.hid hR3
          have hG3 : wr.heap.size < w2.heap.size := by omega
          clear hk2 hk3 hB2 hB3 hk2' hR3 hz0 HFS q2
          generalize hG2e : wr.heap.size = G2 at *
          generalize hG3e : w2.heap.size = G3 at *
          subst hs2
          go_loopw [7, 8, 66] (fun _ _ iv wx => ∃ (j : Nat) (vs : List Value), j ≤ i ∧ iv = .int .i64 j ∧ vs.length = j ∧ Hid (FS w wx k (.slice a1 n1 c1) (.slice a i cap) i os) ∧ Hid (Blk wx G2 22 (vs ++ List.replicate (i - vs.length) (.slice none 0 0))) ∧ Hid (Blk wx (G2 + 1) 3 (I64s (szL os (ts.map (filledT d)) j))) ∧ Hid (RowsOwn wx (G2 + 1 + 1) vs (ts.map (filledT d))) ∧ G2 + 1 < wx.heap.size) (fun _ _ iv _ => i - (intOf iv).toNat)
          case atStart => exact ⟨0, [], by omega, rfl, rfl, HFS3, HK2, by show Blk _ _ _ _; rw [HS0.out]; exact HK3.out, HR3, HK3.out.lt⟩
          case round =>
            clear HK2 HK3 HR3 HFS3
            obtain ⟨j, vs, hj, rfl, hvl, HFX, HKP, HKS, HRX, hGx⟩ := hrel
            by_cases hlt2 : j < i
            · obtain ⟨b, o, t, rfl, hbl, hgt, x, ya, yn, yc, za, zn, zc, d0, d1, d2, htr⟩ := HTS.out.at_ hlt2
              have e0 := (HFX.out.below.cell (p := ⟨b, o + j * 3, none⟩) hbl).trans d0
              have e1 := (HFX.out.below.cell (p := ⟨b, o + j * 3 + 1, none⟩) hbl).trans d1
              have e2 := (HFX.out.below.cell (p := ⟨b, o + j * 3 + 2, none⟩) hbl).trans d2
              have hgd := HG.out t (List.mem_of_getElem? hgt.out)
              have hBa := (Below.refl wr.heap.size wr).alloc (Nat.le_refl _) (.cells #[.int .i64 x, .slice ya yn yc, .slice za zn zc] 41)
              have htr1 : TreeAt (wr.alloc (.cells #[.int .i64 x, .slice ya yn yc, .slice za zn zc] 41)) ok (.agg #[.int .i64 x, .slice ya yn yc, .slice za zn zc]) t := (htr.kept HFX.out.below.size (fun b hk hlt => ⟨hk, HFX.out.below.block b hlt⟩)).keep hBa
              have hca := IH.out _ t _ ok htr1 hgd
              have hbx := filled_box d t hgd
              have hLj : (ts.map (filledT d))[j]? = some (filledT d t) := by rw [List.getElem?_map, hgt.out]; rfl
              generalize filledT d t = l at *
              obtain ⟨m, hm⟩ : ∃ m, l.length = m := ⟨_, rfl⟩
              have hm1000 : m ≤ 1000 := by omega
              obtain ⟨oN, hoj, hol⟩ := HOV.out j hlt2
              have hFa := HFX.out.keep hBa
              have hKPa := HKP.out.keep hBa
              have hKSa := HKS.out.keep hBa
              have hRa := HRX.out.keep hBa
              have hsz4 : szL os (ts.map (filledT d)) (j + 1) = (szL os (ts.map (filledT d)) j).set oN (m : Int) := by
                rw [szL, vat_of hoj, hLj]
                simp [hm]
              have hszl : (szL os (ts.map (filledT d)) j).length = i := by rw [szL_len, HOL.out]
              have HCA := Lib.hid hca
              have HLJ := Lib.hid hLj
              have HM := Lib.hid hm
              have HOJ := Lib.hid hoj
              have HFA := Lib.hid hFa
              have HKPA := Lib.hid hKPa
              have HKSA := Lib.hid hKSa
              have HRA := Lib.hid hRa
              have HSZ4 := Lib.hid hsz4
              have HSZL := Lib.hid hszl
              have HVL := Lib.hid hvl
              have HBA := Lib.hid hBa
              clear d0 d1 d2 htr htr1 hca hbx hLj hm hoj hFa hKPa hKSa hRa hsz4 hszl hgd hvl hBa HFX HKP HKS HRX
              go_upto_region 20 with (go_at_call 83; refine HCA.out.mono ?_; rintro e w4 ⟨u4, rfl, ho4, hb4⟩; obtain ⟨ga, gc, rfl⟩ := ho4.shape HM.out; have HF4 := Lib.hid (HFA.out.keep hb4); have HKP4 := Lib.hid (HKPA.out.keep hb4); have HKS4 := Lib.hid (HKSA.out.keep hb4); have HR4 := Lib.hid (HRA.out.keep hb4); have cP : w4.cell? ⟨G2, j, none⟩ = some (.slice none 0 0) := HKP4.out.cell (by rw [List.getElem?_append_right (by rw [HVL.out]; exact Nat.le_refl _), HVL.out, Nat.sub_self, List.getElem?_replicate, if_pos (by omega)]); have fP := HKP4.out.free j)
              have hF5 := HF4.out.other (a := ⟨G2, j, none⟩) (by simp; omega) (.slice ga m gc)
              have hKP5 := HKP4.out.set j (.slice ga m gc)
              rw [← HVL.out, snoc_set (by rw [HVL.out]; exact hlt2), HVL.out] at hKP5
              have hKS5 := HKS4.out.other (a := ⟨G2, j, none⟩) (by simp) (.slice ga m gc)
              have ho5 : Own w4 (G2 + 1 + 1) 3 (.slice ga m gc) l := ho4.mono (by simp; omega)
              have hR5 := (HR4.out.snoc (by rw [HVL.out]; exact HLJ.out) ho5).other (a := ⟨G2, j, none⟩) (by simp; omega) (.slice ga m gc)
              have hz5 : G2 + 1 < (w4.setCell ⟨G2, j, none⟩ (.slice ga m gc)).heap.size := hKS5.lt
              have cO := hF5.cell HOJ.out
              have cPj : (w4.setCell ⟨G2, j, none⟩ (.slice ga m gc)).cell? ⟨G2, j, none⟩ = some (.slice ga m gc) := hKP5.cell (by rw [List.append_assoc, List.getElem?_append_right (by rw [HVL.out]; exact Nat.le_refl _), HVL.out, Nat.sub_self]; rfl)
              obtain ⟨so, hso⟩ := get_of_lt (zs := szL os (ts.map (filledT d)) j) (k := oN) (by rw [HSZL.out]; exact hol)
              have cS := hKS5.cell (i64s_get hso)
              have fS := hKS5.free oN
              have HF5 := Lib.hid hF5
              have HKP5 := Lib.hid hKP5
              have HKS5 := Lib.hid hKS5
              have HR5 := Lib.hid hR5
              clear hF5 hKP5 hKS5 hR5 ho5 ho4 hb4 HF4 HKP4 HKS4 HR4 cP fP HFA HKPA HKSA HRA HBA HCA hso
              generalize w4.setCell ⟨G2, j, none⟩ (.slice ga m gc) = w5 at *
              go_region
              go_wp2_with fail
              have hb5 := HKS5.out.set oN (.int .i64 (m : Int))
              rw [i64s_set, ← HSZ4.out] at hb5
              refine ⟨⟨j + 1, vs ++ [.slice ga m gc], by omega, by go_num, by simp [HVL.out], (HF5.out.other (a := ⟨G2 + 1, oN, none⟩) (by simp; omega) _).drewN 1, ?_, hb5.drewN 1, ?_, ?_⟩, by simp [intOf]; omega⟩
              · show Blk _ _ _ _
                rw [List.length_append, HVL.out]
                exact (HKP5.out.other (a := ⟨G2 + 1, oN, none⟩) (by simp) _).drewN 1
              · exact HR5.out.other (a := ⟨G2 + 1, oN, none⟩) (by simp) _
              · exact (hb5.drewN 1).lt
            · obtain rfl : j = i := by omega
              have hLs : ∀ l ∈ ts.map (filledT d), l.length ≤ 1000 ∧ ∀ x ∈ l, 0 ≤ x ∧ x ≤ 1000000 * d := by
                intro l hl
                rw [List.mem_map] at hl
                obtain ⟨t, ht, rfl⟩ := hl
                exact filled_box d t (HG.out t ht)
              have hLl : (ts.map (filledT d)).length = j := by rw [List.length_map, HN.out]
              have hKP1 : Blk wr G2 22 vs := by have := HKP.out; rw [hvl, Nat.sub_self] at this; simpa using this
              have hfb : FB3 w G2 wr.heap.size k (.slice a1 n1 c1) (.slice a j cap) j os vs (szL os (ts.map (filledT d)) j) (ts.map (filledT d)) wr := ⟨HFX.out, hKP1, HKS.out, HRX.out.in_, Nat.le_refl _⟩
              have hlw : ∀ q, lowL os (ts.map (filledT d)) q = sumTake (szL os (ts.map (filledT d)) j) (vat os q).toNat := fun q => by rw [lowL, HOL.out]
              have hsb := szL_box (os := os) (fun l hl => (hLs l hl).1) j
              have hszl : (szL os (ts.map (filledT d)) j).length = j := by rw [szL_len, HOL.out]
              have hvs := fun q (hq : q < j) => get_of_lt' (zs := vs) (k := q) (by rw [hvl]; exact hq)
              have hos := outL_short (os := os) (fun l hl => (hLs l hl).1)
              generalize szL os (ts.map (filledT d)) j = S at *
              generalize ts.map (filledT d) = Ls at *
              have HLS := Lib.hid hLs
              have HLL := Lib.hid hLl
              have HFB := Lib.hid hfb
              have HLW := Lib.hid hlw
              have HSB := Lib.hid hsb
              have HSZL := Lib.hid hszl
              have HVS := Lib.hid hvs
              have HOS := Lib.hid hos
              have hH : G2 + 1 < wr.heap.size := hGx
              clear hLs hLl hKP1 hfb hlw hsb hszl hvs hos hvl HFX HKP HKS HRX hGx
              obtain ⟨H, hHe⟩ : ∃ H, wr.heap.size = H := ⟨_, rfl⟩
              rw [hHe] at HFB hH
              have HHE := Lib.hid hHe
              clear hHe
              go_wp2_with fail
              go_loopw [9, 90] (fun ov iv wx => ∃ q : Nat, q ≤ j ∧ iv = .int .i64 q ∧ Own wx H 3 ov (outL os Ls q) ∧ Hid (FB3 w G2 H k (.slice a1 n1 c1) (.slice a j cap) j os vs S Ls wx)) (fun _ iv _ => j - (intOf iv).toNat)
              case atStart => exact ⟨0, by omega, rfl, Own.nil _ _ _, HFB⟩
              case round =>
                clear HFB
                obtain ⟨q, hq, rfl, hown, HFB⟩ := hrel
                by_cases hlt3 : q < j
                · obtain ⟨vq, hvq⟩ := HVS.out q hlt3
                  obtain ⟨l, hl1, hl2, hl3⟩ := HFB.out.own q vq hvq
                  obtain ⟨m, hm⟩ : ∃ m, l.length = m := ⟨_, rfl⟩
                  obtain ⟨ga, gc, rfl⟩ := hl2.shape hm
                  obtain ⟨oN, hoq, hol⟩ := HOV.out q hlt3
                  have cR := HFB.out.rows.cell hvq
                  have cO := HFB.out.fs.cell hoq
                  have hlb := HLS.out l (List.mem_of_getElem? hl1)
                  have hout : outL os Ls (q + 1) = outL os Ls q ++ l.map (· + sumTake S oN) := by rw [outL, hl1, HLW.out, vat_of hoq]; rfl
                  have HM := Lib.hid hm
                  have HLB := Lib.hid hlb
                  have HOUT := Lib.hid hout
                  have HL2 := Lib.hid hl2
                  have HL1 := Lib.hid hl1
                  have HVQ := Lib.hid hvq
                  have hoj2 : oN ≤ j := by omega
                  clear hm hlb hout hl1 hl2 hl3 hvq hoq
                  go_wp2_with fail
                  go_loop [12, 102] (fun sv iv => ∃ e : Nat, e ≤ oN ∧ iv = .int .i64 e ∧ sv = .int .i64 (sumTake S e)) (fun _ iv => oN - (intOf iv).toNat)
                  case atStart => exact ⟨0, by omega, rfl, by simp [sumTake]⟩
                  case round =>
                    obtain ⟨e, he, rfl, rfl⟩ := hrel
                    by_cases hlt4 : e < oN
                    · obtain ⟨x, hx⟩ := get_of_lt (zs := S) (k := e) (by rw [HSZL.out]; omega)
                      have cS := HFB.out.sizes.cell (i64s_get hx)
                      have hxb := HSB.out x (List.mem_of_getElem? hx)
                      have hsb2 := sumTake_box HSB.out e (by rw [HSZL.out]; omega)
                      have hsn := sumTake_succ hx
                      have HSN := Lib.hid hsn
                      clear hx hsn
                      go_wp2_with fail
                      go_round
                      case rel => exact ⟨e + 1, by omega, by go_num, by rw [HSN.out]⟩
                      case measure => simp [intOf]; omega
                    · obtain rfl : e = oN := by omega
                      have hsb2 := sumTake_box HSB.out e (by rw [HSZL.out]; omega)
                      generalize sumTake S e = low at *
                      have hown0 : Own wr H 3 u9 (outL os Ls q ++ (l.take 0).map (· + low)) := by simpa using hown
                      have HOWN0 := Lib.hid hown0
                      clear hown0 hown
                      go_wp2_with fail
                      go_loopw [9, 112] (fun ov iv wx => ∃ f : Nat, f ≤ m ∧ iv = .int .i64 f ∧ Hid (Own wx H 3 ov (outL os Ls q ++ (l.take f).map (· + low))) ∧ Hid (FB3 w G2 H k (.slice a1 n1 c1) (.slice a j cap) j os vs S Ls wx)) (fun _ iv _ => m - (intOf iv).toNat)
                      case atStart => exact ⟨0, by omega, rfl, HOWN0, HFB⟩
                      case round =>
                        clear HFB cR cO HL2
                        obtain ⟨f, hf, rfl, HO5, HFB⟩ := hrel
                        by_cases hlt5 : f < m
                        · obtain ⟨l', hl1, hl2, hl3⟩ := HFB.out.own q _ HVQ.out
                          obtain rfl : l = l' := Option.some.inj (HL1.out.symm.trans hl1)
                          obtain ⟨bl, ol, x, rfl, hx, cx⟩ := hl2.ints.at_ (k := f) hlt5
                          have hxb := HLB.out.2 x (List.mem_of_getElem? hx.out)
                          have hm3 : m ≤ 1000 := by have := HLB.out.1; have := HM.out; omega
                          have HF1 : Hid (f + 1 ≤ m) := hlt5
                          have hd8 : (1000000 : Int) * (d : Int) ≤ 200000000 := by omega
                          have hsn := map_take_snoc (c := low) hx.out
                          have hlen : (outL os Ls q ++ (l.take f).map (· + low)).length < 1000000000000 := by
                            have h1 := HOS.out q
                            have h2 := HLB.out.1
                            rw [List.length_append, List.length_map, List.length_take]
                            omega
                          have HSN := Lib.hid hsn
                          have HLEN := Lib.hid hlen
                          clear hl1 hl2 hl3 hsn hlen
                          obtain ⟨oa, on, oc, rfl⟩ : ∃ oa on oc, u9 = .slice oa on oc := by
                            obtain ⟨x1, x2, x3, x4, _⟩ := HO5.out.ints.open
                            exact ⟨x1, x2, x3, x4⟩
                          go_wp2_with (at_builtin; refine wpList_app1 Try.info3 Try.underlying22 HO5.out HFB.out.le HLEN.out rfl _ _ rfl rfl rfl ?_; intro v6 w6 hown6 hgrow6 hb6 hsh6)
                          go_roundw
                          case rel =>
                            exact ⟨f + 1, HF1.out, by go_num, (by show Own _ _ _ _ _; rw [HSN.out, ← List.append_assoc]; exact hown6), (show Hid (FB3 _ _ _ _ _ _ _ _ _ _ _ _) from HFB.out.grown hG2 hH HO5.out hgrow6 hb6 hown6)⟩
                          case measure => have := HF1.out; simp [intOf]; omega
                        · obtain rfl : f = m := by omega
                          rw [List.take_of_length_le (by rw [HM.out]; exact Nat.le_refl _), ← HOUT.out] at HO5
                          go_wp2_with fail
                          go_roundw
                          case rel => exact ⟨q + 1, by omega, by go_num, HO5.out, HFB⟩
                          case measure => simp [intOf]; omega
                · obtain rfl : q = j := by omega
                  have hB := HFB.out.fs.below
                  have hown2 : Own wr w.heap.size 3 u9 (filledT (d + 1) (.mk k perm ts)) := by rw [HF.out]; exact hown.mono (by omega)
                  have HO := Lib.hid hown2
                  have HBB := Lib.hid hB
                  clear hown hown2 hB HFB
                  go_wp2_with fail
                  go_ret
                  exact ⟨_, rfl, HO.out, HBB.out⟩
end Go.Proofs.Ytgajaccnjjiiaaa
