/- The reference's fill: the walk. -/
import Derived.Test.YtgajaccnjjiiaaaW76
namespace Go.Proofs.Ytgajaccnjjiiaaa
open Go.RowKit

/-- append of one slice value, which the walk has just laid in a new block. -/
theorem wpList_appV {P : Program} {w : World} {ops : Array Oper} {rest : List Oper} {o : Oper} {a : Act} {Q : Exit → Act → World → Prop} {t : TypeId}
    (hinfo : (P.info? 22).map (fun i => (i.zero, i.size, i.bytes)) = some (some (.slice none 0 0), 1, 24)) (ht : P.underlying t = some (.slice 22))
    {base : Nat} {v : Value} {vs : List Value} (hown : OwnV w base v vs) (hb : base ≤ w.heap.size) (hl : vs.length < 1000000000)
    (hgd : o.guard = none) (s x : Operand) (ho : o.op = .call { callee := .builtin .append, args := #[s, x], argTypes := #[t, t] })
    {z : Value} (hz : z.oneCell' = true) (hs : a.eval s = v) (hx : a.eval x = .slice (some ⟨w.heap.size, 0, none⟩) 1 1)
    (hK : ∀ v' w', OwnV w' base v' (vs ++ [z]) → w.grownBy w' v.ownBlock → Below base w w' → wpList P ops Q rest (a.put o.dst v') w') :
    wpList P ops Q (o :: rest) a (w.alloc (.cells #[z] 22)) := by
  obtain ⟨i, h2, h3, h4, h5⟩ := info_parts hinfo
  refine wpList_append_own _ hgd s x t ho base 22 i (.slice none 0 0) 1 24 ht h2 h3 h4 h5 rfl (by decide) v vs.length _ hs (World.ownsRow.alloc hown _) ⟨w.heap.size, 0, none⟩ 1 1 [z] hx rfl (cell_one_new _ _ _) ?_ ?_ ?_ ?_ ?_
  · intro u hu; simp at hu; subst hu; exact hz
  · unfold maxLen; omega
  · omega
  · simp; omega
  · intro v' w1 hown1 hg1 _
    have hlt := World.ownsRow.lt hown
    have hb1 : Below base w w1 := by
      refine ((Below.refl base w).alloc hb _).grown hg1 (by simp; omega) ?_
      intro k hk
      exact (hlt k hk).1
    refine hK v' w1 (by simpa [OwnV] using hown1) ?_ hb1
    refine ⟨hg1.os, hg1.tape, hg1.output, Nat.le_trans (by simp) hg1.size, fun k hk hne => ?_⟩
    rw [hg1.block k (by simp; omega) hne]
    exact Below.heap_alloc w _ k hk

structure FB4 (w : World) (k : Int) (pv tv : Value) (g H : Nat) (vs : List Value) (Ls : List (List Int)) (W : World) : Prop where
  below : Below w.heap.size w W
  box : Blk W w.heap.size 65 [.int .i64 k, pv, tv]
  cells : ∀ (j : Nat) (u : Value), vs[j]? = some u → W.cell? ⟨g, j, none⟩ = some u
  own : RowsIn W (w.heap.size + 1) H vs Ls
  le : H ≤ W.heap.size
theorem FB4.drewN {w W : World} {k : Int} {pv tv : Value} {g H : Nat} {vs : List Value} {Ls : List (List Int)} (h : FB4 w k pv tv g H vs Ls W) (n : Nat) : FB4 w k pv tv g H vs Ls (W.drewN n) :=
  ⟨h.below.drewN' n, h.box, h.cells, h.own, h.le⟩
theorem FB4.grown {w W W' : World} {k : Int} {pv tv : Value} {g H : Nat} {vs : List Value} {Ls : List (List Int)} (h : FB4 w k pv tv g H vs Ls W) (h1 : g < H) (h2 : w.heap.size + 1 < H)
    {ov : Value} {zs : List Int} (ho : Own W H 3 ov zs) (hg : W.grownBy W' ov.ownBlock) (hb : Below H W W') : FB4 w k pv tv g H vs Ls W' := by
  have hr : ∀ g, ov.ownBlock = some g → H ≤ g := fun g hg => (World.ownsRow.lt ho g hg).1
  have hgl := h.le
  refine ⟨h.below.trans (hb.mono (by omega)), h.box.grown hg (fun e => by have := hr _ e.symm; omega), fun j u hj => ?_, h.own.grown hg hr, Nat.le_trans h.le hb.size⟩
  exact (World.cell?_of_block (w := W) (a := ⟨g, j, none⟩) (hg.block g (by omega) (fun e => by have := hr _ e.symm; omega))).trans (h.cells j u hj)

/-- what the reference's fill answers, at a depth -/
def RFillAt (d : Nat) : Prop := ∀ (v : Value) (t : TM) (w : World) (ok : Nat → Prop), TreeAt w ok v t → RGood d t → Calls Try.prog 87 #[v] w fun e w' => ∃ u, e = .returned u ∧ Own w' w.heap.size 3 u (rfillT d t) ∧ Below w.heap.size w w'

set_option maxRecDepth 100000 in
set_option maxHeartbeats 16000000 in
theorem rfill_any : ∀ d, d ≤ 200 → RFillAt d := by
  intro d
  induction d with
  | zero => intro _ v t w ok _ h; exact h.elim
  | succ d ih =>
    intro hd200 v t w ok ht hg
    obtain ⟨k, perm, ts⟩ := t
    obtain ⟨pv, tv, rfl, hp, hts⟩ := ht.parts
    obtain ⟨a1, n1, c1, rfl, HN1, _⟩ := hp.open
    obtain ⟨a, n, cap, rfl, HN, hn⟩ := hts.open
    by_cases h0 : n = 0
    · subst h0
      have hf : rfillT (d + 1) (.mk k perm ts) = [0] := by rw [rfillT, if_pos HN.out]
      have HF := Lib.hid hf
      clear hf hts hp ht hg ih
      go_enter Try.func87, Try.ntmps87
      go_wp2_with fail
      go_ret
      exact ⟨_, rfl, by rw [HF.out]; have := Own.lit (w.alloc (.cells #[.int .i64 k, .slice a1 n1 c1, .slice a 0 cap] 65)) w.heap.size 3 [0] (by simp) (by simp); simpa using this, ((Below.refl _ _).alloc (Nat.le_refl _) _).alloc (by simp) _⟩
    · have tn : ((n : Int) == 0) = false := by simp; omega
      have h3 := hg.count
      rw [HN.out] at h3
      have hf : rfillT (d + 1) (.mk k perm ts) = routL k perm (ts.map (rfillT d)) n := by rw [rfillT, if_neg (by rw [HN.out]; exact h0), HN.out]
      have hgp := hg.2.2
      have hk3 : k = 3 → n1 = n := fun h => by have := hg.1 h; have := HN.out; have := HN1.out; omega
      have HF := Lib.hid hf
      have HTS := Lib.hid hts
      have HP := Lib.hid hp
      have HG := Lib.hid hgp
      have HK3 := Lib.hid hk3
      have IH := Lib.hid (ih (by omega))
      clear hf hts hp ht hg ih hgp hk3
      go_enter Try.func87, Try.ntmps87
      go_wp2_with fail
      go_loopw [3, 4] (fun lv iv wr => ∃ (j : Nat) (vs : List Value), j ≤ n ∧ iv = .int .i64 j ∧ vs.length = j ∧ Blk wr w.heap.size 65 [.int .i64 k, .slice a1 n1 c1, .slice a n cap] ∧ Hid (OwnV wr (w.heap.size + 1) lv vs) ∧ Hid (RowsOwn wr (w.heap.size + 1) vs (ts.map (rfillT d))) ∧ Below w.heap.size w wr) (fun _ iv _ => n - (intOf iv).toNat)
      case atStart => exact ⟨0, [], by omega, rfl, rfl, Blk.new w 65 _, World.ownsRow_nil _ _ _ _, RowsOwn.nil _ _ _, (Below.refl _ _).alloc (Nat.le_refl _) _⟩
      case round =>
        obtain ⟨j, vs, hj, rfl, hvl, hblk, HO, HR, hB⟩ := hrel
        have hsz := hB.size
        have hlb := hblk.lt
        have q2 := hblk.cell (j := 2) rfl
        by_cases hlt : j < n
        · obtain ⟨b, o, t, rfl, hbl, hgt, x, ya, yn, yc, za, zn, zc, d0, d1, d2, htr⟩ := HTS.out.at_ hlt
          have e0 := (hB.cell (p := ⟨b, o + j * 3, none⟩) hbl).trans d0
          have e1 := (hB.cell (p := ⟨b, o + j * 3 + 1, none⟩) hbl).trans d1
          have e2 := (hB.cell (p := ⟨b, o + j * 3 + 2, none⟩) hbl).trans d2
          have hgd := HG.out t (List.mem_of_getElem? hgt.out)
          have htr1 : TreeAt wr ok (.agg #[.int .i64 x, .slice ya yn yc, .slice za zn zc]) t := htr.kept hB.size (fun b hk hlt => ⟨hk, hB.block b hlt⟩)
          have hca := IH.out _ t _ ok htr1 hgd
          have hLj : (ts.map (rfillT d))[vs.length]? = some (rfillT d t) := by rw [hvl, List.getElem?_map, hgt.out]; rfl
          generalize rfillT d t = l at *
          obtain ⟨m, hm⟩ : ∃ m, l.length = m := ⟨_, rfl⟩
          obtain ⟨la, lc, rfl⟩ := HO.out.shape hvl
          have HCA := Lib.hid hca
          have HLJ := Lib.hid hLj
          have HM := Lib.hid hm
          have HVL := Lib.hid hvl
          clear d0 d1 d2 htr htr1 hca hLj hm hgd hvl
          go_wp2_with (first
            | (go_at_call 87; refine HCA.out.mono ?_; rintro e w4 ⟨u4, rfl, ho4, hb4⟩; obtain ⟨ga, gc, rfl⟩ := ho4.shape HM.out; have HO4 : Hid (OwnV w4 (w.heap.size + 1) (.slice la j lc) vs) := World.ownsRow.keep HO.out hb4; have HR4 := Lib.hid ((HR.out.keep hb4).snoc HLJ.out (ho4.mono (by omega))); have hz4 := hb4.size)
            | (at_builtin; refine wpList_appV Try.info22 Try.underlying91 HO4.out (by omega) (by have := HVL.out; omega) rfl (.tmp 23) (.tmp 30) rfl (z := .slice ga m gc) rfl rfl rfl ?_; intro v5 w5 hown5 hgrow5 hb5; have hblk5 := (hblk.keep hb4).grown hgrow5 (fun e => by have := (World.ownsRow.lt HO4.out _ e.symm).1; omega); have HR5 := Lib.hid (HR4.out.grown22 HO4.out hgrow5); have HO5 : Hid (OwnV w5 (w.heap.size + 1) v5 (vs ++ [.slice ga m gc])) := hown5))
          go_roundw
          case rel => exact ⟨j + 1, vs ++ [.slice ga m gc], by omega, by go_num, by simp [HVL.out], hblk5, HO5, HR5, hB.trans ((hb4.mono hsz).trans (hb5.mono (by omega)))⟩
          case measure => simp [intOf]; omega
        · obtain rfl : j = n := by omega
          have hLs : ∀ l ∈ ts.map (rfillT d), l.length ≤ 1000 ∧ ∀ x ∈ l, 0 ≤ x ∧ x ≤ 1000000 * d := by
            intro l hl
            rw [List.mem_map] at hl
            obtain ⟨t, ht, rfl⟩ := hl
            exact rfill_box d t (HG.out t ht)
          have hLl : (ts.map (rfillT d)).length = j := by rw [List.length_map, HN.out]
          obtain ⟨g, gcap, rfl, hg1, hg2, hgc⟩ := HO.out.at_ hvl (by omega)
          have hfb : FB4 w k (.slice a1 n1 c1) (.slice a j cap) g wr.heap.size vs (ts.map (rfillT d)) wr := ⟨hB, hblk, hgc, HR.out.in_, Nat.le_refl _⟩
          have hvs := fun q (hq : q < j) => get_of_lt' (zs := vs) (k := q) (by rw [hvl]; exact hq)
          have hos := routL_short (k := k) (perm := perm) (fun l hl => (hLs l hl).1)
          generalize ts.map (rfillT d) = Ls at *
          have HLS := Lib.hid hLs
          have HLL := Lib.hid hLl
          have HFB := Lib.hid hfb
          have HVS := Lib.hid hvs
          have HOS := Lib.hid hos
          obtain ⟨H, hHe⟩ : ∃ H, wr.heap.size = H := ⟨_, rfl⟩
          rw [hHe] at HFB hg2 hlb
          have hgw : w.heap.size + 1 < H := by omega
          have HHE := Lib.hid hHe
          clear hLs hLl hfb hvs hos hHe hvl HO HR hblk hB hgc hsz
          go_wp2_with fail
          clear q2
          go_loopw [5, 6] (fun ov iv wx => ∃ q : Nat, q ≤ j ∧ iv = .int .i64 q ∧ Own wx H 3 ov (routL k perm Ls q) ∧ Hid (FB4 w k (.slice a1 n1 c1) (.slice a j cap) g H vs Ls wx)) (fun _ iv _ => j - (intOf iv).toNat)
          case atStart => exact ⟨0, by omega, rfl, Own.nil _ _ _, HFB⟩
          case round =>
            clear HFB
            obtain ⟨q, hq, rfl, hown, HFB⟩ := hrel
            by_cases hlt3 : q < j
            · obtain ⟨vq, hvq⟩ := HVS.out q hlt3
              obtain ⟨l, hl1, hl2, _⟩ := HFB.out.own q vq hvq
              obtain ⟨m, hm⟩ : ∃ m, l.length = m := ⟨_, rfl⟩
              obtain ⟨ga, gc, rfl⟩ := hl2.shape hm
              have hlb2 := HLS.out l (List.mem_of_getElem? hl1)
              have hout : routL k perm Ls (q + 1) = routL k perm Ls q ++ l.map (rlowTo k perm Ls q j + ·) := by rw [routL, hl1, HLL.out]; rfl
              have HM := Lib.hid hm
              have HLB := Lib.hid hlb2
              have HOUT := Lib.hid hout
              have HL1 := Lib.hid hl1
              have HVQ := Lib.hid hvq
              have HOWN := Lib.hid hown
              obtain ⟨oa, on, oc, rfl⟩ : ∃ oa on oc, u5 = .slice oa on oc := by
                obtain ⟨x1, x2, x3, x4, _⟩ := hown.ints.open
                exact ⟨x1, x2, x3, x4⟩
              clear hm hlb2 hout hl1 hl2 hvq hown
              go_wp2_with fail
              go_loopw [7, 8] (fun sv iv wx => ∃ jj nd : Nat, jj ≤ j ∧ iv = .int .i64 jj ∧ wx = wr.drewN nd ∧ sv = .int .i64 (rlowTo k perm Ls q jj)) (fun _ iv _ => j - (intOf iv).toNat)
              case atStart => exact ⟨0, 0, by omega, rfl, rfl, rfl⟩
              case round =>
                obtain ⟨jj, nd, hjj, rfl, rfl, rfl⟩ := hrel
                have HFD := Lib.hid (HFB.out.drewN nd)
                have hlo := rlowTo_box (k := k) (perm := perm) (i := q) (fun l hl => (HLS.out l hl).1) jj
                by_cases hlt4 : jj < j
                · obtain ⟨vj, hvj⟩ := HVS.out jj hlt4
                  obtain ⟨lj, hlj1, hlj2, _⟩ := HFD.out.own jj vj hvj
                  obtain ⟨mj, hmj⟩ : ∃ m, lj.length = m := ⟨_, rfl⟩
                  obtain ⟨gja, gjc, rfl⟩ := hlj2.shape hmj
                  have hmj3 : mj ≤ 1000 := by have := (HLS.out lj (List.mem_of_getElem? hlj1)).1; omega
                  have cR := HFD.out.cells jj _ hvj
                  have q0 := HFD.out.box.cell (j := 0) rfl
                  have q1 := HFD.out.box.cell (j := 1) rfl
                  have hst : rlowTo k perm Ls q (jj + 1) = rlowTo k perm Ls q jj + if belB k perm q jj then (mj : Int) else 0 := by rw [rlowTo, hlj1]; simp [hmj]
                  clear hlj1 hlj2 hmj hvj
                  by_cases h2 : k = 2
                  · have t2 : (k == 2) = true := by simp [h2]
                    by_cases hc : q < jj
                    · have hci : (q : Int) < jj := by omega
                      have hb : belB k perm q jj = true := by rw [belB, if_pos h2]; simpa using hc
                      rw [hb, if_pos rfl] at hst
                      have HST := Lib.hid hst
                      clear hst hb h2 hc
                      generalize rlowTo k perm Ls q jj = lo at *
                      go_wp2_with fail
                      go_roundw
                      case rel => exact ⟨jj + 1, nd, by omega, by go_num, rfl, by rw [HST.out]⟩
                      case measure => simp [intOf]; omega
                    · have hci : ¬ (q : Int) < jj := by omega
                      have hb : belB k perm q jj = false := by rw [belB, if_pos h2]; simpa using hc
                      rw [hb, if_neg (by decide), Int.add_zero] at hst
                      have HST := Lib.hid hst
                      clear hst hb h2 hc
                      generalize rlowTo k perm Ls q jj = lo at *
                      go_wp2_with fail
                      go_roundw
                      case rel => exact ⟨jj + 1, nd, by omega, by go_num, rfl, by rw [HST.out]⟩
                      case measure => simp [intOf]; omega
                  · have t2 : (k == 2) = false := by simpa using h2
                    by_cases hk3 : k = 3
                    · have t3 : (k == 3) = true := by simp [hk3]
                      obtain rfl : n1 = j := HK3.out hk3
                      obtain ⟨bp, op, xq, rfl, hxq, cq0⟩ := HP.out.at_ hlt3
                      obtain ⟨xj, hxj, cj0⟩ := HP.out.cell_ (k := jj) hlt4
                      have hbl := World.block_lt_of_cell? w _ cq0
                      have cq := (HFD.out.below.cell (p := ⟨bp, op + q, none⟩) hbl).trans cq0
                      have cj := (HFD.out.below.cell (p := ⟨bp, op + jj, none⟩) hbl).trans cj0
                      clear cq0 cj0
                      have q1w : wr.cell? ⟨w.heap.size, 1, none⟩ = _ := q1
                      have cqw : wr.cell? ⟨bp, op + q, none⟩ = _ := cq
                      have cjw : wr.cell? ⟨bp, op + jj, none⟩ = _ := cj
                      have hjji : (jj : Int) < n1 := by omega
                      have hqji : (q : Int) < n1 := by omega
                      by_cases hc : xj < xq
                      · have hb : belB k perm q jj = true := by rw [belB, if_neg h2, if_pos hk3, vat_of hxq.out, vat_of hxj.out]; simpa using hc
                        rw [hb, if_pos rfl] at hst
                        have HST := Lib.hid hst
                        have HCR := Lib.hid cR
                        clear hst hb h2 hk3
                        generalize rlowTo k perm Ls q jj = lo at *
                        go_wp2_with fail
                        go_quiet (fail)
                        have cR2 : ((wr.drewN nd).drewN nq).cell? ⟨g, jj, none⟩ = _ := HCR.out
                        rw [World.drewN_drewN] at cR2
                        clear cR
                        go_wp2_with fail
                        go_roundw
                        case rel => exact ⟨jj + 1, nd + nq, by omega, by go_num, rfl, by rw [HST.out]⟩
                        case measure => simp [intOf]; omega
                      · have hb : belB k perm q jj = false := by rw [belB, if_neg h2, if_pos hk3, vat_of hxq.out, vat_of hxj.out]; simpa using hc
                        rw [hb, if_neg (by decide), Int.add_zero] at hst
                        have HST := Lib.hid hst
                        clear hst hb h2 hk3
                        generalize rlowTo k perm Ls q jj = lo at *
                        go_wp2_with fail
                        go_quiet (fail)
                        go_wp2_with fail
                        go_roundw
                        case rel => exact ⟨jj + 1, nd + nq, by omega, by go_num, rfl, by rw [HST.out]⟩
                        case measure => simp [intOf]; omega
                    · have t3 : (k == 3) = false := by simpa using hk3
                      by_cases hc : jj < q
                      · have hci : (jj : Int) < q := by omega
                        have hb : belB k perm q jj = true := by rw [belB, if_neg h2, if_neg hk3]; simpa using hc
                        rw [hb, if_pos rfl] at hst
                        have HST := Lib.hid hst
                        clear hst hb h2 hk3 hc
                        generalize rlowTo k perm Ls q jj = lo at *
                        go_wp2_with fail
                        go_roundw
                        case rel => exact ⟨jj + 1, nd, by omega, by go_num, rfl, by rw [HST.out]⟩
                        case measure => simp [intOf]; omega
                      · have hci : ¬ (jj : Int) < q := by omega
                        have hb : belB k perm q jj = false := by rw [belB, if_neg h2, if_neg hk3]; simpa using hc
                        rw [hb, if_neg (by decide), Int.add_zero] at hst
                        have HST := Lib.hid hst
                        clear hst hb h2 hk3 hc
                        generalize rlowTo k perm Ls q jj = lo at *
                        go_wp2_with fail
                        go_roundw
                        case rel => exact ⟨jj + 1, nd, by omega, by go_num, rfl, by rw [HST.out]⟩
                        case measure => simp [intOf]; omega
                · obtain rfl : jj = j := by omega
                  generalize rlowTo k perm Ls q jj = low at *
                  have hown0 : Own (wr.drewN nd) H 3 (.slice oa on oc) (routL k perm Ls q ++ (l.take 0).map (low + ·)) := by rw [List.take_zero, List.map_nil, List.append_nil]; exact HOWN.out
                  have HOWN0 := Lib.hid hown0
                  have HFD0 := HFD
                  have cR0 := HFD.out.cells q _ HVQ.out
                  clear hown0 HOWN HFB
                  go_wp2_with fail
                  go_loopw [5, 10] (fun ov iv wx => ∃ f : Nat, f ≤ m ∧ iv = .int .i64 f ∧ Hid (Own wx H 3 ov (routL k perm Ls q ++ (l.take f).map (low + ·))) ∧ Hid (FB4 w k (.slice a1 n1 c1) (.slice a jj cap) g H vs Ls wx)) (fun _ iv _ => m - (intOf iv).toNat)
                  case atStart => exact ⟨0, by omega, rfl, HOWN0, HFD0⟩
                  case round =>
                    clear HFD HFD0 HOWN0 cR0
                    obtain ⟨f, hf, rfl, HO5, HFB⟩ := hrel
                    have cR := HFB.out.cells q _ HVQ.out
                    by_cases hlt5 : f < m
                    · obtain ⟨l', hl1, hl2, hl3⟩ := HFB.out.own q _ HVQ.out
                      obtain rfl : l = l' := Option.some.inj (HL1.out.symm.trans hl1)
                      obtain ⟨bl, ol, x, rfl, hx, cx⟩ := hl2.ints.at_ (k := f) hlt5
                      have hxb := HLB.out.2 x (List.mem_of_getElem? hx.out)
                      have hm3 : m ≤ 1000 := by have := HLB.out.1; have := HM.out; omega
                      have HF1 : Hid (f + 1 ≤ m) := hlt5
                      have hd8 : (1000000 : Int) * (d : Int) ≤ 200000000 := by omega
                      have hsn := map_take_snoc2 (c := low) hx.out
                      have hlen : (routL k perm Ls q ++ (l.take f).map (low + ·)).length < 1000000000000 := by
                        have h1 := HOS.out q
                        have h2 := HLB.out.1
                        rw [List.length_append, List.length_map, List.length_take]
                        omega
                      have HSN := Lib.hid hsn
                      have HLEN := Lib.hid hlen
                      clear hl1 hl2 hl3 hsn hlen
                      obtain ⟨pa, pn, pc, rfl⟩ : ∃ oa on oc, u5 = .slice oa on oc := by
                        obtain ⟨x1, x2, x3, x4, _⟩ := HO5.out.ints.open
                        exact ⟨x1, x2, x3, x4⟩
                      go_wp2_with (at_builtin; refine wpList_app1 Try.info3 Try.underlying22 HO5.out HFB.out.le HLEN.out rfl _ _ rfl rfl rfl ?_; intro v6 w6 hown6 hgrow6 hb6 hsh6)
                      go_roundw
                      case rel => exact ⟨f + 1, HF1.out, by go_num, (by show Own _ _ _ _ _; rw [HSN.out, ← List.append_assoc]; exact hown6), (show Hid (FB4 _ _ _ _ _ _ _ _ _) from HFB.out.grown hg2 hgw HO5.out hgrow6 hb6)⟩
                      case measure => have := HF1.out; simp [intOf]; omega
                    · obtain rfl : f = m := by omega
                      rw [List.take_of_length_le (by rw [HM.out]; exact Nat.le_refl _), ← HOUT.out] at HO5
                      go_wp2_with fail
                      go_roundw
                      case rel => exact ⟨q + 1, by omega, by go_num, HO5.out, HFB⟩
                      case measure => simp [intOf]; omega
            · obtain rfl : q = j := by omega
              have hown2 : Own wr w.heap.size 3 u5 (rfillT (d + 1) (.mk k perm ts)) := by rw [HF.out]; exact hown.mono (by omega)
              have HO := Lib.hid hown2
              have HBB := Lib.hid HFB.out.below
              clear hown hown2 HFB
              go_wp2_with fail
              go_ret
              exact ⟨_, rfl, HO.out, HBB.out⟩
end Go.Proofs.Ytgajaccnjjiiaaa
