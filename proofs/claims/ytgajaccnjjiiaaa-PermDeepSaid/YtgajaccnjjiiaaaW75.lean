/- The reference's Canonical: the walk. -/
import Derived.Test.YtgajaccnjjiiaaaW74
import Derived.Deep.RegionLaw
import Derived.Test.YtgajaccnjjiiaaaFence
namespace Go.Proofs.Ytgajaccnjjiiaaa
open Go.RowKit Go.BigFrame

/-- calm, or a field's address -/
def calmF : Op → Bool
  | .fieldAddr .. => true
  | op => calmOp op
theorem calmF_run {o : Oper} (h : calmF o.op = true) {P : Program} {ρ : Operand → Value} {w w' : World} {d : Next} (hr : (execOp ρ o).run P w = .ok d w') : (∃ x, d = .value x) ∨ d = .skip := by
  by_cases hc : calmOp o.op = true
  · exact calm_run hc hr
  · unfold calmF at h
    split at h
    · rename_i s x f ho
      unfold execOp at hr
      simp only [ho] at hr
      exact .inl (v_run hr)
    · exact absurd h hc
theorem still_of_quietF {P : Program} {ops : Array Oper} {w : World} {Q : Act → Prop} : ∀ (l : List Oper) (a : Act), (∀ o ∈ l, calmF o.op = true) →
    wpQuiet P ops (fun w' => ∃ n, w' = w.drewN n) Q l a → wpStill P ops w.drew Q l a := by
  intro l
  induction l with
  | nil => intro a _ h; exact h
  | cons o l ih =>
    intro a hc h
    have hl : ∀ o ∈ l, calmF o.op = true := fun o ho => hc o (List.mem_cons_of_mem _ ho)
    unfold wpQuiet at h
    unfold wpStill
    split
    · rename_i hw
      rw [if_pos hw] at h
      obtain ⟨v, h1, h2⟩ := h
      have h3 := h1 w.drew ⟨1, rfl⟩
      unfold Oper.quietAt at h3
      unfold Oper.still
      cases hr : (execOp a.eval o).run P w.drew with
      | ok d w' =>
        rw [hr] at h3
        rcases calmF_run (hc o (by simp)) hr with ⟨x, rfl⟩ | rfl
        · obtain ⟨h4, h5⟩ := h3
          subst h4
          subst h5
          exact ⟨rfl, ih _ hl h2⟩
        · obtain ⟨h4, h5⟩ := h3
          subst h4
          subst h5
          exact ⟨rfl, ih _ hl h2⟩
      | halt b c => rw [hr] at h3; cases b <;> exact h3.elim
    · rename_i hw
      rw [if_neg hw] at h
      exact ih _ hl h
/-- wp_tailQ, with fields' addresses in the head. -/
theorem wp_tailF {P : Program} {id : Nat} {Q : Exit → Act → World → Prop} {a : Act} {w : World} {l : List Oper} (n : Nat) (hm : P.follows .mixedOrders = true) (hB : Region.lexTailB .any l.toArray n = true)
    (hc : (l.take n).all (fun o => calmF o.op) = true) (h : wpQuiet P l.toArray (fun w' => ∃ n, w' = w.drewN n) (fun a' => wpList P l.toArray Q (l.drop n) a' w.drew) (l.take n) a) : (Code.region id l.toArray true).wp P Q a w :=
  wp_region_still_tail n hm hB (still_of_quietF _ _ (fun o ho => (List.all_eq_true.1 hc) o ho) h)

def kindT : TM → Int
  | .mk k _ _ => k
def partOk (k : Int) (f : TM → Bool) (t : TM) : Bool := !(!(k == 3) && (kindT t == k)) && f t
def headOk (k : Int) (perm : List Int) (n : Nat) : Bool :=
  if k = 1 ∨ k = 2 then perm.length == 0 && decide (2 ≤ n) else k == 3 && decide (4 ≤ n) && perm.length == n && checkM perm == 0 && simB perm
def canT : Nat → TM → Bool
  | 0, _ => false
  | d + 1, .mk k perm ps => if k = 0 then perm.length == 0 && ps.length == 0 else headOk k perm ps.length && ps.all (partOk k (canT d))
theorem TreeAt.kind {w : World} {ok : Nat → Prop} {x : Int} {y z : Value} {t : TM} (h : TreeAt w ok (.agg #[.int .i64 x, y, z]) t) : x = kindT t := by
  cases h with
  | mk k pv perm a n cap parts f hp => rfl
theorem all_at {f : TM → Bool} {ts : List TM} {j : Nat} {t : TM} (h : ts[j]? = some t) : (ts.drop j).all f = (f t && (ts.drop (j + 1)).all f) := by
  obtain ⟨hj, rfl⟩ := List.getElem?_eq_some_iff.1 h
  rw [List.drop_eq_getElem_cons hj, List.all_cons]
/-- what Canonical answers, at a depth -/
def CanAt (d : Nat) : Prop := ∀ (v : Value) (t : TM) (w : World) (ok : Nat → Prop), TreeAt w ok v t → DeepAt d t → Calls Try.prog 86 #[v] w fun e w' => e = .returned (.bool (canT d t)) ∧ Below w.heap.size w w'

set_option maxRecDepth 100000 in
set_option maxHeartbeats 16000000 in
theorem canonical_any : ∀ d, CanAt d := by
  intro d
  induction d with
  | zero => intro v t w ok _ h; exact h.elim
  | succ d ih =>
    intro v t w ok ht hdp
    obtain ⟨k, perm, ts⟩ := t
    obtain ⟨pv, tv, rfl, hp, hts⟩ := ht.parts
    have hB := fun o => (Below.refl w.heap.size w).alloc (Nat.le_refl _) o
    have hp1 := fun o => hp.below (hB o) (Nat.le_refl _)
    have hck := fun o => rCheck_any _ perm _ (hp1 o)
    have hda : ∀ t ∈ ts, DeepAt d t := by rw [DeepAt] at hdp; exact hdp
    have hsi := fun (hc : checkM perm = 0) W (h : Ints W pv perm) => isSimple_any pv perm W h (by have := (check_zero hc).2.1; omega) (fun x hx => by have h1 := (check_zero hc).2.1; have h2 := (check_zero hc).2.2.1 x hx; omega)
    obtain ⟨a1, n1, c1, rfl, HN1, _⟩ := hp.open
    obtain ⟨a, n, cap, rfl, HN, hn⟩ := hts.open
    have hf : canT (d + 1) (.mk k perm ts) = if k = 0 then n1 == 0 && n == 0 else headOk k perm n && ts.all (partOk k (canT d)) := by rw [canT, HN.out, HN1.out]
    have HCK := Lib.hid hck
    have HTS := Lib.hid hts
    have HP1 := Lib.hid hp1
    have HDA := Lib.hid hda
    have IH := Lib.hid ih
    clear hp hts hp1 hck hda ih ht hdp hB
    generalize canT (d + 1) (.mk k perm ts) = F at *
    have fin : ∀ b : Bool, F = b → Ending.returned (.bool b) = Ending.returned (.bool F) := fun b h => by rw [h]
    by_cases h0 : k = 0
    · subst h0
      rw [if_pos rfl] at hf
      by_cases h1 : n1 = 0
      · subst h1
        by_cases h2 : n = 0
        · subst h2
          have HF := Lib.hid (fin true (by rw [hf]; rfl)).symm
          clear fin hf HCK hsi
          go_enter Try.func86, Try.ntmps86
          go_wp2_with fail
          go_ret
          exact ⟨HF.out.symm, (Below.refl _ _).alloc (Nat.le_refl _) _⟩
        · have t2 : ((n : Int) == 0) = false := by simp; omega
          have HF := Lib.hid (fin false (by rw [hf]; simp [h2])).symm
          clear fin hf HCK hsi h2
          go_enter Try.func86, Try.ntmps86
          go_wp2_with fail
          go_ret
          exact ⟨HF.out.symm, (Below.refl _ _).alloc (Nat.le_refl _) _⟩
      · have t1 : ((n1 : Int) == 0) = false := by simp; omega
        have HF := Lib.hid (fin false (by rw [hf]; simp [h1])).symm
        clear fin hf HCK hsi h1
        go_enter Try.func86, Try.ntmps86
        go_wp2_with fail
        go_ret
        exact ⟨HF.out.symm, (Below.refl _ _).alloc (Nat.le_refl _) _⟩
    · have t0 : (k == 0) = false := by simpa using h0
      rw [if_neg h0] at hf
      cases hh : headOk k perm n
      · rw [hh, Bool.false_and] at hf
        have HF := Lib.hid (fin false hf).symm
        clear fin hf
        unfold headOk at hh
        by_cases h12 : k = 1 ∨ k = 2
        · rw [if_pos h12] at hh
          by_cases h1 : n1 = 0
          · have h2 : n < 2 := by
              rw [HN1.out, h1] at hh
              simpa using hh
            have h2i : (n : Int) < 2 := by omega
            have t1 : ((n1 : Int) != 0) = false := by simp [h1]
            clear hh h1 h2 HCK hsi
            rcases h12 with rfl | rfl
            all_goals
              clear h0
              go_enter Try.func86, Try.ntmps86
              go_wp2_with fail
              go_ret
              exact ⟨HF.out.symm, (Below.refl _ _).alloc (Nat.le_refl _) _⟩
          · have t1 : ((n1 : Int) != 0) = true := by simp; omega
            clear hh h1 HCK hsi
            rcases h12 with rfl | rfl
            all_goals
              clear h0
              go_enter Try.func86, Try.ntmps86
              go_wp2_with fail
              go_ret
              exact ⟨HF.out.symm, (Below.refl _ _).alloc (Nat.le_refl _) _⟩
        · rw [if_neg h12] at hh
          have t1 : (k == 1) = false := by simp; omega
          have t2 : (k == 2) = false := by simp; omega
          by_cases h3 : k = 3
          · subst h3
            clear h0 h12
            by_cases h4 : n < 4
            · have h4i : (n : Int) < 4 := by omega
              clear hh h4 HCK hsi
              go_enter Try.func86, Try.ntmps86
              go_wp2_with fail
              go_ret
              exact ⟨HF.out.symm, (Below.refl _ _).alloc (Nat.le_refl _) _⟩
            · have h4i : ¬ (n : Int) < 4 := by omega
              by_cases h5 : n1 = n
              · have t5 : ((n1 : Int) != n) = false := by simp; omega
                rcases checkM_or perm with hc | hc
                · have hs : simB perm = false := by
                    rw [HN1.out, hc, h5] at hh
                    simpa [show 4 ≤ n by omega] using hh
                  have hsi2 := hsi hc
                  rw [hs] at hsi2
                  have HC := Lib.hid hc
                  have HSI := Lib.hid hsi2
                  clear hh h4 h5 hc hs hsi hsi2
                  go_enter Try.func86, Try.ntmps86
                  go_wp2_with (first
                    | (go_at_call 62; refine (HCK.out _).mono ?_; rw [HC.out]; rintro e w2 ⟨rfl, hb2⟩; have k2 := (Blk.new w 65 [.int .i64 3, .slice a1 n1 c1, .slice a n cap]).keep hb2; have q0 := k2.cell (j := 0) rfl; have q1 := k2.cell (j := 1) rfl; have q2 := k2.cell (j := 2) rfl)
                    | (go_at_call 109; refine (HSI.out _ ((HP1.out _).below hb2 (Nat.le_refl _))).mono ?_; rintro e w3 ⟨rfl, hb3⟩))
                  go_ret
                  exact ⟨HF.out.symm, ((Below.refl _ _).alloc (Nat.le_refl _) _).trans ((hb2.mono (by simp)).trans (hb3.mono (by have := hb2.size; simp at this; omega)))⟩
                · have HC := Lib.hid hc
                  clear hh h4 h5 hc hsi
                  go_enter Try.func86, Try.ntmps86
                  go_wp2_with (go_at_call 62; refine (HCK.out _).mono ?_; rw [HC.out]; rintro e w2 ⟨rfl, hb2⟩)
                  go_ret
                  exact ⟨HF.out.symm, ((Below.refl _ _).alloc (Nat.le_refl _) _).trans (hb2.mono (by simp))⟩
              · have t5 : ((n1 : Int) != n) = true := by simp; omega
                clear hh h4 h5 HCK hsi
                go_enter Try.func86, Try.ntmps86
                go_wp2_with fail
                go_ret
                exact ⟨HF.out.symm, (Below.refl _ _).alloc (Nat.le_refl _) _⟩
          · have t3 : (k == 3) = false := by simpa using h3
            clear hh h0 h12 h3 HCK hsi
            go_enter Try.func86, Try.ntmps86
            go_wp2_with fail
            go_ret
            exact ⟨HF.out.symm, (Below.refl _ _).alloc (Nat.le_refl _) _⟩
      · rw [hh, Bool.true_and] at hf
        have HF := Lib.hid hf
        clear fin hf
        obtain ⟨kc, hkc⟩ : ∃ kc : Bool, kc = !(k == 3) := ⟨_, rfl⟩
        unfold headOk at hh
        have hcase : (k = 1 ∨ k = 2) ∧ n1 = 0 ∧ 2 ≤ n ∨ k = 3 ∧ 4 ≤ n ∧ n1 = n ∧ checkM perm = 0 ∧ simB perm = true := by
          by_cases h12 : k = 1 ∨ k = 2
          · rw [if_pos h12, HN1.out] at hh
            simp at hh
            exact .inl ⟨h12, hh.1, hh.2⟩
          · rw [if_neg h12, HN1.out] at hh
            simp at hh
            exact .inr ⟨hh.1.1.1.1, hh.1.1.1.2, hh.1.1.2, hh.1.2, hh.2⟩
        clear hh hkc
        rcases hcase with ⟨h12, h1, h2⟩ | ⟨rfl, h4, h5, hc, hs⟩
        · have t1 : ((n1 : Int) != 0) = false := by simp [h1]
          have h2i : ¬ (n : Int) < 2 := by omega
          have h3i : (k != 3) = true := by simp; omega
          have tk : ∀ x : Int, (x == k) = decide (x = k) := fun x => by rw [Bool.eq_iff_iff]; simp
          have hpo : ∀ t, partOk k (canT d) t = (!(kindT t == k) && canT d t) := fun t => by
            unfold partOk
            rw [show (k == 3) = false by simp; omega]; rfl
          have HPO := Lib.hid hpo
          clear h1 HCK hsi hpo tk
          rcases h12 with h12 | h12
          case' inl => have tk1 : (k == 1) = true := by simp [h12]
          case' inr =>
            have tk1 : (k == 1) = false := by simp [h12]
            have tk2 : (k == 2) = true := by simp [h12]
          all_goals
            clear h0 h12
            go_enter Try.func86, Try.ntmps86
            go_wp2_with fail
            go_loopw [3] (fun iv wr => ∃ j : Nat, j ≤ n ∧ iv = .int .i64 j ∧ Blk wr w.heap.size 65 [.int .i64 k, .slice a1 n1 c1, .slice a n cap] ∧ Below w.heap.size w wr ∧ Hid (F = (ts.drop j).all (partOk k (canT d)))) (fun iv _ => n - (intOf iv).toNat)
            case atStart => exact ⟨0, by omega, rfl, Blk.new w 65 _, (Below.refl _ _).alloc (Nat.le_refl _) _, HF⟩
            case round =>
              obtain ⟨j, hj, rfl, hblk, hB, HA⟩ := hrel
              have hsz := hB.size
              have q0 := hblk.cell (j := 0) rfl
              have q2 := hblk.cell (j := 2) rfl
              by_cases hlt : j < n
              · obtain ⟨b, o, t, rfl, hbl, hgt, x, ya, yn, yc, za, zn, zc, d0, d1, d2, htr⟩ := HTS.out.at_ hlt
                have e0 := (hB.cell (p := ⟨b, o + j * 3, none⟩) hbl).trans d0
                have e1 := (hB.cell (p := ⟨b, o + j * 3 + 1, none⟩) hbl).trans d1
                have e2 := (hB.cell (p := ⟨b, o + j * 3 + 2, none⟩) hbl).trans d2
                have hki := htr.kind
                have hst := all_at (f := partOk k (canT d)) hgt.out
                have htr1 : TreeAt wr.drew ok (.agg #[.int .i64 x, .slice ya yn yc, .slice za zn zc]) t := (htr.kept hB.size (fun b hk hlt => ⟨hk, hB.block b hlt⟩)).keep ((Below.refl wr.heap.size wr).drewN' 1)
                have hca := IH.out _ t _ ok htr1 (HDA.out t (List.mem_of_getElem? hgt.out))
                rw [HPO.out, ← hki] at hst
                generalize canT d t = s at *
                have HCA := Lib.hid hca
                clear d0 d1 d2 htr htr1 hca hki
                cases hxk : (x == k)
                · rw [hxk, Bool.not_false, Bool.true_and] at hst
                  have HST := Lib.hid hst
                  clear hst
                  cases s
                  all_goals
                    go_upto_region 15 with fail
                    refine wp_tailF 20 (by kernel_rfl) (by kernel_rfl) (by rfl) ?_
                    simp only [List.take_succ_cons, List.take_zero, List.drop_succ_cons, List.drop_zero]
                    repeat (go_big_quiet_step (fail))
                    refine wpQuiet_nil ?_
                    go_wp2_with (go_at_call 86; refine HCA.out.mono ?_; rintro e w3 ⟨rfl, hb3⟩; have hb3' : Below wr.heap.size wr w3 := ((Below.refl _ wr).drewN' 1).trans (by exact hb3); have k3 := hblk.keep hb3')
                  · all_goals
                      go_ret
                      exact ⟨by rw [HA.out, HST.out]; rfl, hB.trans (hb3'.mono hsz)⟩
                  · all_goals
                      go_roundw
                      case rel => exact ⟨j + 1, by omega, by go_num, k3, hB.trans (hb3'.mono hsz), by show _ = _; rw [HA.out, HST.out]; rfl⟩
                      case measure => simp [intOf]; omega
                · rw [hxk, Bool.not_true, Bool.false_and, Bool.false_and] at hst
                  have HST := Lib.hid hst
                  clear hst
                  go_upto_region 15 with fail
                  go_quiet (fail)
                  go_wp2_with fail
                  go_ret
                  exact ⟨by rw [HA.out, HST.out]; rfl, hB.drewN' _⟩
              · obtain rfl : j = n := by omega
                rw [List.drop_of_length_le (by rw [HN.out]; exact Nat.le_refl _)] at HA
                go_wp2_with fail
                go_ret
                exact ⟨by rw [HA.out]; rfl, hB⟩
        · have t5 : ((n1 : Int) != n) = false := by simp; omega
          have h4i : ¬ (n : Int) < 4 := by omega
          have hsi2 := hsi hc
          rw [hs] at hsi2
          have hpo : ∀ t, partOk 3 (canT d) t = canT d t := fun t => by
            unfold partOk
            simp
          have HPO := Lib.hid hpo
          have HC := Lib.hid hc
          have HSI := Lib.hid hsi2
          clear hpo hc hs hsi2 hsi h5 h4 h0
          go_enter Try.func86, Try.ntmps86
          go_wp2_with (first
            | (go_at_call 62; refine (HCK.out _).mono ?_; rw [HC.out]; rintro e w2 ⟨rfl, hb2⟩; have k2 := (Blk.new w 65 [.int .i64 3, .slice a1 n1 c1, .slice a n cap]).keep hb2; have q0 := k2.cell (j := 0) rfl; have q1 := k2.cell (j := 1) rfl; have q2 := k2.cell (j := 2) rfl)
            | (go_at_call 109; refine (HSI.out _ ((HP1.out _).below hb2 (Nat.le_refl _))).mono ?_; rintro e w3 ⟨rfl, hb3⟩))
          have hBz : Below w.heap.size w w3 := ((Below.refl _ _).alloc (Nat.le_refl _) _).trans ((hb2.mono (by simp)).trans (hb3.mono (by have := hb2.size; simp at this; omega)))
          have hkz := k2.keep hb3
          have HBZ := Lib.hid hBz
          have HKZ := Lib.hid hkz
          clear hBz hkz q0 q1 q2 k2 hb2 hb3
          go_loopw [3] (fun iv wr => ∃ j : Nat, j ≤ n ∧ iv = .int .i64 j ∧ Blk wr w.heap.size 65 [.int .i64 3, .slice a1 n1 c1, .slice a n cap] ∧ Below w.heap.size w wr ∧ Hid (F = (ts.drop j).all (partOk 3 (canT d)))) (fun iv _ => n - (intOf iv).toNat)
          case atStart => exact ⟨0, by omega, rfl, HKZ.out, HBZ.out, HF⟩
          case round =>
            obtain ⟨j, hj, rfl, hblk, hB, HA⟩ := hrel
            have hsz := hB.size
            have q0 := hblk.cell (j := 0) rfl
            have q2 := hblk.cell (j := 2) rfl
            by_cases hlt : j < n
            · obtain ⟨b, o, t, rfl, hbl, hgt, x, ya, yn, yc, za, zn, zc, d0, d1, d2, htr⟩ := HTS.out.at_ hlt
              have e0 := (hB.cell (p := ⟨b, o + j * 3, none⟩) hbl).trans d0
              have e1 := (hB.cell (p := ⟨b, o + j * 3 + 1, none⟩) hbl).trans d1
              have e2 := (hB.cell (p := ⟨b, o + j * 3 + 2, none⟩) hbl).trans d2
              have hst := all_at (f := partOk 3 (canT d)) hgt.out
              have htr1 : TreeAt wr.drew ok (.agg #[.int .i64 x, .slice ya yn yc, .slice za zn zc]) t := (htr.kept hB.size (fun b hk hlt => ⟨hk, hB.block b hlt⟩)).keep ((Below.refl wr.heap.size wr).drewN' 1)
              have hca := IH.out _ t _ ok htr1 (HDA.out t (List.mem_of_getElem? hgt.out))
              rw [HPO.out] at hst
              generalize canT d t = s at *
              have HCA := Lib.hid hca
              have HST := Lib.hid hst
              clear d0 d1 d2 htr htr1 hca hst
              cases s
              all_goals
                go_upto_region 15 with fail
                refine wp_tailF 20 (by kernel_rfl) (by kernel_rfl) (by rfl) ?_
                simp only [List.take_succ_cons, List.take_zero, List.drop_succ_cons, List.drop_zero]
                repeat (go_big_quiet_step (fail))
                refine wpQuiet_nil ?_
                go_wp2_with (go_at_call 86; refine HCA.out.mono ?_; rintro e w4 ⟨rfl, hb4⟩; have hb4' : Below wr.heap.size wr w4 := ((Below.refl _ wr).drewN' 1).trans (by exact hb4); have k4 := hblk.keep hb4')
              · all_goals
                  go_ret
                  exact ⟨by rw [HA.out, HST.out]; rfl, hB.trans (hb4'.mono hsz)⟩
              · all_goals
                  go_roundw
                  case rel => exact ⟨j + 1, by omega, by go_num, k4, hB.trans (hb4'.mono hsz), by show _ = _; rw [HA.out, HST.out]; rfl⟩
                  case measure => simp [intOf]; omega
            · obtain rfl : j = n := by omega
              rw [List.drop_of_length_le (by rw [HN.out]; exact Nat.le_refl _)] at HA
              go_wp2_with fail
              go_ret
              exact ⟨by rw [HA.out]; rfl, hB⟩
end Go.Proofs.Ytgajaccnjjiiaaa
