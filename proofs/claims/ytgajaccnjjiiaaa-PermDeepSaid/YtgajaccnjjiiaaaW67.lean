/- Fill: equal trees: the walks. -/
import Derived.Test.YtgajaccnjjiiaaaW65
import Derived.Test.YtgajaccnjjiiaaaSt
import Derived.Test.YtgajaccnjjiiaaaShelf
namespace Go.Proofs.Ytgajaccnjjiiaaa
open Go.RowKit

def allP (g : TM → TM → Bool) : List TM → List TM → Bool
  | [], [] => true
  | x :: xs, y :: ys => g x y && allP g xs ys
  | _, _ => false
def eqT : Nat → TM → TM → Bool
  | 0, _, _ => false
  | d + 1, .mk k p ts, .mk k' p' ts' => k == k' && (decide (p = p') && (ts.length == ts'.length && allP (eqT d) ts ts'))
theorem allP_at {g : TM → TM → Bool} {ts us : List TM} {j : Nat} {t u : TM} (h : ts[j]? = some t) (k : us[j]? = some u) : allP g (ts.drop j) (us.drop j) = (g t u && allP g (ts.drop (j + 1)) (us.drop (j + 1))) := by
  obtain ⟨hj, rfl⟩ := List.getElem?_eq_some_iff.1 h
  obtain ⟨hk, rfl⟩ := List.getElem?_eq_some_iff.1 k
  rw [List.drop_eq_getElem_cons hj, List.drop_eq_getElem_cons hk, allP]
theorem allP_self {g : TM → TM → Bool} : ∀ {ts : List TM}, (∀ t ∈ ts, g t t = true) → allP g ts ts = true
  | [], _ => rfl
  | t :: ts, h => by rw [allP, h t (by simp), allP_self (ts := ts) (fun u hu => h u (by simp [hu]))]; rfl
theorem eqT_self : ∀ (d : Nat) (t : TM), DeepAt d t → eqT d t t = true
  | 0, _, h => h.elim
  | d + 1, .mk k p ts, h => by
    rw [DeepAt] at h
    rw [eqT, allP_self (fun t ht => eqT_self d t (h t ht))]
    simp
theorem allP_eq {g : TM → TM → Bool} (hg : ∀ t u, g t u = true → t = u) : ∀ {ts us : List TM}, allP g ts us = true → ts = us
  | [], [], _ => rfl
  | t :: ts, u :: us, h => by
    rw [allP, Bool.and_eq_true] at h
    rw [hg t u h.1, allP_eq hg h.2]
  | [], _ :: _, h => by simp [allP] at h
  | _ :: _, [], h => by simp [allP] at h
theorem eqT_eq : ∀ (d : Nat) (t u : TM), eqT d t u = true → t = u
  | 0, _, _, h => by simp [eqT] at h
  | d + 1, .mk k p ts, .mk k' p' ts', h => by
    simp only [eqT, Bool.and_eq_true, beq_iff_eq, decide_eq_true_eq] at h
    obtain ⟨h1, h2, h3, h4⟩ := h
    rw [h1, h2, allP_eq (eqT_eq d) h4]

/-- what equal answers, at a depth -/
def EqAt (d : Nat) : Prop := ∀ (v v' : Value) (t t' : TM) (w : World) (ok ok' : Nat → Prop), TreeAt w ok v t → TreeAt w ok' v' t' → Calls Try.prog 84 #[v, v'] w fun e w' => e = .returned (.bool (eqT d t t')) ∧ Below w.heap.size w w'

set_option maxRecDepth 100000 in
set_option maxHeartbeats 4000000 in
theorem equalFunc_any {d : Nat} (ih : ∀ (v v' : Value) (t t' : TM) (w : World) (ok ok' : Nat → Prop), DeepAt d t → TreeAt w ok v t → TreeAt w ok' v' t' → Calls Try.prog 84 #[v, v'] w fun e w' => e = .returned (.bool (eqT d t t')) ∧ Below w.heap.size w w')
    (v u : Value) (ts us : List TM) (w : World) (ok ok' : Nat → Prop) (hts : PartsAt w ok v ts) (hus : PartsAt w ok' u us) (hd : ∀ t ∈ ts, DeepAt d t) :
    Calls Try.prog 108 #[v, u, .func (.func 84) #[] #[]] w fun e w' => e = .returned (.bool (ts.length == us.length && allP (eqT d) ts us)) ∧ Below w.heap.size w w' := by
  obtain ⟨a, n, cap, rfl, HN, hn⟩ := hts.open
  obtain ⟨a2, m, cap2, rfl, HM, hm⟩ := hus.open
  by_cases hnm : n = m
  · subst hnm
    have hf : (ts.length == us.length && allP (eqT d) ts us) = allP (eqT d) ts us := by rw [HN.out, HM.out]; simp
    have HF := Lib.hid hf
    have HTS := Lib.hid hts
    have HUS := Lib.hid hus
    have HD := Lib.hid hd
    have IH := Lib.hid ih
    clear hts hus hd ih hf
    rw [HF.out]
    go_enter Try.func108, Try.ntmps108
    go_wp2_with fail
    go_loopw [7, 17] (fun _ iv wr => ∃ j : Nat, j ≤ n ∧ iv = .int .i64 j ∧ Below w.heap.size w wr ∧ Hid (allP (eqT d) ts us = allP (eqT d) (ts.drop j) (us.drop j))) (fun _ iv _ => n - (intOf iv).toNat)
    case atStart => exact ⟨0, by omega, rfl, Below.refl _ _, (show Hid (_ = _) from rfl)⟩
    case round =>
      obtain ⟨j, hj, rfl, hB, HA⟩ := hrel
      have hsz := hB.size
      by_cases hlt : j < n
      · obtain ⟨b, o, t, rfl, hbl, hgt, x, ya, yn, yc, za, zn, zc, d0, d1, d2, htr⟩ := HTS.out.at_ hlt
        obtain ⟨b2, o2, t2, rfl, hbl2, hgt2, x2, ya2, yn2, yc2, za2, zn2, zc2, f0, f1, f2, htr2⟩ := HUS.out.at_ hlt
        have e0 := (hB.cell (p := ⟨b, o + j * 3, none⟩) hbl).trans d0
        have e1 := (hB.cell (p := ⟨b, o + j * 3 + 1, none⟩) hbl).trans d1
        have e2 := (hB.cell (p := ⟨b, o + j * 3 + 2, none⟩) hbl).trans d2
        have hB2 := hB.alloc hsz (.cells #[.int .i64 x, .slice ya yn yc, .slice za zn zc] 41)
        have g0 := (hB.cell (p := ⟨b2, o2 + j * 3, none⟩) hbl2).trans f0
        have g1 := (hB.cell (p := ⟨b2, o2 + j * 3 + 1, none⟩) hbl2).trans f1
        have g2 := (hB.cell (p := ⟨b2, o2 + j * 3 + 2, none⟩) hbl2).trans f2
        have hbr := Nat.lt_of_lt_of_le hbl2 hsz
        have hst := allP_at (g := eqT d) hgt.out hgt2.out
        have hB3 := hB2.alloc hB2.size (.cells #[.int .i64 x2, .slice ya2 yn2 yc2, .slice za2 zn2 zc2] 41)
        have htr1 : TreeAt ((wr.alloc (.cells #[.int .i64 x, .slice ya yn yc, .slice za zn zc] 41)).alloc (.cells #[.int .i64 x2, .slice ya2 yn2 yc2, .slice za2 zn2 zc2] 41)) ok (.agg #[.int .i64 x, .slice ya yn yc, .slice za zn zc]) t := htr.keep hB3
        have htr3 : TreeAt ((wr.alloc (.cells #[.int .i64 x, .slice ya yn yc, .slice za zn zc] 41)).alloc (.cells #[.int .i64 x2, .slice ya2 yn2 yc2, .slice za2 zn2 zc2] 41)) ok' (.agg #[.int .i64 x2, .slice ya2 yn2 yc2, .slice za2 zn2 zc2]) t2 := htr2.keep hB3
        have hca := IH.out _ _ t t2 _ ok ok' (HD.out t (List.mem_of_getElem? hgt.out)) htr1 htr3
        generalize eqT d t t2 = s at *
        have HST := Lib.hid hst
        have HCA := Lib.hid hca
        have HB3 := Lib.hid hB3
        clear d0 d1 d2 f0 f1 f2 htr htr1 htr2 htr3 hst hca hB2 hB3
        cases s
        · have hfin : allP (eqT d) ts us = false := by rw [HA.out, HST.out]; rfl
          have HFI := Lib.hid hfin
          clear hfin
          go_wp2_with (go_at_call 84; refine HCA.out.mono ?_; rintro e w3 ⟨rfl, hb3⟩)
          go_ret
          exact ⟨by rw [HFI.out]; rfl, HB3.out.trans (hb3.mono (by simp; omega))⟩
        · go_wp2_with (go_at_call 84; refine HCA.out.mono ?_; rintro e w3 ⟨rfl, hb3⟩)
          go_roundw
          case rel => exact ⟨j + 1, by omega, by go_num, HB3.out.trans (hb3.mono (by simp; omega)), by show _ = _; rw [HA.out, HST.out]; rfl⟩
          case measure => simp [intOf]; omega
      · obtain rfl : j = n := by omega
        have hfin : allP (eqT d) ts us = true := by rw [HA.out, List.drop_of_length_le (by rw [HN.out]; exact Nat.le_refl _), List.drop_of_length_le (by rw [HM.out]; exact Nat.le_refl _)]; rfl
        have HFI := Lib.hid hfin
        clear hfin
        go_wp2_with fail
        go_ret
        exact ⟨by rw [HFI.out]; rfl, hB⟩
  · have hf : (ts.length == us.length && allP (eqT d) ts us) = false := by rw [HN.out, HM.out]; simp [hnm]
    have HF := Lib.hid hf
    have t1 : ((n : Int) != (m : Int)) = true := by simp; omega
    clear hts hus hd ih hf hnm
    rw [HF.out]
    go_enter Try.func108, Try.ntmps108
    go_wp2_with fail
    go_ret
    exact ⟨rfl, Below.refl _ _⟩

theorem equalInts_any (v u : Value) (xs ys : List Int) (w : World) (hv : Ints w v xs) (hu : Ints w u ys) :
    Calls Try.prog 107 #[v, u] w fun e w' => e = .returned (.bool (decide (xs = ys))) ∧ Below w.heap.size w w' := by
  obtain ⟨a, n, c, rfl, HN, hn⟩ := hv.open
  obtain ⟨a2, m, c2, rfl, HM, hm⟩ := hu.open
  by_cases hnm : n = m
  · subst hnm
    rcases Nat.eq_zero_or_pos n with h0 | h0
    · subst h0
      refine (Try.slices_Equal_int_empty a a2 c 0 c2 w (by omega)).mono ?_
      rintro e w' ⟨rfl, rfl⟩
      have e1 : xs = [] := List.eq_nil_of_length_eq_zero HN.out
      have e2 : ys = [] := List.eq_nil_of_length_eq_zero HM.out
      exact ⟨by rw [e1, e2]; rfl, Below.refl _ _⟩
    · obtain ⟨b, o, _, rfl, _, _⟩ := hv.at_ h0
      obtain ⟨b2, o2, _, rfl, _, _⟩ := hu.at_ h0
      have hc1 : ∀ j, j < xs.length → w.cell? ⟨b, o + j, none⟩ = some (.int .i64 (xs.getD j 0)) := fun j hj => by
        obtain ⟨x, hx, hc⟩ := hv.cell_ (k := j) (by rw [← HN.out]; exact hj)
        rw [hc, List.getD_eq_getElem?_getD, hx.out]; rfl
      have hc2 : ∀ j, j < ys.length → w.cell? ⟨b2, o2 + j, none⟩ = some (.int .i64 (ys.getD j 0)) := fun j hj => by
        obtain ⟨x, hx, hc⟩ := hu.cell_ (k := j) (by rw [← HM.out]; exact hj)
        rw [hc, List.getD_eq_getElem?_getD, hx.out]; rfl
      refine (Try.slices_Equal_int b o n c b2 o2 n c2 xs ys w (by rw [HN.out]; exact Nat.le_refl _) (by rw [HM.out]; exact Nat.le_refl _) hn hn hc1 hc2).mono ?_
      rintro e w' ⟨rfl, q, rfl⟩
      refine ⟨?_, (Below.refl _ _).drewN' q⟩
      rw [List.take_of_length_le (by rw [HN.out]; exact Nat.le_refl _), List.take_of_length_le (by rw [HM.out]; exact Nat.le_refl _)]
      congr 2
      rw [Bool.eq_iff_iff]; simp
  · refine (Try.slices_Equal_int_lens a a2 n c m c2 w hnm).mono ?_
    rintro e w' ⟨rfl, rfl⟩
    have hne : ¬ xs = ys := by rintro rfl; exact hnm (HN.out.symm.trans HM.out)
    exact ⟨by rw [decide_eq_false hne], Below.refl _ _⟩

set_option maxRecDepth 100000 in
set_option maxHeartbeats 4000000 in
theorem equal_any : ∀ (d : Nat) (v v' : Value) (t t' : TM) (w : World) (ok ok' : Nat → Prop), DeepAt d t → TreeAt w ok v t → TreeAt w ok' v' t' →
    Calls Try.prog 84 #[v, v'] w fun e w' => e = .returned (.bool (eqT d t t')) ∧ Below w.heap.size w w' := by
  intro d
  induction d with
  | zero => intro v v' t t' w ok ok' h; exact h.elim
  | succ d ih =>
    intro v v' t t' w ok ok' hdp ht ht'
    obtain ⟨k, perm, ts⟩ := t
    obtain ⟨k', perm', ts'⟩ := t'
    have hda : ∀ t ∈ ts, DeepAt d t := by rw [DeepAt] at hdp; exact hdp
    have hB : ∀ o o', Below w.heap.size w ((w.alloc o).alloc o') := fun o o' => ((Below.refl w.heap.size w).alloc (Nat.le_refl _) o).alloc (by simp) o'
    obtain ⟨pv, tv, rfl, hp, hts⟩ := ht.parts
    obtain ⟨pv', tv', rfl, hp', hts'⟩ := ht'.parts
    have hca := fun o o' => equalInts_any pv pv' perm perm' _ (hp.below (hB o o') (Nat.le_refl _)) (hp'.below (hB o o') (Nat.le_refl _))
    have hcb := fun W (h1 : PartsAt W ok tv ts) (h2 : PartsAt W ok' tv' ts') => equalFunc_any ih tv tv' ts ts' W ok ok' h1 h2 hda
    have hk1 := fun o o' => hts.keep (hB o o')
    have hk2 := fun o o' => hts'.keep (hB o o')
    have hf : eqT (d + 1) (.mk k perm ts) (.mk k' perm' ts') = (k == k' && (decide (perm = perm') && (ts.length == ts'.length && allP (eqT d) ts ts'))) := rfl
    obtain ⟨a1, n1, c1, rfl, _, _⟩ := hp.open
    obtain ⟨a2, n2, c2, rfl, _, _⟩ := hp'.open
    obtain ⟨a3, n3, c3, rfl, _, _⟩ := hts.open
    obtain ⟨a4, n4, c4, rfl, _, _⟩ := hts'.open
    generalize eqT (d + 1) (.mk k perm ts) (.mk k' perm' ts') = F at *
    generalize (ts.length == ts'.length && allP (eqT d) ts ts') = b3 at *
    generalize decide (perm = perm') = b2 at *
    have HCA := Lib.hid hca
    have HCB := Lib.hid hcb
    have HK1 := Lib.hid hk1
    have HK2 := Lib.hid hk2
    have HBB := Lib.hid hB
    clear hca hcb hk1 hk2 hts hts' hp hp' ht ht' hda hdp ih hB
    by_cases hk : k = k'
    · subst hk
      have tk : (k == k) = true := by simp
      rw [tk, Bool.true_and] at hf
      cases b2
      · simp only [Bool.false_and] at hf
        subst hf
        go_enter Try.func84, Try.ntmps84
        go_wp2_with (go_at_call 107; refine (HCA.out _ _).mono ?_; rintro e w2 ⟨rfl, hb2⟩)
        go_ret
        exact ⟨rfl, (HBB.out _ _).trans (hb2.mono (HBB.out _ _).size)⟩
      · simp only [Bool.true_and] at hf
        subst hf
        go_enter Try.func84, Try.ntmps84
        go_wp2_with (first
          | (go_at_call 107; refine (HCA.out _ _).mono ?_; rintro e w2 ⟨rfl, hb2⟩; have k1 := ((Blk.new w 41 [.int .i64 k, .slice a1 n1 c1, .slice a3 n3 c3]).alloc (.cells #[.int .i64 k, .slice a2 n2 c2, .slice a4 n4 c4] 41)).keep hb2; have q1 := k1.cell (j := 2) rfl; have k2 := (Blk.new (w.alloc (.cells #[.int .i64 k, .slice a1 n1 c1, .slice a3 n3 c3] 41)) 41 [.int .i64 k, .slice a2 n2 c2, .slice a4 n4 c4]).keep hb2; simp only [World.size_alloc] at k2; have q2 := k2.cell (j := 2) rfl)
          | (go_at_call 108; refine (HCB.out _ ((HK1.out _ _).keep hb2) ((HK2.out _ _).keep hb2)).mono ?_; rintro e w3 ⟨rfl, hb3⟩))
        go_ret
        exact ⟨rfl, (HBB.out _ _).trans ((hb2.mono (HBB.out _ _).size).trans (hb3.mono (Nat.le_trans (HBB.out _ _).size hb2.size)))⟩
    · have tk : (k == k') = false := by simpa using hk
      rw [tk, Bool.false_and] at hf
      subst hf
      clear hk
      go_enter Try.func84, Try.ntmps84
      go_wp2_with fail
      go_ret
      exact ⟨rfl, HBB.out _ _⟩
end Go.Proofs.Ytgajaccnjjiiaaa
