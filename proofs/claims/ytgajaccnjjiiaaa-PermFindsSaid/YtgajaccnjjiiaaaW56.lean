/- Whether a run sorts: the reference's Sorts: the walk. -/
import Derived.Test.YtgajaccnjjiiaaaW55
import Derived.Test.YtgajaccnjjiiaaaW47
namespace Go.Proofs.Ytgajaccnjjiiaaa
open Go.RowKit

set_option maxRecDepth 100000 in
set_option maxHeartbeats 4000000 in
theorem rSorts_any (v : Value) (p : List Int) (run : ByteArray) (w : World) (hv : Ints w v p) (hch : checkM p = 0) (hp : p.length ≤ 1000) (hrun : run.size ≤ 1000) :
    Calls Try.prog 28 #[v, .string run] w fun e w' => e = .returned (.bool (sortsM p run.data.toList)) ∧ Below w.heap.size w w' := by
  obtain ⟨ad, n, cap, rfl, HN, hn'⟩ := hv.open
  have hl' : n ≤ 1000 := by have := HN.out; omega
  have hlen : run.data.toList.length = run.size := by simp
  have HCH := Lib.hid hch
  by_cases hsz : run.size = 2 * n
  · have hE : sortsM p run.data.toList = sEnd p (sRun p run.data.toList ([], 0, 0)) := sorts_eq hch (by rw [hlen, hsz, HN.out])
    have t1 : ((run.size : Int) != 2 * (n : Int)) = false := by simp; omega
    have HE := Lib.hid hE
    have HSZ := Lib.hid hsz
    have hn0 : 0 < n := by have := ((checkM_iff p).1 hch).1.1; have := HN.out; omega
    clear hE hsz hlen hch hp
    go_enter Try.func28, Try.ntmps28
    go_wp2_with (go_at_call 62; refine (rCheck_any _ p _ hv).mono ?_; rw [HCH.out]; rintro e w1 ⟨rfl, hb⟩)
    have hB1 := hb.size
    have HBW := Lib.hid hb; clear hb
    go_loopw [5, 6, 7, 8] (fun s pv d iv wr => ∃ (k : Nat) (st : List Int) (pt due : Nat), k ≤ run.size ∧ pv = .int .i64 pt ∧ d = .int .i64 due ∧ iv = .int .i64 k ∧ pt ≤ n ∧ st.length ≤ pt ∧ due ≤ k ∧
        Own wr w.heap.size 3 s st.reverse ∧ Below w.heap.size w wr ∧ Hid (sEnd p (sRun p run.data.toList ([], 0, 0)) = sEnd p (sRun p (run.data.toList.drop k) (st, pt, due)))) (fun _ _ _ iv _ => run.size - (intOf iv).toNat)
    case atStart =>
      exact ⟨0, [], 0, 0, by omega, rfl, rfl, rfl, by omega, by simp, by omega, Own.nil _ _ _, HBW.out, (show Hid (_ = _) from rfl)⟩
    case round =>
      obtain ⟨k, st, pt, due, hk, rfl, rfl, rfl, hpt, hst, hdue, hown, hB, HS⟩ := hrel
      have hsz := hB.size
      by_cases hlt : k < run.size
      · have hgk : run.data.toList[k]? = some (run[k]'hlt) := by
          rw [List.getElem?_eq_getElem (by simpa using hlt)]; rfl
        have hstep := fun r => sRun_at (p := p) (r := r) hgk
        have hv2 := hv.below hB (Nat.le_refl _)
        have HSTEP := Lib.hid hstep
        clear hstep hgk
        obtain ⟨m, hm⟩ : ∃ m, st.length = m := ⟨_, rfl⟩
        obtain ⟨sa, sc, rfl⟩ := Own.shape hown (n := m) (by rw [List.length_reverse, hm])
        rw [hm] at hst
        by_cases h105 : (run[k]'hlt).toNat = 105
        · have t105 : (((run[k]'hlt).toNat : Int) == 105) = true := by simp [h105]
          by_cases hpn : pt < n
          · obtain ⟨b, of, x, rfl, hx, cx⟩ := hv2.at_ hpn
            have hst2 : sStep p (run[k]'hlt).toNat (st, pt, (due : Int)) = some (x :: st, pt + 1, (due : Int)) := by simp [sStep, h105, vat_of hx.out]; rw [HN.out]; exact hpn
            have tpn : ((pt : Int) == (n : Int)) = false := by simp; omega
            have hlen : st.reverse.length < 1000000000000 := by rw [List.length_reverse, hm]; omega
            have HST := Lib.hid hst2
            have HLEN := Lib.hid hlen
            have HM := Lib.hid hm
            clear hst2 hlen hm h105
            go_wp2_with (at_builtin; refine wpList_app1 Try.info3 Try.underlying22 hown hsz HLEN.out rfl _ _ rfl rfl rfl ?_; intro v3 w3 hown3 hgrow3 hb3 hsh3)
            go_roundw
            case rel =>
              refine ⟨k + 1, x :: st, pt + 1, due, by omega, by go_num, rfl, by go_num, by omega, by simp only [List.length_cons, HM.out]; omega, by omega, by simpa using hown3, hB.trans hb3, ?_⟩
              show _ = _
              rw [HS.out, HSTEP.out, HST.out]
            case measure => simp [intOf]; omega
          · obtain rfl : pt = n := by omega
            have hst2 : sStep p (run[k]'hlt).toNat (st, pt, due) = none := by simp [sStep, h105]; rw [HN.out]; omega
            have hfin : sortsM p run.data.toList = false := by rw [HE.out, HS.out, HSTEP.out, hst2]; rfl
            have HF := Lib.hid hfin
            clear hst2 hfin h105 hm hown
            go_wp2_with fail
            go_ret
            exact ⟨by rw [HF.out]; rfl, hB⟩
        · have t105 : (((run[k]'hlt).toNat : Int) == 105) = false := by simp; omega
          by_cases h111 : (run[k]'hlt).toNat = 111
          · have t111 : (((run[k]'hlt).toNat : Int) == 111) = true := by simp [h111]
            cases st with
            | nil =>
              obtain rfl : m = 0 := by simpa using hm.symm
              have hst2 : sStep p (run[k]'hlt).toNat ([], pt, due) = none := by simp [sStep, h111]
              have hfin : sortsM p run.data.toList = false := by rw [HE.out, HS.out, HSTEP.out, hst2]; rfl
              have HF := Lib.hid hfin
              clear hst2 hfin hm h105 h111
              go_wp2_with fail
              go_ret
              exact ⟨by rw [HF.out]; rfl, hB⟩
            | cons t s =>
              obtain ⟨m, rfl⟩ : ∃ m', m = m' + 1 := ⟨s.length, by simpa using hm.symm⟩
              obtain ⟨g, cp, hvv, hg1, hg2, hfz, hcs⟩ := Own.open hown (n := m + 1) (by rw [List.length_reverse, hm]) (by omega)
              obtain ⟨rfl, rfl⟩ : sa = some ⟨g, 0, none⟩ ∧ sc = cp := by simpa using hvv
              have hsl : s.length = m := by simpa using hm
              have hct := hcs m t (by simp [hsl])
              simp only [List.reverse_cons] at hown
              have hpop := Own.pop hown (by simp [hsl])
              have hcap := Own.cap hown
              have tm0 : (((m : Int) + 1) == 0) = false := by simp; omega
              by_cases htd : t = due
              · have hb : (t == (due : Int)) = true := by simpa using htd
                have hb2 : (t != (due : Int)) = false := by simpa using htd
                have hst2 : sStep p (run[k]'hlt).toNat (t :: s, pt, due) = some (s, pt, (due : Int) + 1) := by simp [sStep, h111, htd]
                have HST := Lib.hid hst2
                have HSL := Lib.hid hsl
                clear hst2 htd hsl hfz hcs hm hown h105 h111
                go_wp2_with fail
                go_roundw
                case rel =>
                  refine ⟨k + 1, s, pt, due + 1, by omega, rfl, by go_num, by go_num, by omega, by rw [HSL.out]; omega, by omega, hpop, hB, ?_⟩
                  show _ = _
                  rw [HS.out, HSTEP.out, HST.out]
                  rfl
                case measure => simp [intOf]; omega
              · have hb : (t == (due : Int)) = false := by simpa using htd
                have hb2 : (t != (due : Int)) = true := by simpa using htd
                have hst2 : sStep p (run[k]'hlt).toNat (t :: s, pt, due) = none := by simp [sStep, h111, htd]
                have hfin : sortsM p run.data.toList = false := by rw [HE.out, HS.out, HSTEP.out, hst2]; rfl
                have HF := Lib.hid hfin
                clear hst2 hfin htd hsl hfz hcs hm hown h105 h111
                go_wp2_with fail
                go_ret
                exact ⟨by rw [HF.out]; rfl, hB⟩
          · have t111 : (((run[k]'hlt).toNat : Int) == 111) = false := by simp; omega
            have hst2 : sStep p (run[k]'hlt).toNat (st, pt, due) = none := by simp [sStep, h105, h111]
            have hfin : sortsM p run.data.toList = false := by rw [HE.out, HS.out, HSTEP.out, hst2]; rfl
            have HF := Lib.hid hfin
            clear hst2 hfin hm h105 h111
            go_wp2_with fail
            go_ret
            exact ⟨by rw [HF.out]; rfl, hB⟩
      · obtain rfl : k = run.size := by omega
        have hfin : sortsM p run.data.toList = decide ((due : Int) = n) := by
          rw [HE.out, HS.out, List.drop_of_length_le (by simp)]
          simp only [sRun, sEnd, HN.out]
        have HF := Lib.hid hfin
        clear hfin
        go_wp2_with fail
        go_ret
        exact ⟨by rw [HF.out]; rfl, hB⟩
  · have hE : sortsM p run.data.toList = false := by
      unfold sortsM
      rw [show decide (run.data.toList.length = 2 * p.length) = false from decide_eq_false (by rw [hlen, HN.out]; exact hsz)]
      simp
    have t1 : ((run.size : Int) != 2 * (n : Int)) = true := by simp; omega
    have HE := Lib.hid hE
    clear hE hsz hlen hch hp
    go_enter Try.func28, Try.ntmps28
    go_wp2_with (go_at_call 62; refine (rCheck_any _ p _ hv).mono ?_; rw [HCH.out]; rintro e w1 ⟨rfl, hb⟩)
    go_ret
    exact ⟨by rw [HE.out]; rfl, hb⟩
end Go.Proofs.Ytgajaccnjjiiaaa
