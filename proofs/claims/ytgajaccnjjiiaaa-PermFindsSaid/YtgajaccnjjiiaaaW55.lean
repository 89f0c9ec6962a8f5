/- Whether a run sorts: the program's Sorts and the reference's: the walks. -/
import Derived.Test.YtgajaccnjjiiaaaW53
import Derived.Lib.OthersKept
namespace Go.Proofs.Ytgajaccnjjiiaaa
open Go.RowKit

theorem sRun_at {p : List Int} {l : List UInt8} {k : Nat} {c : UInt8} {r : SS} (h : l[k]? = some c) :
    sRun p (l.drop k) r = (match sStep p c.toNat r with | none => none | some r => sRun p (l.drop (k + 1)) r) := by
  obtain ⟨hk, rfl⟩ := List.getElem?_eq_some_iff.1 h
  rw [List.drop_eq_getElem_cons hk, sRun]
  rfl
theorem sorts_eq {p : List Int} {l : List UInt8} (h1 : checkM p = 0) (h2 : l.length = 2 * p.length) : sortsM p l = sEnd p (sRun p l ([], 0, 0)) := by
  unfold sortsM
  rw [decide_eq_true h1, decide_eq_true h2]
  simp only [Bool.true_and]
theorem Own.iterAt {w : World} {base : Nat} {e : TypeId} {v : Value} {zs : List Int} (h : Own w base e v zs) {k : Nat} {s : ByteArray} {pos : Nat} (hk : w.heap[k]? = some (.stringIter s pos)) (pos' : Nat) : Own (w.iterAt k s pos') base e v zs := by
  refine ⟨h.1, ?_⟩
  rcases h.2 with hn | ⟨g, cap, cur, hv, hb, hg, rest⟩
  · exact .inl hn
  · refine .inr ⟨g, cap, cur, hv, hb, (Lib.iterAt_other w k g s pos' ?_).trans hg, rest⟩
    rintro rfl
    rw [hk] at hg
    cases hg
theorem iter_grown {w w' : World} {base : Nat} {e : TypeId} {v : Value} {zs : List Int} (h : Own w base e v zs) {k : Nat} {s : ByteArray} {pos : Nat} (hk : w.heap[k]? = some (.stringIter s pos)) (hg : w.grownBy w' v.ownBlock) : w'.heap[k]? = some (.stringIter s pos) := by
  have hlt : k < w.heap.size := (Array.getElem?_eq_some_iff.1 hk).1
  refine (hg.block k hlt ?_).trans hk
  rcases h.2 with ⟨rfl, _⟩ | ⟨g, cap, cur, rfl, hb, hg', rest⟩
  · rw [ob_nil]; simp
  · rw [ob_some]
    intro e1
    obtain rfl := Option.some.inj e1
    rw [hk] at hg'
    cases hg'

set_option maxRecDepth 100000 in
set_option maxHeartbeats 4000000 in
theorem Sorts_any (v : Value) (p : List Int) (run : ByteArray) (w : World) (hv : Ints w v p) (hch : checkM p = 0) (hp : p.length ≤ 1000) (hrun : run.size ≤ 1000) :
    Calls Try.prog 29 #[v, .string run] w fun e w' => e = .returned (.bool (sortsM p run.data.toList)) ∧ Below w.heap.size w w' := by
  obtain ⟨ad, n, cap, rfl, HN, hn'⟩ := hv.open
  have hl' : n ≤ 1000 := by have := HN.out; omega
  have hlen : run.data.toList.length = run.size := by simp
  have HCH := Lib.hid hch
  by_cases hsz : run.size = 2 * n
  · have hE : sortsM p run.data.toList = sEnd p (sRun p run.data.toList ([], 0, 0)) := sorts_eq hch (by rw [hlen, hsz, HN.out])
    have t1 : ((run.size : Int) != 2 * (n : Int)) = false := by simp; omega
    have HE := Lib.hid hE
    have HSZ := Lib.hid hsz
    have hn0 : 0 < n := by have := ((checkM_iff p).1 hch).1.1; have := HN.out; omega
    clear hE hsz hlen hch hp
    go_enter Try.func29, Try.ntmps29
    go_wp2_with (go_at_call 63; refine (check_any _ p _ hv).mono ?_; rw [HCH.out]; rintro e w1 ⟨rfl, hb⟩)
    have hB1 := hb.size
    have HBW := Lib.hid hb; clear hb
    go_loopw [5, 6, 7] (fun s pv d wr => ∃ (k : Nat) (st : List Int) (pt due : Nat), k ≤ run.size ∧ pv = .int .i64 pt ∧ d = .int .i64 due ∧ pt ≤ n ∧ st.length ≤ pt ∧ due ≤ k ∧ wr.heap[w1.heap.size]? = some (.stringIter run k) ∧
        Own wr w.heap.size 3 s st.reverse ∧ Below w.heap.size w wr ∧ Hid (sEnd p (sRun p run.data.toList ([], 0, 0)) = sEnd p (sRun p (run.data.toList.drop k) (st, pt, due)))) (fun _ _ _ wr => run.size - wr.iterPos w1.heap.size)
    case atStart =>
      exact ⟨0, [], 0, 0, by omega, rfl, rfl, by omega, by simp, by omega, World.iter_heap w1 run 0, Own.nil _ _ _, HBW.out.alloc hB1 _, (show Hid (_ = _) from rfl)⟩
    case round =>
      obtain ⟨k, st, pt, due, hk, rfl, rfl, hpt, hst, hdue, hit, hown, hB, HS⟩ := hrel
      have hsz := hB.size
      by_cases hlt : k < run.size
      · have hgk : run.data.toList[k]? = some (run[k]'hlt) := by
          rw [List.getElem?_eq_getElem (by simpa using hlt)]; rfl
        have hstep := fun r => sRun_at (p := p) (r := r) hgk
        by_cases ha : (run[k]'hlt).toNat < 128
        · have hnx0 := fun ty => Lib.run_next_ascii_at (P := Try.prog) wr w1.heap.size run k ty hit hlt ha
          have hit2 := Lib.iterAt_heap wr w1.heap.size run k (k + 1) hit
          have hown2 := hown.iterAt hit (k + 1)
          have hB2 := Lib.below_iterAt hB hB1 run (k + 1)
          have hv2 := hv.below hB2 (Nat.le_refl _)
          generalize hw2 : wr.iterAt w1.heap.size run (k + 1) = w2 at *
          have hz2 : wr.heap.size = w2.heap.size := by rw [← hw2, Lib.iterAt_size]
          obtain ⟨c, hc⟩ : ∃ c, (run[k]'hlt).toNat = c := ⟨_, rfl⟩
          simp only [hc] at hnx0 hstep ha
          have hnx : ∀ ty, (Instr.next (.pointer (some ⟨w1.heap.size, 0, none⟩)) true ty).run Try.prog wr = .ok (.tuple #[.bool true, .int .i64 k, .int .i32 (c : Nat)]) w2 := hnx0
          have hpos : wr.iterPos w1.heap.size = k := by simp only [World.iterPos, hit]
          have hpos2 : w2.iterPos w1.heap.size = k + 1 := by simp only [World.iterPos, hit2]
          have HPOS := Lib.hid hpos
          have HSTEP := Lib.hid hstep
          have HIT2 := Lib.hid hit2
          have HIT := Lib.hid hit
          have HB2 := Lib.hid hB2
          have HW2 := Lib.hid hw2
          have HC := Lib.hid hc
          have HZ := Lib.hid hz2
          clear hnx0 hstep hw2 hc hgk hz2 hit2 hit hpos hpos2 hB2
          obtain ⟨m, hm⟩ : ∃ m, st.length = m := ⟨_, rfl⟩
          obtain ⟨sa, sc, rfl⟩ := Own.shape hown2 (n := m) (by rw [List.length_reverse, hm])
          rw [hm] at hst
          by_cases h105 : c = 105
          · subst h105
            by_cases hpn : pt < n
            · obtain ⟨b, of, x, rfl, hx, cx⟩ := hv2.at_ hpn
              have hst2 : sStep p 105 (st, pt, (due : Int)) = some (x :: st, pt + 1, (due : Int)) := by simp [sStep, vat_of hx.out]; rw [HN.out]; exact hpn
              have hlen : st.reverse.length < 1000000000000 := by rw [List.length_reverse, hm]; omega
              have hz : w.heap.size ≤ w2.heap.size := by have := HZ.out; omega
              have HST := Lib.hid hst2
              have HLEN := Lib.hid hlen
              have HM := Lib.hid hm
              clear hst2 hlen hm
              go_wp2_with (at_builtin; refine wpList_app1 Try.info3 Try.underlying22 hown2 hz HLEN.out rfl _ _ rfl rfl rfl ?_; intro v3 w3 hown3 hgrow3 hb3 hsh3)
              have hit3 := iter_grown hown2 HIT2.out hgrow3
              go_roundw
              case rel =>
                refine ⟨k + 1, x :: st, pt + 1, due, by omega, by go_num, rfl, by omega, by simp only [List.length_cons, HM.out]; omega, by omega, hit3, by simpa using hown3, HB2.out.trans hb3, ?_⟩
                show _ = _
                rw [HS.out, HSTEP.out, HST.out]
              case measure => rw [HPOS.out]; simp only [World.iterPos, hit3]; omega
            · have hst2 : sStep p 105 (st, pt, due) = none := by simp [sStep]; rw [HN.out]; omega
              have hfin : sortsM p run.data.toList = false := by rw [HE.out, HS.out, HSTEP.out, hst2]; rfl
              have HF := Lib.hid hfin
              clear hst2 hfin
              go_wp2_with fail
              go_ret
              exact ⟨by rw [HF.out]; rfl, HB2.out⟩
          · have t105 : ((c : Int) == 105) = false := by simp; omega
            by_cases h111 : c = 111
            · subst h111
              cases st with
              | nil =>
                obtain rfl : m = 0 := by simpa using hm.symm
                have hst2 : sStep p 111 ([], pt, due) = none := by simp [sStep]
                have hfin : sortsM p run.data.toList = false := by rw [HE.out, HS.out, HSTEP.out, hst2]; rfl
                have HF := Lib.hid hfin
                clear hst2 hfin hm h105
                go_wp2_with fail
                go_ret
                exact ⟨by rw [HF.out]; rfl, HB2.out⟩
              | cons t s =>
                obtain ⟨m, rfl⟩ : ∃ m', m = m' + 1 := ⟨s.length, by simpa using hm.symm⟩
                obtain ⟨g, cp, hvv, hg1, hg2, hfz, hcs⟩ := Own.open hown2 (n := m + 1) (by rw [List.length_reverse, hm]) (by omega)
                obtain ⟨rfl, rfl⟩ : sa = some ⟨g, 0, none⟩ ∧ sc = cp := by simpa using hvv
                have hsl : s.length = m := by simpa using hm
                have hct := hcs m t (by simp [hsl])
                simp only [List.reverse_cons] at hown2
                have hpop := Own.pop hown2 (by simp [hsl])
                have hcap := Own.cap hown2
                by_cases htd : t = due
                · have hb : (t == (due : Int)) = true := by simpa using htd
                  have hst2 : sStep p 111 (t :: s, pt, due) = some (s, pt, (due : Int) + 1) := by simp [sStep, htd]
                  have HST := Lib.hid hst2
                  have HSL := Lib.hid hsl
                  clear hst2 htd hsl hfz hcs hm hown hown2 h105
                  go_wp2_with fail
                  go_roundw
                  case rel =>
                    refine ⟨k + 1, s, pt, due + 1, by omega, rfl, by go_num, by omega, by rw [HSL.out]; omega, by omega, HIT2.out, hpop, HB2.out, ?_⟩
                    show _ = _
                    rw [HS.out, HSTEP.out, HST.out]
                    rfl
                  case measure => rw [HPOS.out]; simp only [World.iterPos, HIT2.out]; omega
                · have hb : (t == (due : Int)) = false := by simpa using htd
                  have hst2 : sStep p 111 (t :: s, pt, due) = none := by simp [sStep, htd]
                  have hfin : sortsM p run.data.toList = false := by rw [HE.out, HS.out, HSTEP.out, hst2]; rfl
                  have HF := Lib.hid hfin
                  clear hst2 hfin htd hsl hfz hcs hm hown hown2 h105
                  go_wp2_with fail
                  go_ret
                  exact ⟨by rw [HF.out]; rfl, HB2.out⟩
            · have t111 : ((c : Int) == 111) = false := by simp; omega
              have hst2 : sStep p c (st, pt, due) = none := by simp [sStep, h105, h111]
              have hfin : sortsM p run.data.toList = false := by rw [HE.out, HS.out, HSTEP.out, hst2]; rfl
              have HF := Lib.hid hfin
              clear hst2 hfin hm h105 h111
              go_wp2_with fail
              go_ret
              exact ⟨by rw [HF.out]; rfl, HB2.out⟩
        · obtain ⟨r1, r2⟩ := decode_high run k hlt (by omega)
          have r3 := decode_le run k
          have hnx0 := fun ty => Lib.run_next_any_at (P := Try.prog) wr w1.heap.size run k ty hit hlt
          have hB2 := Lib.below_iterAt hB hB1 run (k + (Utf8.decode run k).2)
          generalize wr.iterAt w1.heap.size run (k + (Utf8.decode run k).2) = w2 at *
          generalize (Utf8.decode run k).1 = r at *
          have hnx : ∀ ty, (Instr.next (.pointer (some ⟨w1.heap.size, 0, none⟩)) true ty).run Try.prog wr = .ok (.tuple #[.bool true, .int .i64 k, .int .i32 (r : Nat)]) w2 := hnx0
          have t105 : ((r : Int) == 105) = false := by simp; omega
          have t111 : ((r : Int) == 111) = false := by simp; omega
          have hst2 : sStep p (run[k]'hlt).toNat (st, pt, due) = none := by rw [sStep, if_neg (by omega), if_neg (by omega)]
          have hfin : sortsM p run.data.toList = false := by rw [HE.out, HS.out, hstep, hst2]; rfl
          have HF := Lib.hid hfin
          have HB2 := Lib.hid hB2
          clear hst2 hfin hnx0 hstep hgk ha hit hB2
          obtain ⟨m, hm⟩ : ∃ m, st.length = m := ⟨_, rfl⟩
          obtain ⟨sa, sc, rfl⟩ := Own.shape hown (n := m) (by rw [List.length_reverse, hm])
          clear hm hown
          go_wp2_with fail
          go_ret
          exact ⟨by rw [HF.out]; rfl, HB2.out⟩
      · obtain rfl : k = run.size := by omega
        have hnx := fun ty => Lib.run_next_end_at (P := Try.prog) wr w1.heap.size run run.size ty hit hlt
        have hfin : sortsM p run.data.toList = decide ((due : Int) = n) := by
          rw [HE.out, HS.out, List.drop_of_length_le (by simp)]
          simp only [sRun, sEnd, HN.out]
        have HF := Lib.hid hfin
        clear hfin hit
        go_wp2_with fail
        go_ret
        exact ⟨by rw [HF.out]; rfl, hB⟩
  · have hE : sortsM p run.data.toList = false := by
      unfold sortsM
      rw [show decide (run.data.toList.length = 2 * p.length) = false from decide_eq_false (by rw [hlen, HN.out]; exact hsz)]
      simp
    have t1 : ((run.size : Int) != 2 * (n : Int)) = true := by simp; omega
    have HE := Lib.hid hE
    clear hE hsz hlen hch hp
    go_enter Try.func29, Try.ntmps29
    go_wp2_with (go_at_call 63; refine (check_any _ p _ hv).mono ?_; rw [HCH.out]; rintro e w1 ⟨rfl, hb⟩)
    go_ret
    exact ⟨by rw [HE.out]; rfl, hb⟩
end Go.Proofs.Ytgajaccnjjiiaaa
