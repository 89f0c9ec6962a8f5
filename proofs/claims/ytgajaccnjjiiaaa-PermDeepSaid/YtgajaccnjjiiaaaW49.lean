/- perm.Find: the walk. -/
import Derived.Test.YtgajaccnjjiiaaaW48
import Derived.Laws.EntriesVeiled
namespace Go.Proofs.Ytgajaccnjjiiaaa
open Go.RowKit

/-- what is wrong with the two of a search -/
def fE (p q : List Int) : Int := if checkM p = 0 then (if checkM q = 0 then (if 6 < q.length then 2 else 0) else 20) else 20
def findM (p q : List Int) : Option (List Int) := if fE p q = 0 then srch p q q.length [] 0 else none

theorem run_loadVar_slice {P : Program} {w : World} {ty e : TypeId} {a : Addr} {v : Value} (hu : P.underlying ty = some (.slice e)) (hc : w.cell? a = some v) : (loadVar ty a).run P w = .ok v w := by
  have hagg : (isAgg ty).run P w = .ok false w := by
    unfold isAgg
    rw [Sem.run_bind, run_underlying hu w]
    rfl
  simp [loadVar, Sem.run_bind, hagg, go_sem, hc]
theorem ret24 {w : World} {tmps : Array Value} {g : Nat} {x : Value} (hp : tmps.getD 4 undef = .pointer (some ⟨g, 0, none⟩)) (hb : Blk w g 22 [x]) :
    (results Try.f24 tmps).run Try.prog w = .ok (.tuple #[x, tmps.getD 5 undef, tmps.getD 6 undef]) w := by
  have h1 := run_loadVar_slice (P := Try.prog) Try.underlying22 (hb.cell (j := 0) rfl)
  have hp' : tmps[4]?.getD undef = .pointer (some ⟨g, 0, none⟩) := by simpa using hp
  simp [results, Try.f24, Result.andThen, hp', asAddr, h1]

structure FB (w : World) (G : Nat) (pv qv : Value) (W : World) : Prop where
  below : Below G w W
  bp : Blk W G 22 [pv]
  bq : Blk W (G + 1) 22 [qv]
  ba : Blk W (G + 2) 22 [.slice none 0 0]
  br : Blk W (G + 3) 22 [pv, qv]
theorem FB.keep {w W W' : World} {G : Nat} {pv qv : Value} (h : FB w G pv qv W) (hb : Below W.heap.size W W') : FB w G pv qv W' :=
  ⟨h.below.trans (hb.mono (by have := h.bp.lt; omega)), h.bp.keep hb, h.bq.keep hb, h.ba.keep hb, h.br.keep hb⟩
theorem FB.new (w : World) (pv qv : Value) : FB w w.heap.size pv qv ((((w.alloc (.cells #[pv] 22)).alloc (.cells #[qv] 22)).alloc (.cells #[.slice none 0 0] 22)).alloc (.cells #[pv, qv] 22)) := by
  have s1 : (w.alloc (.cells #[pv] 22)).heap.size = w.heap.size + 1 := by simp
  have s2 : ((w.alloc (.cells #[pv] 22)).alloc (.cells #[qv] 22)).heap.size = w.heap.size + 2 := by simp
  have s3 : (((w.alloc (.cells #[pv] 22)).alloc (.cells #[qv] 22)).alloc (.cells #[.slice none 0 0] 22)).heap.size = w.heap.size + 3 := by simp
  have h1 := Blk.new w 22 [pv]
  have h2 := Blk.new (w.alloc (.cells #[pv] 22)) 22 [qv]
  have h3 := Blk.new ((w.alloc (.cells #[pv] 22)).alloc (.cells #[qv] 22)) 22 [.slice none 0 0]
  have h4 := Blk.new (((w.alloc (.cells #[pv] 22)).alloc (.cells #[qv] 22)).alloc (.cells #[.slice none 0 0] 22)) 22 [pv, qv]
  rw [s1] at h2
  rw [s2] at h3
  rw [s3] at h4
  exact ⟨(((((Below.refl w.heap.size w).alloc (Nat.le_refl _) _).alloc (by simp) _).alloc (by simp; omega) _).alloc (by simp; omega) _), ((h1.alloc _).alloc _).alloc _, (h2.alloc _).alloc _, h3.alloc _, h4⟩

theorem FB.toFW {w W : World} {pv qv : Value} (h : FB w w.heap.size pv qv W) :
    FW w w.heap.size W.heap.size pv qv (W.alloc (.cells #[.func (.func 69) #[] #[.pointer (some ⟨w.heap.size + 2, 0, none⟩), .pointer (some ⟨w.heap.size + 1, 0, none⟩), .pointer (some ⟨w.heap.size, 0, none⟩), .pointer (some ⟨W.heap.size, 0, none⟩)]] 62)) (.slice none 0 0) [] := by
  have hlt := h.br.lt
  exact ⟨h.below.alloc (by omega) _, h.bp.alloc _, h.bq.alloc _, h.ba.alloc _, Blk.new W 62 [_], Own.nil _ _ _⟩
theorem FW.done {w : World} {S : Nat} {pv qv : Value} {W : World} {av : Value} {l : List Int} (h : FW w w.heap.size S pv qv W av l) (hS : w.heap.size + 2 < S) : Own W w.heap.size 3 av l := h.own.mono (by omega)

set_option maxRecDepth 100000 in
set_option maxHeartbeats 8000000 in
theorem Find_any (v u : Value) (p q : List Int) (w : World) (hv : Ints w v p) (hu : Ints w u q) :
    Calls Try.prog 24 #[v, u] w fun e w' => ∃ r, e = .returned (.tuple #[r, .bool (findM p q).isSome, .int .i64 (fE p q)]) ∧ Own w' w.heap.size 3 r ((findM p q).getD []) ∧ Below w.heap.size w w' := by
  obtain ⟨ap, n, cp, rfl, HN, hn'⟩ := hv.open
  obtain ⟨aq, m, cq, rfl, HM, hm'⟩ := hu.open
  have hfb := FB.new w (.slice ap n cp) (.slice aq m cq)
  have HFB := Lib.hid hfb
  clear hfb
  go_enter Try.func24, Try.ntmps24
  go_wp2_with fail
  go_loopw [15] (fun i wr => ∃ j : Nat, j ≤ 2 ∧ i = .int .i64 j ∧ Hid (1 ≤ j → checkM p = 0) ∧ Hid (2 ≤ j → checkM q = 0) ∧ Hid (FB w w.heap.size (.slice ap n cp) (.slice aq m cq) wr)) (fun i _ => 2 - (intOf i).toNat)
  case atStart => exact ⟨0, by omega, rfl, fun h => by omega, fun h => by omega, HFB⟩
  case round =>
    obtain ⟨j, hj, rfl, H1, H2, HF⟩ := hrel
    clear HFB
    have c0 := HF.out.br.cell (j := 0) rfl
    have c1 := HF.out.br.cell (j := 1) rfl
    have cq0 := HF.out.bq.cell (j := 0) rfl
    have fa := HF.out.ba.free 0
    have ca := HF.out.ba.cell (j := 0) rfl
    have hsz : w.heap.size ≤ wr.heap.size := by have := HF.out.bp.lt; omega
    have hv1 := hv.below HF.out.below (Nat.le_refl _)
    have hu1 := hu.below HF.out.below (Nat.le_refl _)
    rcases (by omega : j = 0 ∨ j = 1 ∨ j = 2) with rfl | rfl | rfl
    · rcases check_or p with hc | hc
      · have HC := Lib.hid hc
        clear hc
        go_wp2_with (go_at_call 63; refine (check_any _ p _ hv1).mono ?_; rw [HC.out]; rintro e w1 ⟨rfl, hb⟩)
        go_roundw
        case rel => exact ⟨1, by omega, rfl, (show Hid (1 ≤ 1 → checkM p = 0) from fun _ => HC.out), (show Hid (2 ≤ 1 → checkM q = 0) from fun h => by omega), (show Hid (FB _ _ _ _ _) from HF.out.keep hb)⟩
        case measure => simp [intOf]
      · have HC := Lib.hid hc
        have hf : fE p q = 20 := by unfold fE; rw [if_neg (by rw [hc]; decide)]
        have HE := Lib.hid hf
        clear hc hf
        go_wp2_with (go_at_call 63; refine (check_any _ p _ hv1).mono ?_; rw [HC.out]; rintro e w1 ⟨rfl, hb⟩; have fa1 := (HF.out.keep hb).ba.free 0; have ca1 := (HF.out.keep hb).ba.cell (j := 0) rfl)
        have hk := (HF.out.keep hb).ba.set 0 (.slice none 0 0)
        have hfm : findM p q = none := by unfold findM; rw [if_neg (by rw [HE.out]; decide)]
        exact bodyPost_ret (ret24 rfl hk) rfl ⟨_, by rw [hfm, HE.out]; rfl, by rw [hfm]; exact Own.nil _ _ _, (HF.out.keep hb).below.setCell (p := ⟨w.heap.size + 2, 0, none⟩) (by simp) _⟩
    · rcases check_or q with hc | hc
      · have HC := Lib.hid hc
        clear hc
        go_wp2_with (go_at_call 63; refine (check_any _ q _ hu1).mono ?_; rw [HC.out]; rintro e w1 ⟨rfl, hb⟩)
        go_roundw
        case rel => exact ⟨2, by omega, rfl, (show Hid (1 ≤ 2 → checkM p = 0) from fun _ => H1.out (by omega)), (show Hid (2 ≤ 2 → checkM q = 0) from fun _ => HC.out), (show Hid (FB _ _ _ _ _) from HF.out.keep hb)⟩
        case measure => simp [intOf]
      · have HC := Lib.hid hc
        have hf : fE p q = 20 := by unfold fE; rw [if_pos (H1.out (by omega)), if_neg (by rw [hc]; decide)]
        have HE := Lib.hid hf
        clear hc hf
        go_wp2_with (go_at_call 63; refine (check_any _ q _ hu1).mono ?_; rw [HC.out]; rintro e w1 ⟨rfl, hb⟩; have fa1 := (HF.out.keep hb).ba.free 0; have ca1 := (HF.out.keep hb).ba.cell (j := 0) rfl)
        have hk := (HF.out.keep hb).ba.set 0 (.slice none 0 0)
        have hfm : findM p q = none := by unfold findM; rw [if_neg (by rw [HE.out]; decide)]
        exact bodyPost_ret (ret24 rfl hk) rfl ⟨_, by rw [hfm, HE.out]; rfl, by rw [hfm]; exact Own.nil _ _ _, (HF.out.keep hb).below.setCell (p := ⟨w.heap.size + 2, 0, none⟩) (by simp) _⟩
    · by_cases h6 : 6 < m
      · have hf : fE p q = 2 := by unfold fE; rw [if_pos (H1.out (by omega)), if_pos (H2.out (by omega)), if_pos (by rw [HM.out]; exact h6)]
        have h6i : (6 : Int) < m := by omega
        have HE := Lib.hid hf
        clear hf
        go_wp2_with fail
        have hk := HF.out.ba.set 0 (.slice none 0 0)
        have hfm : findM p q = none := by unfold findM; rw [if_neg (by rw [HE.out]; decide)]
        exact bodyPost_ret (ret24 rfl hk) rfl ⟨_, by rw [hfm, HE.out]; rfl, by rw [hfm]; exact Own.nil _ _ _, HF.out.below.setCell (p := ⟨w.heap.size + 2, 0, none⟩) (by simp) _⟩
      · have hf : fE p q = 0 := by unfold fE; rw [if_pos (H1.out (by omega)), if_pos (H2.out (by omega)), if_neg (by rw [HM.out]; exact h6)]
        have h6i : ¬ (6 : Int) < m := by omega
        have hp60 := (check_zero (H1.out (by omega))).2.1
        have hq60 := (check_zero (H2.out (by omega))).2.1
        have hS : w.heap.size + 2 < wr.heap.size := by have := HF.out.br.lt; omega
        have hsr : ∀ W, FW w w.heap.size wr.heap.size (.slice ap n cp) (.slice aq m cq) W (.slice none 0 0) [] →
            Calls Try.prog 69 #[.int .i64 0, .pointer (some ⟨w.heap.size + 2, 0, none⟩), .pointer (some ⟨w.heap.size + 1, 0, none⟩), .pointer (some ⟨w.heap.size, 0, none⟩), .pointer (some ⟨wr.heap.size, 0, none⟩)] W
              fun e w' => ∃ av', e = .returned (.bool (srch p q q.length [] 0).isSome) ∧ FW w w.heap.size wr.heap.size (.slice ap n cp) (.slice aq m cq) w' av' ((srch p q q.length [] 0).getD []) :=
          fun W hF => search_any w w.heap.size wr.heap.size _ _ p q rfl hS hv hu hp60 hq60 q.length [] 0 (.slice none 0 0) W (by simp) (Nat.zero_le _) (by simp) hF
        have hfm : findM p q = srch p q q.length [] 0 := by unfold findM; rw [if_pos hf]
        have HE := Lib.hid hf
        have HFM := Lib.hid hfm
        clear hf hfm hp60 hq60
        rcases hr : srch p q q.length [] 0 with _ | l
        all_goals
          rw [hr] at hsr
          have HRR := Lib.hid hr
          have HSR := Lib.hid hsr
          have HSS := Lib.hid hS
          clear hr hsr hS
        · go_wp2_with (go_at_call 69; refine (HSR.out _ HF.out.toFW).mono ?_; rintro e w4 ⟨av4, rfl, hF4⟩; have fa4 := hF4.ba.free 0; have ca4 := hF4.ba.cell (j := 0) rfl)
          have hk := hF4.ba.set 0 (.slice none 0 0)
          exact bodyPost_ret (ret24 rfl hk) rfl ⟨_, by rw [HFM.out, HRR.out, HE.out]; rfl, by rw [HFM.out, HRR.out]; exact Own.nil _ _ _, hF4.below.setCell (p := ⟨w.heap.size + 2, 0, none⟩) (by simp) _⟩
        · go_wp2_with (go_at_call 69; refine (HSR.out _ HF.out.toFW).mono ?_; rintro e w4 ⟨av4, rfl, hF4⟩; obtain ⟨a4, c4, rfl⟩ := hF4.own.shape rfl; have fa4 := hF4.ba.free 0; have ca4 := hF4.ba.cell (j := 0) rfl)
          have hF5 := hF4.put HSS.out hF4.own
          exact bodyPost_ret (ret24 rfl hF5.ba) rfl ⟨_, by rw [HFM.out, HRR.out, HE.out]; rfl, by rw [HFM.out, HRR.out]; exact hF5.done HSS.out, hF5.below⟩
end Go.Proofs.Ytgajaccnjjiiaaa
