/- Whether a tree has a simple node: the walk. -/
import Derived.Test.YtgajaccnjjiiaaaL2
import Derived.Test.YtgajaccnjjiiaaaW17
namespace Go.Proofs.Ytgajaccnjjiiaaa
open Go.RowKit

theorem any_take {α : Type} (l : List α) (f : α → Bool) {j : Nat} {x : α} (h : l[j]? = some x) : (l.take (j + 1)).any f = ((l.take j).any f || f x) := by
  rw [List.take_add_one, h]; simp

set_option maxHeartbeats 2000000 in
theorem simple_any : ∀ (d : Nat) (v : Value) (t : TM) (w : World) (ok : Nat → Prop), TreeAt w ok v t → DeepAt d t →
    Calls Try.prog 26 #[v] w fun e w' => e = .returned (.bool (simpleF d t)) ∧ Below w.heap.size w w' := by
  intro d
  induction d with
  | zero => intro v t w ok _ h; exact h.elim
  | succ d ih =>
    intro v t w ok hat hdp
    cases hat with
    | mk k pv perm a n cap parts f hp hpo hn hnc hcap hcells hsub =>
      obtain ⟨a2, cap2, rfl, _, _⟩ := hp
      have HS := Lib.hid hsub
      have HC := Lib.hid hcells
      have HN := Lib.hid hn
      have HD := Lib.hid hdp
      have IH := Lib.hid ih
      clear hsub hcells hn hpo hdp ih
      go_enter Try.func26, Try.ntmps26
      go_wp2_with fail
      go_loopw [3, 4] (fun u i wr => ∃ j : Nat, j ≤ n ∧ i = .int .i64 j ∧ u = .bool (k == 3 || (parts.take j).any (simpleF d)) ∧ Blk wr w.heap.size 41 [.int .i64 k, .slice a2 perm.length cap2, .slice a n cap] ∧ Below w.heap.size w wr) (fun _ i _ => n - (intOf i).toNat)
      case atStart => exact ⟨0, by omega, rfl, by simp, Blk.new w 41 _, (Below.refl _ _).alloc (Nat.le_refl _) _⟩
      case round =>
        obtain ⟨j, hj, rfl, rfl, hblk, hB⟩ := hrel
        have hsz := hB.size
        have c2 := hblk.cell (j := 2) rfl
        by_cases hlt : j < n
        · obtain ⟨t, ht⟩ : ∃ t, parts[j]? = some t := ⟨parts[j]'(by rw [HN.out]; exact hlt), List.getElem?_eq_getElem _⟩
          obtain ⟨b, o, rfl, hbl, hok, hcs⟩ := HC.out (by omega)
          obtain ⟨d0, d1, d2⟩ := hcs j hlt
          have e0 := (hB.cell (p := ⟨b, o + j * 3, none⟩) hbl).trans d0
          have e1 := (hB.cell (p := ⟨b, o + j * 3 + 1, none⟩) hbl).trans d1
          have e2 := (hB.cell (p := ⟨b, o + j * 3 + 2, none⟩) hbl).trans d2
          clear d0 d1 d2 hcs
          have hnx := any_take parts (simpleF d) ht
          have hda : DeepAt d t := by
            have := HD.out
            rw [DeepAt] at this
            exact this t (List.mem_of_getElem? ht)
          have htr : TreeAt wr ok (.agg #[.int .i64 (f j).1, (f j).2.1, (f j).2.2]) t := (HS.out j t ht).kept hsz (fun b hb hlt => ⟨hb, hB.block b hlt⟩)
          generalize hbb : (k == 3 || (parts.take j).any (simpleF d)) = bb
          have HNX : Hid ((k == 3 || (parts.take (j + 1)).any (simpleF d)) = (bb || simpleF d t)) := by show _ = _; rw [hnx, ← hbb, Bool.or_assoc]
          have HBB := Lib.hid hbb
          have HTR := Lib.hid htr
          have HDA := Lib.hid hda
          clear hnx hbb htr hda ht
          generalize (f j).1 = x0 at *
          generalize (f j).2.1 = x1 at *
          generalize (f j).2.2 = x2 at *
          cases bb
          · go_wp2_with (go_at_call 26; refine (IH.out _ t _ ok HTR.out HDA.out).mono ?_; rintro e w3 ⟨rfl, hb3⟩)
            exact ⟨⟨j + 1, by omega, by go_num, by rw [HNX.out]; rfl, hblk.keep hb3, hB.trans (hb3.mono hsz)⟩, by simp [intOf]; omega⟩
          · go_wp2_with fail
            exact ⟨⟨j + 1, by omega, by go_num, by rw [HNX.out]; rfl, hblk, hB⟩, by simp [intOf]; omega⟩
        · obtain rfl : j = n := by omega
          have hfin : simpleF (d + 1) (.mk k perm parts) = (k == 3 || (parts.take j).any (simpleF d)) := by rw [simpleF, List.take_of_length_le (by rw [HN.out]; exact Nat.le_refl _)]
          have HF := Lib.hid hfin
          clear hfin
          generalize (k == 3 || (parts.take j).any (simpleF d)) = bb at *
          go_wp2_with fail
          go_ret
          exact ⟨by rw [HF.out]; rfl, hB⟩
end Go.Proofs.Ytgajaccnjjiiaaa
