/- The reference's Check: the walk. -/
import Derived.Test.YtgajaccnjjiiaaaW18
import Derived.Test.YtgajaccnjjiiaaaBs
import Derived.StillTailTactics
import Derived.OrdersIn
import Derived.TacticsIn
namespace Go.Proofs.Ytgajaccnjjiiaaa
open Go.RowKit

theorem checkM_or (p : List Int) : checkM p = 0 ∨ checkM p = 20 := by
  unfold checkM
  split
  · exact .inr rfl
  · split
    · exact .inr rfl
    · split
      · exact .inl rfl
      · exact .inr rfl
theorem checkM_twice {p : List Int} {k : Nat} {x : Int} (hx : p[k]? = some x) (hm : x ∈ p.take k) : checkM p = 20 := by
  rcases checkM_or p with h | h
  · exfalso
    have hn := ((checkM_iff p).1 h).2.2
    have h1 : (p.take (k + 1)).Nodup := hn.sublist (List.take_sublist _ _)
    rw [take_snoc' hx, List.nodup_append] at h1
    exact h1.2.2 x hm x (by simp) rfl
  · exact h
theorem seen_next {p : List Int} {k m : Nat} (hx : p[k]? = some (m : Int)) :
    (fun i : Nat => if i = m then true else decide ((i : Int) ∈ p.take k)) = fun i : Nat => decide ((i : Int) ∈ p.take (k + 1)) := by
  funext i
  rw [take_snoc' hx]
  by_cases e : i = m
  · subst e; simp
  · have : ¬ (i : Int) = (m : Int) := by omega
    simp [e, this]

set_option maxRecDepth 100000 in
set_option maxHeartbeats 2000000 in
theorem rCheck_any (v : Value) (p : List Int) (w : World) (hv : Ints w v p) :
    Calls Try.prog 62 #[v] w fun e w' => e = .returned (.int .i64 (checkM p)) ∧ Below w.heap.size w w' := by
  obtain ⟨ad, n, cap, rfl, HN, hn'⟩ := hv.open
  by_cases h1 : n < 1
  · obtain rfl : n = 0 := by omega
    have hc : checkM p = 20 := by unfold checkM; rw [HN.out]; simp
    have HC := Lib.hid hc; clear hc
    clear h1 hn'
    go_enter Try.func62, Try.ntmps62
    go_wp2_with fail
    go_ret
    exact ⟨ret_eq HC.out, Below.refl _ _⟩
  by_cases h2 : 60 < n
  · have hc : checkM p = 20 := by unfold checkM; rw [HN.out, if_pos (.inr h2)]
    have HC := Lib.hid hc; clear hc
    go_enter Try.func62, Try.ntmps62
    go_wp2_with fail
    go_ret
    exact ⟨ret_eq HC.out, Below.refl _ _⟩
  · go_enter Try.func62, Try.ntmps62
    go_wp2_with (at_make; refine wpList_makeV Try.infoB Try.underlying114 rfl rfl _ _ rfl n rfl rfl (by omega) (by omega) (by omega) (by omega) ?_; intro w1 hb1 hB1 hs1)
    rw [rowBs_false n, show (fun _ : Nat => false) = fun i : Nat => decide ((i : Int) ∈ p.take 0) by funext i; simp] at hb1
    go_loopw [4] (fun i wr => ∃ k : Nat, k ≤ n ∧ i = .int .i64 k ∧ Hid (Blk wr w.heap.size 4 (rowBs n (fun i => decide ((i : Int) ∈ p.take k)))) ∧ Below w.heap.size w wr ∧ Hid (∀ x ∈ p.take k, 0 ≤ x ∧ x < n) ∧ Hid ((p.take k).Nodup)) (fun i _ => n - (intOf i).toNat)
    case atStart => exact ⟨0, by omega, rfl, hb1, hB1, (show Hid (∀ x ∈ p.take 0, 0 ≤ x ∧ x < n) from fun x hx => by simp at hx), (show Hid ((p.take 0).Nodup) by show (p.take 0).Nodup; simp)⟩
    case round =>
      clear hb1 hs1 hB1
      obtain ⟨k, hk, rfl, HB, hB, HR, HD⟩ := hrel
      by_cases hlt : k < n
      · obtain ⟨B, o, x, rfl, hx, c1⟩ := (hv.below hB (Nat.le_refl _)).at_ hlt
        by_cases hx0 : x < 0
        · have hc : checkM p = 20 := check_out HN.out (List.mem_of_getElem? hx.out) (.inl hx0)
          have HC := Lib.hid hc; clear hc
          go_wp2_with fail
          go_ret
          exact ⟨ret_eq HC.out, hB⟩
        · by_cases hx1 : n ≤ x
          · have hc : checkM p = 20 := check_out HN.out (List.mem_of_getElem? hx.out) (.inr hx1)
            have HC := Lib.hid hc; clear hc
            go_wp2_with fail
            go_ret
            exact ⟨ret_eq HC.out, hB⟩
          · obtain ⟨m, rfl⟩ := Int.eq_ofNat_of_zero_le (Int.not_lt.1 hx0)
            have hm : m < n := by omega
            have hmi : (m : Int) < n := by omega
            clear hx0 hx1
            have c2 := HB.out.cell (rowBs_get (fun i => decide ((i : Int) ∈ p.take k)) hm)
            have f2 := HB.out.free m
            by_cases hin : (m : Int) ∈ p.take k
            · have hc : checkM p = 20 := checkM_twice hx.out hin
              rw [decide_eq_true hin] at c2
              have HC := Lib.hid hc; clear hc hin
              go_wp2_with fail
              go_ret
              exact ⟨ret_eq HC.out, hB⟩
            · rw [decide_eq_false hin] at c2
              have HI := Lib.hid hin
              clear hin
              go_wp2_with fail
              go_roundw
              case rel =>
                refine ⟨k + 1, by omega, by go_num, ?_, hB.setCell (Nat.le_refl _) _, ?_, ?_⟩
                · show Hid _
                  have h := HB.out.set m (.bool true)
                  rw [rowBs_set, seen_next hx.out] at h
                  exact h
                · show Hid _
                  intro x hxm
                  rw [take_snoc' hx.out, List.mem_append, List.mem_singleton] at hxm
                  rcases hxm with h | rfl
                  · exact HR.out x h
                  · omega
                · show (p.take (k + 1)).Nodup
                  rw [take_snoc' hx.out, List.nodup_append]
                  refine ⟨HD.out, by simp, fun a ha b hb => ?_⟩
                  obtain rfl := List.mem_singleton.1 hb
                  rintro rfl
                  exact HI.out ha
              case measure => simp [intOf]; omega
      · obtain rfl : k = n := by omega
        have hc : checkM p = 0 := by
          have ht : p.take k = p := List.take_of_length_le (by rw [HN.out]; omega)
          refine (checkM_iff p).2 ⟨by rw [HN.out]; omega, ?_, ?_⟩
          · have := HR.out; rw [ht] at this; rw [HN.out]; exact this
          · have := HD.out; rw [ht] at this; exact this
        have HC := Lib.hid hc; clear hc
        go_wp2_with fail
        go_ret
        exact ⟨ret_eq HC.out, hB⟩
end Go.Proofs.Ytgajaccnjjiiaaa
