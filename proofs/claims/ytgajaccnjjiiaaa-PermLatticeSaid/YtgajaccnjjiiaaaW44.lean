/- The reference's closed and ordered: the walks. -/
import Derived.Test.YtgajaccnjjiiaaaW43
import Derived.Test.YtgajaccnjjiiaaaW41
namespace Go.Proofs.Ytgajaccnjjiiaaa
open Go.RowKit Go.BigFrame

theorem upd_same (T : Nat → Nat → Bool) (a b : Nat) : upd T a b (T a b) = T := by
  funext i j
  unfold upd
  split
  · rename_i h; rw [h.1, h.2]
  · rfl

set_option maxRecDepth 100000 in
set_option maxHeartbeats 4000000 in
theorem closed_any (g n : Nat) (T : Nat → Nat → Bool) (w : World) (ht : Tab w g n T) (hn : n ≤ 60) :
    Calls Try.prog 96 #[.slice (some ⟨g, 0, none⟩) n n] w fun e w' => e = .returned (.slice (some ⟨g, 0, none⟩) n n) ∧ Tab w' g n (cl1 T n n) ∧ Below g w w' := by
  have HT := Lib.hid ht
  clear ht
  go_enter Try.func96, Try.ntmps96
  go_wp2_with fail
  go_loopw [3] (fun i wr => ∃ b : Nat, b ≤ n ∧ i = .int .i64 b ∧ Hid (Tab wr g n (cl1 T n b)) ∧ Below g w wr) (fun i _ => n - (intOf i).toNat)
  case atStart => exact ⟨0, by omega, rfl, HT, Below.refl _ _⟩
  case round =>
    clear HT
    obtain ⟨b, hb, rfl, HT, hB⟩ := hrel
    by_cases hlb : b < n
    · go_wp2_with fail
      go_loopw [4] (fun i wx => ∃ a : Nat, a ≤ n ∧ i = .int .i64 a ∧ Hid (Tab wx g n (cl2 (cl1 T n b) n b a)) ∧ Below g w wx) (fun i _ => n - (intOf i).toNat)
      case atStart => exact ⟨0, by omega, rfl, HT, hB⟩
      case round =>
        clear HT hB
        obtain ⟨a, ha, rfl, HT, hB⟩ := hrel
        by_cases hla : a < n
        · go_wp2_with fail
          go_loopw [5] (fun i wy => ∃ c : Nat, c ≤ n ∧ i = .int .i64 c ∧ Hid (Tab wy g n (cl3 (cl2 (cl1 T n b) n b a) b a c)) ∧ Below g w wy) (fun i _ => n - (intOf i).toNat)
          case atStart => exact ⟨0, by omega, rfl, HT, hB⟩
          case round =>
            clear HT hB
            obtain ⟨c, hc, rfl, HT, hB⟩ := hrel
            by_cases hlc : c < n
            · have hstep : cl3 (cl2 (cl1 T n b) n b a) b a (c + 1) = upd (cl3 (cl2 (cl1 T n b) n b a) b a c) a c (cl3 (cl2 (cl1 T n b) n b a) b a c a c || (cl3 (cl2 (cl1 T n b) n b a) b a c a b && cl3 (cl2 (cl1 T n b) n b a) b a c b c)) := rfl
              generalize cl3 (cl2 (cl1 T n b) n b a) b a c = S at *
              have HSTEP := Lib.hid hstep
              clear hstep
              have r1 := HT.out.row hla
              have r2 := HT.out.row hlb
              have c1 := HT.out.cell hla hlb
              have c2 := HT.out.cell hlb hlc
              have c3 := HT.out.cell hla hlc
              have f3 := HT.out.free hla c
              generalize h1 : S a b = b1 at *
              generalize h2 : S b c = b2 at *
              have H1 := Lib.hid h1
              have H2 := Lib.hid h2
              clear h1 h2
              cases b1
              · go_wp2_with fail
                go_roundw
                case rel =>
                  refine ⟨c + 1, by omega, by go_num, ?_, hB⟩
                  show Hid _
                  rw [HSTEP.out, Bool.false_and, Bool.or_false, upd_same]
                  exact HT.out
                case measure => simp [intOf]; omega
              · cases b2
                · go_wp2_with fail
                  go_roundw
                  case rel =>
                    refine ⟨c + 1, by omega, by go_num, ?_, hB⟩
                    show Hid _
                    rw [HSTEP.out, Bool.and_false, Bool.or_false, upd_same]
                    exact HT.out
                  case measure => simp [intOf]; omega
                · go_wp2_with fail
                  go_roundw
                  case rel =>
                    refine ⟨c + 1, by omega, by go_num, ?_, hB.setCell (p := ⟨g + 1 + a, c, none⟩) (by simp; omega) _⟩
                    show Hid _
                    rw [HSTEP.out, Bool.and_true, Bool.or_true]
                    exact HT.out.set hla c true
                  case measure => simp [intOf]; omega
            · obtain rfl : c = n := by omega
              go_wp2_with fail
              go_roundw
              case rel => exact ⟨a + 1, by omega, by go_num, HT, hB⟩
              case measure => simp [intOf]; omega
        · obtain rfl : a = n := by omega
          go_wp2_with fail
          go_roundw
          case rel => exact ⟨b + 1, by omega, by go_num, HT, hB⟩
          case measure => simp [intOf]; omega
    · obtain rfl : b = n := by omega
      go_wp2_with fail
      go_ret
      exact ⟨rfl, HT.out, hB⟩

set_option maxRecDepth 100000 in
set_option maxHeartbeats 8000000 in
theorem rordered_any (g n : Nat) (T : Nat → Nat → Bool) (w : World) (ht : Tab w g n T) (hg : g + n < w.heap.size) (hn : n ≤ 60) :
    Calls Try.prog 95 #[.slice (some ⟨g, 0, none⟩) n n] w fun e w' => ∃ u, e = .returned u ∧ Own w' w.heap.size 3 u (ordTo T n) ∧ Below w.heap.size w w' := by
  go_enter Try.func95, Try.ntmps95
  go_wp2_with fail
  go_loopw [3, 4] (fun u i wr => ∃ k : Nat, k ≤ n ∧ i = .int .i64 k ∧ Own wr w.heap.size 3 u (ordTo T k) ∧ Hid (k = 0 → u = .slice none 0 0) ∧ Below w.heap.size w wr) (fun _ i _ => n - (intOf i).toNat)
  case atStart => exact ⟨0, by omega, rfl, Own.nil _ _ _, (show Hid (0 = 0 → (Value.slice none 0 0) = .slice none 0 0) from fun _ => rfl), Below.refl _ _⟩
  case round =>
    obtain ⟨k, hk, rfl, hown, HNIL, hB⟩ := hrel
    have hsz := hB.size
    have htr := ht.below hB hg
    by_cases hlt : k < n
    · have r1 := htr.row hlt
      rcases (by omega : k = 0 ∨ 0 < k) with rfl | hk0
      · obtain rfl := HNIL.out rfl
        · have hd : decide ((0 : Int) < (0 : Int)) = false := by simp
          have hone : ordTo T 1 = [(0 : Int)] := rfl
          have HONE := Lib.hid hone
          clear hone hown
          go_wp2_with fail
          go_loopw [5] (fun t wx => t = .int .i64 0 ∧ ∃ q, wx = wr.drewN q) (fun _ _ => 0)
          case atStart => exact ⟨rfl, 0, rfl⟩
          case round =>
            obtain ⟨rfl, q, rfl⟩ := hrel
            go_wp2_with fail
            go_quiet (fail)
            go_wp2_with (first
              | (at_builtin; refine wpList_app1 Try.info3 Try.underlying22 (Own.nil _ w.heap.size 3) (by exact hsz) (by simp) rfl _ _ rfl rfl rfl ?_; intro v3 w3 hown3 hgrow3 hb3 hsh3; have hz3 : w.heap.size ≤ w3.heap.size := Nat.le_trans hsz (by exact hgrow3.size))
              | (at_builtin; refine wpList_appS (sv := .slice none 0 0) (ys := []) Try.info3 Try.underlying22 hown3 hz3 (by simp) rfl _ _ rfl rfl rfl (Ints.nil _) (by simp) (by simp) ?_; intro v4 w4 hown4 hgrow4 hb4))
            have hfin : Own w4 w.heap.size 3 v4 (ordTo T 1) := by rw [HONE.out]; simpa using hown4
            have hBf : Below w.heap.size w w4 := ((hB.drewN' _).trans hb3).trans hb4
            go_roundw
            case rel => exact ⟨1, by omega, rfl, hfin, (show Hid (1 = 0 → v4 = .slice none 0 0) from fun h => by omega), hBf⟩
            case measure => simp [intOf]; omega
      · obtain ⟨g5, c5, rfl, hg5, hg5', hfz5, hcs5⟩ := Own.open hown (ordTo_len T k) hk0
        obtain ⟨hcap, hcap2⟩ := (Own.ints hown).cap_
        have HCS := Lib.hid hcs5
        clear hfz5 hcs5
        have hsubA : ∀ m, m ≤ k → ∀ W, Own W w.heap.size 3 (.slice (some ⟨g5, 0, none⟩) k c5) (ordTo T k) → Ints W (.slice (some ⟨g5, 0, none⟩) m c5) ((ordTo T k).take m) := by
          intro m hm W h
          by_cases h0 : 0 < m
          · have := (Own.ints h).sub (i := 0) (j := m) h0 hm
            simpa using this
          · have e : ((ordTo T k).take m).length = m := by rw [List.length_take, ordTo_len]; omega
            refine ⟨some ⟨g5, 0, none⟩, c5, by rw [e], by rw [e]; omega, fun h => ?_⟩
            rw [e] at h; omega
        have HSAA := Lib.hid hsubA
        clear hsubA
        have hk60 : (k : Int) < n := by omega
        go_wp2_with fail
        go_loopw [5] (fun t wx => ∃ m : Nat, m ≤ k ∧ t = .int .i64 m ∧ Hid (∀ (j : Nat) (x : Int), j < m → (ordTo T k)[j]? = some x → T k x.toNat = false) ∧ ∃ q, wx = wr.drewN q) (fun t _ => k - (intOf t).toNat)
        case atStart => exact ⟨0, by omega, rfl, (show Hid (∀ (j : Nat) (x : Int), j < 0 → (ordTo T k)[j]? = some x → T k x.toNat = false) from fun j x h => by omega), 0, rfl⟩
        case round =>
          obtain ⟨m, hm1, rfl, HJ, q, rfl⟩ := hrel
          have HINS := Lib.hid (fun (h2 : ∀ x, (ordTo T k)[m]? = some x → T k x.toNat = true) => (by rw [ordTo, findIdx_is (by rw [ordTo_len]; exact hm1) HJ.out h2] : insM (ordTo T k) m (k : Int) = ordTo T (k + 1)))
          have HSA := Lib.hid (HSAA.out m hm1)
          by_cases hlm : m < k
          · have hd : decide ((m : Int) < (k : Int)) = true := by simp; exact hlm
            obtain ⟨x, hx⟩ := get_of_lt (zs := ordTo T k) (k := m) (by rw [ordTo_len]; exact hlm)
            have hcx := HCS.out m x hx
            obtain ⟨x0, x1⟩ := ordTo_mem T k x (List.mem_of_getElem? hx)
            obtain ⟨y, rfl⟩ := Int.eq_ofNat_of_zero_le x0
            have hyn : (y : Int) < n := by omega
            have hcell := htr.cell hlt (j := y) (by omega)
            have HX := Lib.hid hx
            clear hx
            generalize hbb : T k y = bb at *
            have HBB := Lib.hid hbb
            clear hbb
            cases bb
            · go_wp2_with fail
              go_quiet (fail)
              go_wp2_with fail
              go_roundw
              case rel =>
                refine ⟨m + 1, by omega, by go_num, ?_, _, rfl⟩
                show Hid _
                intro j z hj hz
                by_cases e : j = m
                · subst e
                  rw [HX.out] at hz
                  cases hz
                  exact HBB.out
                · exact HJ.out j z (by omega) hz
              case measure => simp [intOf]; omega
            · have HSB := Lib.hid (fun (W : World) (h : Own W w.heap.size 3 (.slice (some ⟨g5, 0, none⟩) k c5) (ordTo T k)) => (by
                have := (Own.ints h).sub (i := m) (j := k) hlm (Nat.le_refl _)
                rw [List.take_of_length_le (by rw [ordTo_len]; exact Nat.le_refl _)] at this
                simpa using this : Ints W (.slice (some ⟨g5, m, none⟩) (k - m) (c5 - m)) ((ordTo T k).drop m)))
              have H2 := Lib.hid (HINS.out (fun z hz => by rw [HX.out] at hz; cases hz; exact HBB.out))
              have hcm : ¬ c5 = m := by omega
              have hmc : (m : Int) ≤ c5 := by omega
              go_wp2_with fail
              go_quiet (fail)
              go_wp2_with (first
                | (at_builtin; refine wpList_appS (sv := .slice (some ⟨g5, 0, none⟩) m c5) (ys := (ordTo T k).take m) Try.info3 Try.underlying22 (Own.nil _ wr.heap.size 3) (by exact Nat.le_refl _) (by simp) rfl _ _ rfl rfl rfl (HSA.out _ (by exact hown)) (by simp) (by rw [List.length_take, ordTo_len]; omega) ?_; intro v4 w4 hown4 hgrow4 hb4; have hz4 : wr.heap.size ≤ w4.heap.size := (by exact hb4.size); have hL4 := (World.ownsRow.keep (w := wr.drewN (q + nq)) (w' := w4) (by exact hown) (by exact hb4) : Own w4 w.heap.size 3 (.slice (some ⟨g5, 0, none⟩) k c5) (ordTo T k)))
                | (at_builtin; refine wpList_app1 Try.info3 Try.underlying22 hown4 hz4 (by simp [ordTo_len]; omega) rfl _ _ rfl rfl rfl ?_; intro v5 w5 hown5 hgrow5 hb5 hsh5; have hz5 : w4.heap.size ≤ w5.heap.size := hgrow5.size; have hL5 : Own w5 w.heap.size 3 (.slice (some ⟨g5, 0, none⟩) k c5) (ordTo T k) := Own.kept hL4 hgrow5 (fun g' h1 h2 => (by rw [ob_some] at h1; cases h1; have := hown4.ob _ h2; omega)))
                | (at_builtin; refine wpList_appS (sv := .slice (some ⟨g5, m, none⟩) (k - m) (c5 - m)) (ys := (ordTo T k).drop m) Try.info3 Try.underlying22 hown5 (by omega) (by simp [ordTo_len]; omega) rfl _ _ rfl rfl rfl (HSB.out _ hL5) (by simp) (by rw [List.length_drop, ordTo_len]; omega) ?_; intro v6 w6 hown6 hgrow6 hb6))
              have hfin : Own w6 w.heap.size 3 v6 (ordTo T (k + 1)) := by
                rw [← H2.out, insM]
                have h := Own.mono hown6 hsz
                simpa using h
              have hBf : Below w.heap.size w w6 := (((hB.drewN' _).trans (hb4.mono hsz)).trans (hb5.mono hsz)).trans (hb6.mono hsz)
              go_roundw
              case rel => exact ⟨k + 1, by omega, by go_num, hfin, (show Hid (k + 1 = 0 → v6 = .slice none 0 0) from fun h => by omega), hBf⟩
              case measure => simp [intOf]; omega
          · obtain rfl : m = k := by omega
            have hd : decide ((m : Int) < (m : Int)) = false := by simp
            have HD := Lib.hid (fun (c : Nat) (o : Nat) (hc : c ≤ 9223372036854775807) (W : World) => (by
              have e : ((ordTo T m).drop m).length = 0 := by rw [List.length_drop, ordTo_len]; omega
              exact ⟨some ⟨g5, o, none⟩, c, by rw [e], by rw [e]; omega, fun h => by rw [e] at h; omega⟩ : Ints W (.slice (some ⟨g5, o, none⟩) 0 c) ((ordTo T m).drop m)))
            have H2 := Lib.hid (HINS.out (fun z hz => by rw [List.getElem?_eq_none (by rw [ordTo_len]; exact Nat.le_refl _)] at hz; cases hz))
            by_cases hcm : c5 = m
            · subst hcm
              go_wp2_with fail
              go_quiet (fail)
              go_wp2_with (first
                | (at_builtin; refine wpList_appS (sv := .slice (some ⟨g5, 0, none⟩) c5 c5) (ys := (ordTo T c5).take c5) Try.info3 Try.underlying22 (Own.nil _ wr.heap.size 3) (by exact Nat.le_refl _) (by simp) rfl _ _ rfl rfl rfl (HSA.out _ (by exact hown)) (by simp) (by rw [List.length_take, ordTo_len]; omega) ?_; intro v4 w4 hown4 hgrow4 hb4; have hz4 : wr.heap.size ≤ w4.heap.size := (by exact hb4.size); have hL4 := (World.ownsRow.keep (w := wr.drewN (q + nq)) (w' := w4) (by exact hown) (by exact hb4) : Own w4 w.heap.size 3 (.slice (some ⟨g5, 0, none⟩) c5 c5) (ordTo T c5)))
                | (at_builtin; refine wpList_app1 Try.info3 Try.underlying22 hown4 hz4 (by simp [ordTo_len]; omega) rfl _ _ rfl rfl rfl ?_; intro v5 w5 hown5 hgrow5 hb5 hsh5; have hz5 : w4.heap.size ≤ w5.heap.size := hgrow5.size; have hL5 : Own w5 w.heap.size 3 (.slice (some ⟨g5, 0, none⟩) c5 c5) (ordTo T c5) := Own.kept hL4 hgrow5 (fun g' h1 h2 => (by rw [ob_some] at h1; cases h1; have := hown4.ob _ h2; omega)))
                | (at_builtin; refine wpList_appS (sv := .slice (some ⟨g5, 0, none⟩) 0 0) (ys := (ordTo T c5).drop c5) Try.info3 Try.underlying22 hown5 (by omega) (by simp [ordTo_len]; omega) rfl _ _ rfl rfl rfl (HD.out 0 0 (by omega) _) (by simp) (by rw [List.length_drop, ordTo_len]; omega) ?_; intro v6 w6 hown6 hgrow6 hb6))
              have hfin : Own w6 w.heap.size 3 v6 (ordTo T (c5 + 1)) := by
                rw [← H2.out, insM]
                have h := Own.mono hown6 hsz
                simpa using h
              have hBf : Below w.heap.size w w6 := (((hB.drewN' _).trans (hb4.mono hsz)).trans (hb5.mono hsz)).trans (hb6.mono hsz)
              go_roundw
              case rel => exact ⟨c5 + 1, by omega, by go_num, hfin, (show Hid (c5 + 1 = 0 → v6 = .slice none 0 0) from fun h => by omega), hBf⟩
              case measure => simp [intOf]; omega
            · have hmc : (m : Int) ≤ c5 := by omega
              go_wp2_with fail
              go_quiet (fail)
              go_wp2_with (first
                | (at_builtin; refine wpList_appS (sv := .slice (some ⟨g5, 0, none⟩) m c5) (ys := (ordTo T m).take m) Try.info3 Try.underlying22 (Own.nil _ wr.heap.size 3) (by exact Nat.le_refl _) (by simp) rfl _ _ rfl rfl rfl (HSA.out _ (by exact hown)) (by simp) (by rw [List.length_take, ordTo_len]; omega) ?_; intro v4 w4 hown4 hgrow4 hb4; have hz4 : wr.heap.size ≤ w4.heap.size := (by exact hb4.size); have hL4 := (World.ownsRow.keep (w := wr.drewN (q + nq)) (w' := w4) (by exact hown) (by exact hb4) : Own w4 w.heap.size 3 (.slice (some ⟨g5, 0, none⟩) m c5) (ordTo T m)))
                | (at_builtin; refine wpList_app1 Try.info3 Try.underlying22 hown4 hz4 (by simp [ordTo_len]; omega) rfl _ _ rfl rfl rfl ?_; intro v5 w5 hown5 hgrow5 hb5 hsh5; have hz5 : w4.heap.size ≤ w5.heap.size := hgrow5.size; have hL5 : Own w5 w.heap.size 3 (.slice (some ⟨g5, 0, none⟩) m c5) (ordTo T m) := Own.kept hL4 hgrow5 (fun g' h1 h2 => (by rw [ob_some] at h1; cases h1; have := hown4.ob _ h2; omega)))
                | (at_builtin; refine wpList_appS (sv := .slice (some ⟨g5, m, none⟩) 0 (c5 - m)) (ys := (ordTo T m).drop m) Try.info3 Try.underlying22 hown5 (by omega) (by simp [ordTo_len]; omega) rfl _ _ rfl rfl rfl (HD.out (c5 - m) m (by omega) _) (by simp) (by rw [List.length_drop, ordTo_len]; omega) ?_; intro v6 w6 hown6 hgrow6 hb6))
              have hfin : Own w6 w.heap.size 3 v6 (ordTo T (m + 1)) := by
                rw [← H2.out, insM]
                have h := Own.mono hown6 hsz
                simpa using h
              have hBf : Below w.heap.size w w6 := (((hB.drewN' _).trans (hb4.mono hsz)).trans (hb5.mono hsz)).trans (hb6.mono hsz)
              go_roundw
              case rel => exact ⟨m + 1, by omega, by go_num, hfin, (show Hid (m + 1 = 0 → v6 = .slice none 0 0) from fun h => by omega), hBf⟩
              case measure => simp [intOf]; omega
    · obtain rfl : k = n := by omega
      obtain ⟨a5, n5, c5, rfl, HN5, hn5⟩ := hown.ints.open
      go_wp2_with fail
      go_ret
      exact ⟨_, rfl, hown, hB⟩
end Go.Proofs.Ytgajaccnjjiiaaa
