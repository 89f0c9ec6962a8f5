/- FromCode and Unrank, of the program and of the reference: the walks. -/
import Derived.Test.YtgajaccnjjiiaaaW23
import Derived.Test.YtgajaccnjjiiaaaW16
namespace Go.Proofs.Ytgajaccnjjiiaaa
open Go.RowKit

theorem FromCode_len (v : Value) (c : List Int) (w : World) (hv : Ints w v c) (h : c.length < 1 ∨ 60 < c.length) :
    Calls Try.prog 39 #[v] w fun e w' => e = .returned (.tuple #[.slice none 0 0, .int .i64 20]) ∧ Below w.heap.size w w' := by
  obtain ⟨ad, n, cap, rfl, HN, hn'⟩ := hv.open
  rw [HN.out] at h
  rcases h with h | h
  · go_enter Try.func39, Try.ntmps39
    go_wp2_with fail
    go_ret2
    exact ⟨rfl, Below.refl _ _⟩
  · have h' : ¬ (n : Int) < 1 := by omega
    go_enter Try.func39, Try.ntmps39
    go_wp2_with fail
    go_ret2
    exact ⟨rfl, Below.refl _ _⟩

set_option maxHeartbeats 4000000 in
theorem FromCode_any (v : Value) (c : List Int) (w : World) (hv : Ints w v c) (h1 : 1 ≤ c.length) (h2 : c.length ≤ 60) :
    Calls Try.prog 39 #[v] w fun e w' => ((Good c ∧ ∃ u, e = .returned (.tuple #[u, .int .i64 0]) ∧ Own w' w.heap.size 3 u (fcM c)) ∨ (¬ Good c ∧ e = .returned (.tuple #[.slice none 0 0, .int .i64 1]))) ∧ Below w.heap.size w w' := by
  obtain ⟨ad, n, cp0, rfl, HN, hn'⟩ := hv.open
  have hn1 : 1 ≤ n := by have := HN.out; omega
  have hn2 : n ≤ 60 := by have := HN.out; omega
  have hx1 : ¬ (n : Int) < 1 := by omega
  have hx2 : ¬ (60 : Int) < n := by omega
  clear h1 h2
  go_enter Try.func39, Try.ntmps39
  go_wp2_with fail
  go_loopw [4, 19] (fun u i wr => ∃ k : Nat, k ≤ n ∧ i = .int .i64 k ∧ Own wr w.heap.size 3 u (iota k) ∧ Below w.heap.size w wr) (fun _ i _ => n - (intOf i).toNat)
  case atStart => exact ⟨0, by omega, rfl, Own.nil _ _ _, Below.refl _ _⟩
  case round =>
    obtain ⟨k, hk, rfl, hown, hB⟩ := hrel
    have hsz := hB.size
    by_cases hlt : k < n
    · go_wp2_with (at_builtin; refine wpList_app1 Try.info3 Try.underlying22 hown hsz (by rw [iota_len]; omega) rfl _ _ rfl rfl rfl ?_; intro v' w1 hown1 hgrow1 hb1 hsh)
      go_roundw
      case rel => exact ⟨k + 1, by omega, by go_num, by rw [iota_succ]; exact hown1, hB.trans hb1⟩
      case measure => simp [intOf]; omega
    · obtain rfl : k = n := by omega
      obtain ⟨g, cap, rfl, hg1, hg2, hfz, hc⟩ := Own.open hown (iota_len k) (by omega)
      clear hfz hc
      obtain ⟨B2, HB2⟩ : ∃ B2, Hid (wr.heap.size = B2) := ⟨_, rfl⟩
      have hg2' : g < B2 := by rw [← HB2.out]; exact hg2
      go_wp2_with fail
      go_loopw [4, 5, 29] (fun u o i wx => ∃ j L : Nat, j + L = k ∧ i = .int .i64 j ∧ u = .slice (some ⟨g, 0, none⟩) L cap ∧ Hid (∀ (a : Nat) (x : Int), a < j → c[a]? = some x → 0 ≤ x ∧ x + a < c.length) ∧ Own wx w.heap.size 3 u (fcTo c j).1 ∧ Own wx B2 3 o (fcTo c j).2 ∧ Below w.heap.size w wx ∧ (w.heap.size ≤ B2 ∧ B2 ≤ wx.heap.size)) (fun _ _ i _ => k - (intOf i).toNat)
      case atStart =>
        exact ⟨0, k, by omega, rfl, rfl, fun a x h => by omega, by rw [fcTo, HN.out]; exact hown, Own.nil _ _ _, hB, by rw [← HB2.out]; exact hsz, by rw [← HB2.out]; exact Nat.le_refl _⟩
      case round =>
        clear hown hB hsz
        obtain ⟨j, L, hj, rfl, rfl, HG, hownL, hownO, hB, hwB, hsz2⟩ := hrel
        have hsz := hB.size
        by_cases hlj : j < k
        · obtain ⟨b, o, x, rfl, hx, hc⟩ := (hv.below hB (Nat.le_refl _)).at_ hlj
          have hLlen : (fcTo c j).1.length = L := by rw [fcTo_len1 c j (by rw [HN.out]; omega) HG.out, HN.out]; omega
          have hOlen : (fcTo c j).2.length = j := fcTo_len2 c j
          by_cases hx0 : x < 0
          · have hng : ¬ Good c := fun hg => by have := hg j x hx.out; omega
            have HNG := Lib.hid hng
            clear hng hownL hownO
            go_wp2_with fail
            go_ret2
            exact ⟨.inr ⟨HNG.out, rfl⟩, hB⟩
          · obtain ⟨m, rfl⟩ := Int.eq_ofNat_of_zero_le (by omega : 0 ≤ x)
            by_cases hxL : L ≤ m
            · have hng : ¬ Good c := fun hg => by have := hg j m hx.out; rw [HN.out] at this; omega
              have HNG := Lib.hid hng
              clear hng hownL hownO
              go_wp2_with fail
              go_ret2
              exact ⟨.inr ⟨HNG.out, rfl⟩, hB⟩
            · have hmL : m < L := by omega
              obtain ⟨y, hy, hcy⟩ := (Own.ints hownL).cell_ (k := m) hmL
              rw [Nat.zero_add] at hcy
              have hst : fcTo c (j + 1) = ((fcTo c j).1.eraseIdx m, (fcTo c j).2 ++ [y]) := by
                rw [fcTo, hx.out]
                simp only [Option.getD_some, Int.toNat_natCast]
                rw [hy.out]; rfl
              have HST := Lib.hid hst
              have HLL := Lib.hid hLlen
              have HOL := Lib.hid hOlen
              have hapart : ∀ g', (Value.slice (some ⟨g, 0, none⟩) L cap).ownBlock = some g' → u5.ownBlock ≠ some g' := by
                rintro g' h1 h2
                rw [ob_some] at h1
                cases h1
                have := hownO.ob _ h2
                omega
              have HAP := Lib.hid hapart
              have hG2 : Hid (∀ (a : Nat) (x : Int), a < j + 1 → c[a]? = some x → 0 ≤ x ∧ x + a < c.length) := by
                refine fun a x ha hax => ?_
                by_cases e : a = j
                · subst e
                  rw [hx.out] at hax
                  cases hax
                  rw [HN.out]; omega
                · exact HG.out a x (by omega) hax
              clear hst hLlen hOlen hx hy hapart
              go_wp2_with (first
                | (at_builtin; refine wpList_app1 Try.info3 Try.underlying22 hownO hsz2 (by rw [HOL.out]; omega) rfl _ _ rfl rfl rfl ?_; intro v3 w3 hown3 hgrow3 hb3 hsh3; have hownL3 := hownL.kept hgrow3 HAP.out; have hz3 := hgrow3.size)
                | (go_at_call 75; refine (delete_own _ w.heap.size g L cap _ hownL3 HLL.out m hmL).mono ?_; rintro e w4 ⟨rfl, hown4, hgrow4, hb4⟩))
              have hO4 : Own w4 B2 3 v3 ((fcTo c j).2 ++ [y]) := hown3.kept hgrow4 (fun g' h1 h2 => by
                cases h2
                have := hown3.ob _ h1
                omega)
              go_roundw
              case rel =>
                refine ⟨j + 1, L - 1, by omega, by go_num, rfl, hG2, by rw [HST.out]; exact hown4, by rw [HST.out]; exact hO4, ?_, hwB, ?_⟩
                · exact (hB.trans (hb3.mono (by omega))).trans hb4
                · have := hgrow4.size; omega
              case measure => simp [intOf]; omega
        · obtain rfl : j = k := by omega
          have hgood : Good c := fun a x hx => HG.out a x (by have := (List.getElem?_eq_some_iff.1 hx).1; have := HN.out; omega) hx
          have HGD := Lib.hid hgood
          have hfin : fcM c = (fcTo c j).2 := by unfold fcM; rw [HN.out]
          have HF := Lib.hid hfin
          clear hgood hfin
          go_wp2_with fail
          go_ret2
          refine ⟨.inl ⟨HGD.out, _, rfl, ?_⟩, hB⟩
          rw [HF.out]
          exact Own.mono hownO (by omega)
end Go.Proofs.Ytgajaccnjjiiaaa
