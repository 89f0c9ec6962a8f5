import Derived.Test.YtgajaccnjjiiaaaW7
namespace Go.Proofs.Ytgajaccnjjiiaaa
open Go.RowKit

theorem list_eq_of {xs ys : List Int} {n : Nat} (hx : xs.length = n) (hy : ys.length = n) (h : ∀ j, j < n → xs[j]? = ys[j]?) : xs = ys := by
  apply List.ext_getElem?
  intro j
  by_cases hj : j < n
  · exact h j hj
  · rw [List.getElem?_eq_none (by omega), List.getElem?_eq_none (by omega)]

set_option maxHeartbeats 400000 in
theorem same_any (v u : Value) (xs ys : List Int) (w : World) (hv : Ints w v xs) (hu : Ints w u ys) :
    Calls Try.prog 17 #[v, u] w fun e w' => e = .returned (.bool (decide (xs = ys))) ∧ ∃ n, w' = w.drewN n := by
  obtain ⟨a, n, cap, rfl, hn, hn'⟩ := hv.open
  obtain ⟨a2, n2, cap2, rfl, hn2, hn2'⟩ := hu.open
  by_cases hne : n = n2
  · subst hne
    have hb : ((n : Int) != n) = false := by simp
    go_enter Try.func17, Try.ntmps17
    go_wp2
    go_loopw [5] (fun i wr => ∃ k : Nat, k ≤ n ∧ i = .int .i64 k ∧ (∃ m, wr = w.drewN m) ∧ Hid (∀ j, j < k → xs[j]? = ys[j]?)) (fun i _ => n - (intOf i).toNat)
    case atStart => exact ⟨0, by omega, rfl, ⟨0, rfl⟩, fun j hj => by omega⟩
    case round =>
      obtain ⟨k, hk, rfl, ⟨m, rfl⟩, HP⟩ := hrel
      by_cases hlt : k < n
      · obtain ⟨b, o, x, rfl, hx, hc⟩ := hv.at_ hlt
        obtain ⟨b2, o2, y, rfl, hy, hc2⟩ := hu.at_ hlt
        go_wp2
        go_quiet (fail)
        go_wp2
        · have hxy : (x != y) = true := by assumption
          go_ret
          refine ⟨?_, _, World.drewN_drewN ..⟩
          have : xs ≠ ys := by
            rintro rfl
            have h1 := hx.out
            rw [hy.out] at h1
            simp at h1
            simp [h1] at hxy
          simp [this]
        · have hxy : (x != y) = false := by assumption
          go_roundw
          case rel => 
            refine ⟨k + 1, by omega, by go_num, ⟨_, rfl⟩, fun j hj => ?_⟩
            by_cases hjk : j < k
            · exact HP.out j hjk
            · obtain rfl : j = k := by omega
              rw [hx.out, hy.out]
              simpa using hxy
          case measure => simp [intOf]; omega
      · obtain rfl : k = n := by omega
        have hxy : xs = ys := list_eq_of hn.out hn2.out HP.out
        have HXY := Lib.hid hxy; clear hxy
        go_wp2
        go_ret
        exact ⟨by simp [HXY.out], _, rfl⟩
  · have hb : ((n : Int) != n2) = true := by simp; omega
    have hxy : xs ≠ ys := by rintro rfl; exact hne (hn.out.symm.trans hn2.out)
    have HXY := Lib.hid hxy; clear hxy hne
    go_enter Try.func17, Try.ntmps17
    go_wp2
    go_ret
    exact ⟨by simp [HXY.out], 0, rfl⟩

def iota (n : Nat) : List Int := (List.range n).map Int.ofNat
theorem iota_succ (n : Nat) : iota (n + 1) = iota n ++ [(n : Int)] := by simp [iota, List.range_succ]
theorem iota_len (n : Nat) : (iota n).length = n := by simp [iota]
/-- the place with which a place is exchanged -/
def kidx (x : Int) (n : Nat) : Nat := ((IntKind.u64.wrap x) % n).toNat
theorem u64_nonneg (x : Int) : 0 ≤ IntKind.u64.wrap x := by rw [IntKind.wrap_u64]; omega
theorem kidx_lt (x : Int) {n : Nat} (h : 0 < n) : kidx x n < n := by
  unfold kidx
  have := Int.emod_lt_of_pos (IntKind.u64.wrap x) (b := (n : Int)) (by omega)
  have := Int.emod_nonneg (IntKind.u64.wrap x) (b := (n : Int)) (by omega)
  omega
theorem kidx_wrap (x : Int) {n : Nat} (h : 0 < n) (h2 : n ≤ 1000) : wrap64 ((IntKind.u64.wrap x).tmod n) = (kidx x n : Nat) := by
  have h3 := Int.emod_lt_of_pos (IntKind.u64.wrap x) (b := (n : Int)) (by omega)
  have h4 := Int.emod_nonneg (IntKind.u64.wrap x) (b := (n : Int)) (by omega)
  rw [Int.tmod_eq_emod_of_nonneg (u64_nonneg x), IntWalk.wrap64_in _ (by omega)]
  unfold kidx
  omega
def tameStep (n : Nat) (l out : List Int) (i : Nat) : List Int := (out.set i (out[kidx (l[i]?.getD 0) n]?.getD 0)).set (kidx (l[i]?.getD 0) n) (out[i]?.getD 0)
def tameTo (n : Nat) (l : List Int) : Nat → List Int
  | 0 => iota n
  | i + 1 => tameStep n l (tameTo n l i) i
theorem tameTo_len (n : Nat) (l : List Int) (i : Nat) : (tameTo n l i).length = n := by
  induction i with
  | zero => exact iota_len n
  | succ i ih => simp [tameTo, tameStep, ih]
def tameN (l : List Int) (most : Nat) : Nat := max 1 (min l.length most)
def tameM (l : List Int) (most : Nat) : List Int := tameTo (tameN l most) l (min (tameN l most) l.length)

set_option maxHeartbeats 2000000 in
theorem tame_any (v : Value) (l : List Int) (most : Nat) (w : World) (hv : Ints w v l) (hm : most ≤ 1000) :
    Calls Try.prog 14 #[v, .int .i64 most] w fun e w' => ∃ u, e = .returned u ∧ Own w' w.heap.size 3 u (tameM l most) ∧ Below w.heap.size w w' := by
  obtain ⟨a, len, cap, rfl, hl, hl'⟩ := hv.open
  obtain ⟨N, hN⟩ : ∃ N, N = tameN l most := ⟨_, rfl⟩
  have hN2 : N = max 1 (min len most) := by rw [hN, tameN, hl.out]
  have hN1 : 1 ≤ N := by omega
  have hN3 : N ≤ 1000 := by omega
  have HN := Lib.hid hN
  have HN2 := Lib.hid hN2
  clear hN hN2
  go_enter Try.func14, Try.ntmps14
  go_upto_region 1 with fail
  go_cut [5] (fun s5 wx => s5 = .int .i64 N ∧ w = wx)
  case first =>
    go_wp2_with fail
    all_goals
      go_meet
      refine ⟨?_, rfl⟩
      have h2 := HN2.out
      first | rfl | (congr 1; omega)
  case rest =>
    obtain ⟨rfl, rfl⟩ := hcut
    go_wp2_with fail
    go_loopw [6, 7] (fun u i wr => ∃ k : Nat, k ≤ N ∧ i = .int .i64 k ∧ Own wr w.heap.size 3 u (iota k) ∧ Below w.heap.size w wr) (fun _ i _ => N - (intOf i).toNat)
    case atStart => exact ⟨0, by omega, rfl, Own.nil _ _ _, Below.refl _ _⟩
    case round =>
      obtain ⟨k, hk, rfl, hown, hB⟩ := hrel
      have hsz := hB.size
      by_cases hlt : k < N
      · go_wp2_with (at_builtin; refine wpList_app1 Try.info3 Try.underlying22 hown hsz (by rw [iota_len]; omega) rfl _ _ rfl rfl rfl ?_; intro v' w1 hown1 hgrow1 hb1 hsh)
        go_roundw
        case rel => exact ⟨k + 1, by omega, by go_num, by rw [iota_succ]; exact hown1, hB.trans hb1⟩
        case measure => simp [intOf]; omega
      · obtain rfl : k = N := by omega
        obtain ⟨g, cp, rfl, hg1, hg2, hfz, hc⟩ := Own.open hown (iota_len k) (by omega)
        clear hfz hc
        go_wp2_with fail
        go_loopw [8] (fun i wx => ∃ i' : Nat, i' ≤ k ∧ i' ≤ len ∧ i = .int .i64 i' ∧ Own wx w.heap.size 3 (.slice (some ⟨g, 0, none⟩) k cp) (tameTo k l i') ∧ Below w.heap.size w wx) (fun i _ => k - (intOf i).toNat)
        case atStart => exact ⟨0, by omega, by omega, rfl, hown, hB⟩
        case round =>
          clear hown hB
          obtain ⟨i, hi1, hi2, rfl, hown, hB⟩ := hrel
          obtain ⟨g', cp', hv', hq1, hq2, hfz, hc⟩ := Own.open hown (tameTo_len k l i) (by omega)
          obtain ⟨rfl, rfl⟩ : g = g' ∧ cp = cp' := by simpa using hv'
          clear hv'
          have HC := Lib.hid hc; clear hc
          have HF := Lib.hid hfz; clear hfz
          by_cases hik : i < k
          · by_cases hil : i < len
            · obtain ⟨b, o, x, rfl, hx, c1⟩ := (hv.below hB (Nat.le_refl _)).at_ hil
              have hj := kidx_lt x hN1
              have hw := kidx_wrap x hN1 hN3
              have hst : tameTo k l (i + 1) = tameStep k l (tameTo k l i) i := rfl
              unfold tameStep at hst
              rw [hx.out] at hst
              simp only [Option.getD_some] at hst
              generalize hjj : kidx x k = j at hj hw hst
              clear hjj
              obtain ⟨y, hy⟩ := get_of_lt (zs := tameTo k l i) (k := i) (by rw [tameTo_len]; omega)
              obtain ⟨z, hz⟩ := get_of_lt (zs := tameTo k l i) (k := j) (by rw [tameTo_len]; omega)
              have c2 := HC.out _ _ hy
              have c3 := HC.out _ _ hz
              have f1 := HF.out i
              have f2 := HF.out j
              rw [hy, hz] at hst
              have HST := Lib.hid hst; clear hst hy hz
              obtain ⟨v4, hv4⟩ := cell?_setCell_some (w := wr) (p := ⟨g, i, none⟩) (x := .int .i64 z) (q := ⟨g, j, none⟩) (v := .int .i64 z) c3
              go_wp2_with fail
              go_roundw
              case rel => exact ⟨i + 1, by omega, by omega, by go_num, by rw [HST.out]; exact Own.set (Own.set hown i z) j y, (hB.setCell (by exact hg1) _).setCell (by exact hg1) _⟩
              case measure => simp [intOf]; omega
            · have hfin : tameM l most = tameTo k l i := by
                unfold tameM; rw [← HN.out, hl.out, Nat.min_eq_right (by omega), show i = len by omega]
              go_wp2_with fail
              go_ret
              exact ⟨_, rfl, by rw [hfin]; exact hown, hB⟩
          · have hfin : tameM l most = tameTo k l i := by
              unfold tameM; rw [← HN.out, hl.out, Nat.min_eq_left (by omega), show i = k by omega]
            have hd : decide ((i : Int) < k) = false := by simp; omega
            go_wp2_with fail
            go_ret
            exact ⟨_, rfl, by rw [hfin]; exact hown, hB⟩
end Go.Proofs.Ytgajaccnjjiiaaa
