/- checkTwo, After, like: the walks. -/
import Derived.Test.YtgajaccnjjiiaaaW33
import Derived.Test.YtgajaccnjjiiaaaW18
namespace Go.Proofs.Ytgajaccnjjiiaaa
open Go.RowKit

/-- what is wrong with two permutations -/
def ck2 (p q : List Int) : Int := if checkM p = 0 then (if checkM q = 0 then (if p.length = q.length then 0 else 7) else 20) else 20
theorem ck2_zero {p q : List Int} (h : ck2 p q = 0) : checkM p = 0 ∧ checkM q = 0 ∧ p.length = q.length := by
  unfold ck2 at h
  split at h
  · split at h
    · split at h
      · exact ⟨by assumption, by assumption, by assumption⟩
      · cases h
    · cases h
  · cases h
theorem ck2_ok {p q : List Int} (h1 : checkM p = 0) (h2 : checkM q = 0) (h3 : p.length = q.length) : ck2 p q = 0 := by
  unfold ck2; rw [if_pos h1, if_pos h2, if_pos h3]

set_option maxHeartbeats 1000000 in
theorem checkTwo_any (v u : Value) (p q : List Int) (w : World) (hv : Ints w v p) (hu : Ints w u q) :
    Calls Try.prog 88 #[v, u] w fun e w' => e = .returned (.int .i64 (ck2 p q)) ∧ Below w.heap.size w w' := by
  obtain ⟨a, n, cap, rfl, HN, hn'⟩ := hv.open
  obtain ⟨a2, n2, cap2, rfl, HN2, hn2'⟩ := hu.open
  go_enter Try.func88, Try.ntmps88
  go_wp2_with fail
  go_loopw [12] (fun i wr => ∃ j : Nat, j ≤ 2 ∧ i = .int .i64 j ∧ Hid (1 ≤ j → checkM p = 0) ∧ Hid (2 ≤ j → checkM q = 0) ∧ Blk wr w.heap.size 22 [.slice a n cap, .slice a2 n2 cap2] ∧ Below w.heap.size w wr) (fun i _ => 2 - (intOf i).toNat)
  case atStart => exact ⟨0, by omega, rfl, fun h => by omega, fun h => by omega, Blk.new w 22 _, (Below.refl _ _).alloc (Nat.le_refl _) _⟩
  case round =>
    obtain ⟨j, hj, rfl, H1, H2, hblk, hB⟩ := hrel
    have hsz := hB.size
    have c0 := hblk.cell (j := 0) rfl
    have c1 := hblk.cell (j := 1) rfl
    have hv1 := hv.below hB (Nat.le_refl _)
    have hu1 := hu.below hB (Nat.le_refl _)
    rcases (by omega : j = 0 ∨ j = 1 ∨ j = 2) with rfl | rfl | rfl
    · rcases check_or p with hc | hc
      · have HC := Lib.hid hc
        clear hc
        go_wp2_with (go_at_call 63; refine (check_any _ p _ hv1).mono ?_; rw [HC.out]; rintro e w1 ⟨rfl, hb⟩)
        go_roundw
        case rel => exact ⟨1, by omega, rfl, (show Hid (1 ≤ 1 → checkM p = 0) from fun _ => HC.out), (show Hid (2 ≤ 1 → checkM q = 0) from fun h => by omega), hblk.keep hb, hB.trans (hb.mono hsz)⟩
        case measure => simp [intOf]
      · have HC := Lib.hid hc
        have hf : ck2 p q = 20 := by unfold ck2; rw [if_neg (by rw [hc]; decide)]
        have HF := Lib.hid hf
        clear hc hf
        go_wp2_with (go_at_call 63; refine (check_any _ p _ hv1).mono ?_; rw [HC.out]; rintro e w1 ⟨rfl, hb⟩)
        go_ret
        exact ⟨by rw [HF.out]; rfl, hB.trans (hb.mono hsz)⟩
    · rcases check_or q with hc | hc
      · have HC := Lib.hid hc
        clear hc
        go_wp2_with (go_at_call 63; refine (check_any _ q _ hu1).mono ?_; rw [HC.out]; rintro e w1 ⟨rfl, hb⟩)
        go_roundw
        case rel => exact ⟨2, by omega, rfl, (show Hid (1 ≤ 2 → checkM p = 0) from fun _ => H1.out (by omega)), (show Hid (2 ≤ 2 → checkM q = 0) from fun _ => HC.out), hblk.keep hb, hB.trans (hb.mono hsz)⟩
        case measure => simp [intOf]
      · have HC := Lib.hid hc
        have hf : ck2 p q = 20 := by unfold ck2; rw [if_pos (H1.out (by omega)), if_neg (by rw [hc]; decide)]
        have HF := Lib.hid hf
        clear hc hf
        go_wp2_with (go_at_call 63; refine (check_any _ q _ hu1).mono ?_; rw [HC.out]; rintro e w1 ⟨rfl, hb⟩)
        go_ret
        exact ⟨by rw [HF.out]; rfl, hB.trans (hb.mono hsz)⟩
    · by_cases he : n = n2
      · have hf : ck2 p q = 0 := ck2_ok (H1.out (by omega)) (H2.out (by omega)) (by rw [HN.out, HN2.out, he])
        have HF := Lib.hid hf
        have hb : ((n : Int) != n2) = false := by simp [he]
        clear hf
        go_wp2_with fail
        go_ret
        exact ⟨by rw [HF.out]; rfl, hB⟩
      · have hf : ck2 p q = 7 := by unfold ck2; rw [if_pos (H1.out (by omega)), if_pos (H2.out (by omega)), if_neg (by rw [HN.out, HN2.out]; exact he)]
        have HF := Lib.hid hf
        have hb : ((n : Int) != n2) = true := by simp; omega
        clear hf
        go_wp2_with fail
        go_ret
        exact ⟨by rw [HF.out]; rfl, hB⟩

/-- p behind q -/
def afterM (p q : List Int) : List Int := q.map (fun x => p[x.toNat]?.getD 0)
theorem afterM_len (p q : List Int) : (afterM p q).length = q.length := by simp [afterM]
theorem afterM_take {p q : List Int} {k : Nat} {m : Nat} {y : Int} (hx : q[k]? = some (m : Int)) (hy : p[m]? = some y) : (afterM p q).take (k + 1) = (afterM p q).take k ++ [y] := by
  apply take_snoc'
  simp [afterM, hx, hy]

theorem After_bad (v u : Value) (p q : List Int) (w : World) (hv : Ints w v p) (hu : Ints w u q) (hc : ck2 p q ≠ 0) :
    Calls Try.prog 51 #[v, u] w fun e w' => e = .returned (.tuple #[.slice none 0 0, .int .i64 (ck2 p q)]) ∧ Below w.heap.size w w' := by
  have hb1 : (ck2 p q != 0) = true := by simpa using hc
  go_enter Try.func51, Try.ntmps51
  go_wp2_with (go_at_call 88; refine (checkTwo_any _ _ p q _ hv hu).mono ?_; rintro e w1 ⟨rfl, hb⟩)
  go_ret2
  exact ⟨rfl, hb⟩

set_option maxHeartbeats 1000000 in
theorem After_any (v u : Value) (p q : List Int) (w : World) (hv : Ints w v p) (hu : Ints w u q) (hc : ck2 p q = 0) :
    Calls Try.prog 51 #[v, u] w fun e w' => ∃ r, e = .returned (.tuple #[r, .int .i64 0]) ∧ Own w' w.heap.size 3 r (afterM p q) ∧ Below w.heap.size w w' := by
  obtain ⟨hcp, hcq, hlen⟩ := ck2_zero hc
  obtain ⟨h1, h2, hrp, _⟩ := check_zero hcp
  have hrq := perm_range hcq
  obtain ⟨a, n, cap, rfl, HN, hn'⟩ := hv.open
  obtain ⟨a2, n2, cap2, rfl, HN2, hn2'⟩ := hu.open
  rw [HN.out] at h1 h2
  obtain rfl : n2 = n := by rw [← HN.out, ← HN2.out, hlen]
  have HRQ := Lib.hid hrq
  have HC := Lib.hid hc
  clear hcp hcq hlen hrp hrq hc
  go_enter Try.func51, Try.ntmps51
  go_wp2_with (go_at_call 88; refine (checkTwo_any _ _ p q _ hv hu).mono ?_; rw [HC.out]; rintro e w1 ⟨rfl, hb1⟩)
  go_loopw [7, 18] (fun r i wr => ∃ k : Nat, k ≤ n2 ∧ i = .int .i64 k ∧ Own wr w.heap.size 3 r ((afterM p q).take k) ∧ Below w.heap.size w wr) (fun _ i _ => n2 - (intOf i).toNat)
  case atStart => exact ⟨0, by omega, rfl, by simpa using Own.nil _ _ _, hb1⟩
  case round =>
    obtain ⟨k, hk, rfl, hown, hB⟩ := hrel
    have hsz := hB.size
    by_cases hlt : k < n2
    · obtain ⟨b, o, x, rfl, hx, hcx⟩ := (hu.below hB (Nat.le_refl _)).at_ hlt
      obtain ⟨x0, x1⟩ := HRQ.out x (List.mem_of_getElem? hx.out)
      rw [HN2.out] at x1
      obtain ⟨m, rfl⟩ := Int.eq_ofNat_of_zero_le x0
      have hm : m < n2 := by omega
      obtain ⟨b', o', y, rfl, hy, hcy⟩ := (hv.below hB (Nat.le_refl _)).at_ hm
      have htk := afterM_take hx.out hy.out
      have hl : ((afterM p q).take k).length < 1000000000000 := by rw [List.length_take, afterM_len, HN2.out]; omega
      have HTK := Lib.hid htk
      have HL := Lib.hid hl
      clear htk hl
      go_wp2_with (at_builtin; refine wpList_app1 Try.info3 Try.underlying22 hown hsz HL.out rfl _ _ rfl rfl rfl ?_; intro v3 w3 hown3 hgrow3 hb3 hsh3)
      go_roundw
      case rel => exact ⟨k + 1, by omega, by go_num, by rw [HTK.out]; exact hown3, hB.trans hb3⟩
      case measure => simp [intOf]; omega
    · obtain rfl : k = n2 := by omega
      have hall : (afterM p q).take k = afterM p q := List.take_of_length_le (by rw [afterM_len, HN2.out]; exact Nat.le_refl _)
      rw [hall] at hown
      go_wp2_with fail
      go_ret2
      exact ⟨_, rfl, hown, hB⟩

set_option maxHeartbeats 1000000 in
theorem rAfter_any (v u : Value) (p q : List Int) (w : World) (hv : Ints w v p) (hu : Ints w u q) (hc : ck2 p q = 0) :
    Calls Try.prog 56 #[v, u] w fun e w' => ∃ r, e = .returned r ∧ Own w' w.heap.size 3 r (afterM p q) ∧ Below w.heap.size w w' := by
  obtain ⟨hcp, hcq, hlen⟩ := ck2_zero hc
  obtain ⟨h1, h2, hrp, _⟩ := check_zero hcp
  have hrq := perm_range hcq
  obtain ⟨a, n, cap, rfl, HN, hn'⟩ := hv.open
  obtain ⟨a2, n2, cap2, rfl, HN2, hn2'⟩ := hu.open
  rw [HN.out] at h1 h2
  obtain rfl : n2 = n := by rw [← HN.out, ← HN2.out, hlen]
  have HRQ := Lib.hid hrq
  clear hcp hcq hlen hrp hrq hc
  go_enter Try.func56, Try.ntmps56
  go_wp2_with fail
  go_loopw [5, 6] (fun r i wr => ∃ k : Nat, k ≤ n2 ∧ i = .int .i64 k ∧ Own wr w.heap.size 3 r ((afterM p q).take k) ∧ Below w.heap.size w wr) (fun _ i _ => n2 - (intOf i).toNat)
  case atStart => exact ⟨0, by omega, rfl, by simpa using Own.nil _ _ _, Below.refl _ _⟩
  case round =>
    obtain ⟨k, hk, rfl, hown, hB⟩ := hrel
    have hsz := hB.size
    by_cases hlt : k < n2
    · obtain ⟨b, o, x, rfl, hx, hcx⟩ := (hu.below hB (Nat.le_refl _)).at_ hlt
      obtain ⟨x0, x1⟩ := HRQ.out x (List.mem_of_getElem? hx.out)
      rw [HN2.out] at x1
      obtain ⟨m, rfl⟩ := Int.eq_ofNat_of_zero_le x0
      have hm : m < n2 := by omega
      obtain ⟨b', o', y, rfl, hy, hcy⟩ := (hv.below hB (Nat.le_refl _)).at_ hm
      have htk := afterM_take hx.out hy.out
      have hl : ((afterM p q).take k).length < 1000000000000 := by rw [List.length_take, afterM_len, HN2.out]; omega
      have HTK := Lib.hid htk
      have HL := Lib.hid hl
      clear htk hl
      go_wp2_with (at_builtin; refine wpList_app1 Try.info3 Try.underlying22 hown hsz HL.out rfl _ _ rfl rfl rfl ?_; intro v3 w3 hown3 hgrow3 hb3 hsh3)
      go_roundw
      case rel => exact ⟨k + 1, by omega, by go_num, by rw [HTK.out]; exact hown3, hB.trans hb3⟩
      case measure => simp [intOf]; omega
    · obtain rfl : k = n2 := by omega
      have hall : (afterM p q).take k = afterM p q := List.take_of_length_le (by rw [afterM_len, HN2.out]; exact Nat.le_refl _)
      rw [hall] at hown
      go_wp2_with fail
      go_ret
      exact ⟨_, rfl, hown, hB⟩

/-- a list filled up to a length -/
def likeJ (bs : List Int) : Nat → List Int
  | 0 => bs
  | j + 1 => likeJ bs j ++ [(((bs.length + j) / 2 : Nat) : Int)]
theorem likeJ_len (bs : List Int) (j : Nat) : (likeJ bs j).length = bs.length + j := by
  induction j with
  | zero => rfl
  | succ j ih => simp [likeJ, ih]; omega
def likeM (l : List Int) (n : Nat) : List Int := tameM (likeJ (rawM l n) (n - (rawM l n).length)) n
theorem rawM_length (l : List Int) (n : Nat) : (rawM l n).length = min l.length n := by unfold rawM; rw [List.length_take]; omega
theorem likeM_len (l : List Int) (n : Nat) (h : 1 ≤ n) : (likeM l n).length = n := by
  unfold likeM
  rw [tameM_len, tameN, likeJ_len, rawM_length]
  omega

set_option maxRecDepth 100000 in
set_option maxHeartbeats 2000000 in
theorem like_any (v : Value) (l : List Int) (n : Nat) (w : World) (hv : Ints w v l) (hnil : ∀ n c, v = .slice none n c → c = 0) (h1 : 1 ≤ n) (hm : n ≤ 1000) :
    Calls Try.prog 50 #[v, .int .i64 n] w fun e w' => ∃ u, e = .returned u ∧ Own w' w.heap.size 3 u (likeM l n) ∧ Below w.heap.size w w' := by
  obtain ⟨a, len, cap, rfl, HN, hn'⟩ := hv.open
  obtain ⟨hcap, hcap2⟩ := hv.cap_
  have hr : rawM l n = l.take (min len n) := by rw [rawM, HN.out]
  have hrl : (rawM l n).length = min len n := by rw [rawM_length, HN.out]
  have HR := Lib.hid hr
  have HRL := Lib.hid hrl
  clear hr hrl
  have hmin : min (len : Int) (n : Int) = ((min len n : Nat) : Int) := by omega
  have hmn : min len n ≤ len := by omega
  have hmm : min len n ≤ n := by omega
  have hsub : Ints w (.slice a (min len n) cap) (l.take (min len n)) := by
    by_cases h0 : 0 < min len n
    · obtain ⟨b, o, x, rfl, _, _⟩ := hv.at_ (k := 0) (by omega)
      have := hv.sub (i := 0) (j := min len n) h0 hmn
      simpa using this
    · refine ⟨a, cap, by simp; omega, by simp; omega, fun h => ?_⟩
      simp at h
      omega
  generalize min len n = m at *
  have HS := Lib.hid hsub
  clear hsub
  cases a with
  | none =>
    obtain rfl := hnil _ _ rfl
    obtain rfl : len = 0 := by omega
    obtain rfl : m = 0 := by omega
    have hmin0 : min (0 : Int) (n : Int) = 0 := by omega
    have hown3 : Own w w.heap.size 3 (.slice none 0 0) (rawM l n) := by rw [HR.out]; exact Own.nil _ _ _
    have hb3 : Below w.heap.size w w := Below.refl _ _
    go_enter Try.func50, Try.ntmps50
    go_wp2_with fail
    have hbl : (rawM l n).length ≤ n := by rw [HRL.out]; omega
    generalize hbase : rawM l n = bs at *
    have HBS := Lib.hid hbase
    clear hbase
    go_loopw [5] (fun u wr => ∃ j : Nat, bs.length + j ≤ n ∧ Own wr w.heap.size 3 u (likeJ bs j) ∧ Below w.heap.size w wr) (fun u _ => n - (match u with | .slice _ k _ => k | _ => 0))
    case atStart => exact ⟨0, by omega, hown3, hb3⟩
    case round =>
      clear hown3 hb3
      obtain ⟨j, hj, hown, hB⟩ := hrel
      have hsz := hB.size
      obtain ⟨a5, n5, c5, rfl, HN5, hn5⟩ := hown.ints.open
      have h5 : n5 = bs.length + j := by rw [← HN5.out, likeJ_len]
      by_cases hlt : bs.length + j < n
      · have hlen : (likeJ bs j).length < 1000000000000 := by rw [likeJ_len]; omega
        have HLEN := Lib.hid hlen
        clear hlen
        subst h5
        go_wp2_with (at_builtin; refine wpList_app1 Try.info3 Try.underlying22 hown hsz HLEN.out rfl _ _ rfl rfl rfl ?_; intro v4 w4 hown4 hgrow4 hb4 hsh4)
        obtain ⟨g4, c4, rfl⟩ := hsh4
        rw [likeJ_len] at *
        go_roundw
        case rel => exact ⟨j + 1, by omega, hown4, hB.trans hb4⟩
        case measure => simp; omega
      · have hjn : bs.length + j = n := by omega
        have hfin : likeM l n = tameM (likeJ bs j) n := by unfold likeM; rw [HBS.out, show n - bs.length = j by omega]
        have HF := Lib.hid hfin
        clear hfin
        have hu := hown.ints
        obtain rfl : n5 = n := by omega
        clear hjn h5 hj hlt hbl
        go_wp2_with (go_at_call 14; refine (tame_any _ _ n5 _ hu (by omega)).mono ?_; rw [← HF.out]; rintro e w5 ⟨u5, rfl, hown5, hb5⟩)
        go_ret
        exact ⟨_, rfl, Own.mono hown5 hsz, hB.trans (hb5.mono hsz)⟩
  | some ad =>
    go_enter Try.func50, Try.ntmps50
    go_wp2_with (at_builtin; refine wpList_appS (sv := .slice (some ad) m cap) (ys := l.take m) Try.info3 Try.underlying22 (Own.nil _ w.heap.size 3) (Nat.le_refl _) (by simp) rfl _ _ rfl rfl rfl HS.out (by simp) (by simp; omega) ?_; intro v3 w3 hown3 hgrow3 hb3)
    rw [List.nil_append, ← HR.out] at hown3
    have hbl : (rawM l n).length ≤ n := by rw [HRL.out]; omega
    generalize hbase : rawM l n = bs at *
    have HBS := Lib.hid hbase
    clear hbase
    go_loopw [5] (fun u wr => ∃ j : Nat, bs.length + j ≤ n ∧ Own wr w.heap.size 3 u (likeJ bs j) ∧ Below w.heap.size w wr) (fun u _ => n - (match u with | .slice _ k _ => k | _ => 0))
    case atStart => exact ⟨0, by omega, hown3, hb3⟩
    case round =>
      clear hown3 hb3
      obtain ⟨j, hj, hown, hB⟩ := hrel
      have hsz := hB.size
      obtain ⟨a5, n5, c5, rfl, HN5, hn5⟩ := hown.ints.open
      have h5 : n5 = bs.length + j := by rw [← HN5.out, likeJ_len]
      by_cases hlt : bs.length + j < n
      · have hlen : (likeJ bs j).length < 1000000000000 := by rw [likeJ_len]; omega
        have HLEN := Lib.hid hlen
        clear hlen
        subst h5
        go_wp2_with (at_builtin; refine wpList_app1 Try.info3 Try.underlying22 hown hsz HLEN.out rfl _ _ rfl rfl rfl ?_; intro v4 w4 hown4 hgrow4 hb4 hsh4)
        obtain ⟨g4, c4, rfl⟩ := hsh4
        rw [likeJ_len] at *
        go_roundw
        case rel => exact ⟨j + 1, by omega, hown4, hB.trans hb4⟩
        case measure => simp; omega
      · have hjn : bs.length + j = n := by omega
        have hfin : likeM l n = tameM (likeJ bs j) n := by unfold likeM; rw [HBS.out, show n - bs.length = j by omega]
        have HF := Lib.hid hfin
        clear hfin
        have hu := hown.ints
        obtain rfl : n5 = n := by omega
        clear hjn h5 hj hlt hbl
        go_wp2_with (go_at_call 14; refine (tame_any _ _ n5 _ hu (by omega)).mono ?_; rw [← HF.out]; rintro e w5 ⟨u5, rfl, hown5, hb5⟩)
        go_ret
        exact ⟨_, rfl, Own.mono hown5 hsz, hB.trans (hb5.mono hsz)⟩
end Go.Proofs.Ytgajaccnjjiiaaa
