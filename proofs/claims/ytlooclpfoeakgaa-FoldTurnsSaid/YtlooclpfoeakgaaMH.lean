/- Whether anything is a graph: the walk of fold.Check. -/
import Derived.Test.YtlooclpfoeakgaaMG
import Derived.Test.YtlooclpfoeakgaaME
import Derived.RangeFuncNested
import Derived.RangeFuncBound
import Derived.RangeFuncCalls
import Derived.RangeFuncLeaves
import Derived.RangeFuncBox
import Derived.Shelf.Abstract
import Derived.Shelf.RegionOpenPlain
import Derived.WalkKit
import Derived.OwnWalkIn
import Derived.TacticsInMore
import Derived.LoopNIn
import Derived.LoopIn
import Derived.Test.YtlooclpfoeakgaaMB
import Derived.Shelf.AbstractIn
import Derived.Test.YtlooclpfoeakgaaMF
import Derived.Test.YtlooclpfoeakgaaMC
import Derived.Shelf.RegionOpen
namespace Go.Proofs.Ytlooclpfoeakgaa
open Go.RowKit

theorem rowN_len (nx : Nat → Nat → Option Nat) (v : Nat) : ∀ (ps : List Nat) (l : List Nat) (r : List Int), (rowN nx v ps l r).2.length = r.length + ps.length
  | [], _, _ => rfl
  | p :: ps, l, r => by
    rw [rowN]
    split
    · rw [rowN_len nx v ps]; simp; omega
    · split
      · rw [rowN_len nx v ps]; simp; omega
      · rw [rowN_len nx v ps]; simp; omega
theorem numN_len (nx : Nat → Nat → Option Nat) (ps : List Nat) : ∀ (f i : Nat) (l : List Nat) (g : List (List Int)), (∀ r ∈ g, r.length = ps.length) → (numN nx ps f i l g).length ≤ g.length + f ∧ ∀ r ∈ numN nx ps f i l g, r.length = ps.length
  | 0, _, _, _, h => ⟨Nat.le_refl _, h⟩
  | f + 1, i, l, g, h => by
    rw [numN]
    split
    · exact ⟨by omega, h⟩
    · rename_i v _
      obtain ⟨h1, h2⟩ := numN_len nx ps f (i + 1) (rowN nx v ps l []).1 (g ++ [(rowN nx v ps l []).2]) (fun r hr => by
        rcases List.mem_append.1 hr with hr | hr
        · exact h r hr
        · rw [List.mem_singleton.1 hr, rowN_len]; simp)
      exact ⟨by rw [List.length_append, List.length_singleton] at h1; omega, h2⟩
def RowOk (k n : Nat) (v : Nat) (r : List Int) : Prop := r.length = 2 * k ∧ (∀ x ∈ r, -1 ≤ x ∧ x < (n : Int)) ∧ (v ≠ 0 → 2 ≤ degI r)
theorem deg_snoc (r : List Int) (x : Int) : degI (r ++ [x]) = degI r + (if 0 ≤ x then 1 else 0) := by
  unfold degI
  rw [List.filter_append, List.length_append]
  congr 1
  by_cases h : 0 ≤ x <;> simp [h]
theorem deg_le (r : List Int) : degI r ≤ r.length := List.length_filter_le _ _
/-- a row's edges lead back -/
def RowSym (g : List (List Int)) (v : Nat) (r : List Int) : Prop := ∀ p u, r[p]? = some ((u : Nat) : Int) → nxT g u (p ^^^ 1) = some v

def IsG (K : Int) (g : List (List Int)) : Prop := ∃ k : Nat, K = k ∧ GoodG k g

set_option maxRecDepth 100000 in
set_option maxHeartbeats 4000000 in
theorem Check_any (w : World) (K : Int) (rv : Value) (g : List (List Int)) (h : RowsR w rv g) (hl : g.length < 1000000) (hr : ∀ r ∈ g, r.length < 1000000) :
    Calls Try.prog 52 #[.agg #[.int .i64 K, rv]] w fun e w' => (∃ z : Int, e = .returned (.int .i64 z) ∧ ((z = 0 ∧ IsG K g) ∨ (z = 50 ∧ ¬ IsG K g))) ∧ Below w.heap.size w w' := by
  obtain ⟨w1, hw1⟩ : ∃ w1, w1 = w.alloc (.cells #[.int .i64 K, rv] 25) := ⟨_, rfl⟩
  have hb1 : Below w.heap.size w w1 := by rw [hw1]; exact (Below.refl _ w).alloc (Nat.le_refl _) _
  have hx1 : Blk w1 w.heap.size 25 [.int .i64 K, rv] := by rw [hw1]; exact Blk.new w 25 [.int .i64 K, rv]
  have h1 := h.keep hb1
  obtain ⟨n, hn⟩ : ∃ n, g.length = n := ⟨_, rfl⟩
  obtain ⟨va, vc, rfl, hv1, hv2⟩ := h1.shape hn
  rw [hn] at hl
  have cK := hx1.cell (j := 0) rfl
  have cN := hx1.cell (j := 1) rfl
  have H1 := Lib.hid h1
  have HN := Lib.hid hn
  have HB := Lib.hid hb1
  have HX := Lib.hid hx1
  have HR := Lib.hid hr
  clear h h1 hn hb1 hx1 hr
  by_cases hK1 : K < 1
  · have HE : Hid (¬ IsG K g) := Lib.hid (fun ⟨k, e, hg⟩ => by have := hg.k1; omega)
    go_enter Try.func52, Try.ntmps52
    go_upto_region 1 with fail
    rw [← hw1]
    clear hw1
    go_wp2_with fail
    go_ret
    exact ⟨⟨50, rfl, .inr ⟨rfl, HE.out⟩⟩, HB.out⟩
  by_cases hK4 : 4 < K
  · have HE : Hid (¬ IsG K g) := Lib.hid (fun ⟨k, e, hg⟩ => by have := hg.k4; omega)
    go_enter Try.func52, Try.ntmps52
    go_upto_region 1 with fail
    rw [← hw1]
    clear hw1
    go_wp2_with fail
    go_ret
    exact ⟨⟨50, rfl, .inr ⟨rfl, HE.out⟩⟩, HB.out⟩
  by_cases hn1 : n < 1
  · have HE : Hid (¬ IsG K g) := Lib.hid (fun ⟨k, e, hg⟩ => by have := hg.n1; have := HN.out; omega)
    have hn1I : (n : Int) < 1 := by omega
    go_enter Try.func52, Try.ntmps52
    go_upto_region 1 with fail
    rw [← hw1]
    clear hw1
    go_wp2_with fail
    go_ret
    exact ⟨⟨50, rfl, .inr ⟨rfl, HE.out⟩⟩, HB.out⟩
  by_cases hn5 : 5000 < n
  · have HE : Hid (¬ IsG K g) := Lib.hid (fun ⟨k, e, hg⟩ => by have := hg.n5; have := HN.out; omega)
    have hn1I : ¬ (n : Int) < 1 := by omega
    have hn5I : (5000 : Int) < n := by omega
    go_enter Try.func52, Try.ntmps52
    go_upto_region 1 with fail
    rw [← hw1]
    clear hw1
    go_wp2_with fail
    go_ret
    exact ⟨⟨50, rfl, .inr ⟨rfl, HE.out⟩⟩, HB.out⟩
  obtain ⟨k, rfl⟩ : ∃ k : Nat, K = k := ⟨K.toNat, by omega⟩
  have hn1I : ¬ (n : Int) < 1 := by omega
  have hn5I : ¬ (5000 : Int) < n := by omega
  obtain ⟨KK, hKK⟩ : ∃ KK, KK = 2 * k := ⟨_, rfl⟩
  have hK8 : KK ≤ 8 := by omega
  have hwK : IntKind.i64.wrap (2 * (k : Int)) = KK := by rw [IntKind.wrap_i64]; omega
  have HKK := Lib.hid hKK
  have HE : Hid (∀ k2 : Nat, (k : Int) = k2 → k2 = k) := Lib.hid (fun k2 e => by omega)
  have HR0 : Hid (∀ t r, t < 0 → g[t]? = some r → RowOk k n t r) := Lib.hid (fun t r h => by omega)
  clear hKK
  go_enter Try.func52, Try.ntmps52
  go_upto_region 1 with fail
  rw [← hw1]
  clear hw1
  go_wp2_with fail
  go_loopw [35] (fun iv wr => ∃ i : Nat, i ≤ n ∧ iv = .int .i64 i ∧ w1 = wr ∧ Hid (∀ t r, t < i → g[t]? = some r → RowOk k n t r)) (fun iv _ => n - (intOf iv).toNat)
  case atStart => exact ⟨0, by omega, rfl, rfl, HR0⟩
  case round =>
    clear HR0
    obtain ⟨i, hi, rfl, rfl, HR0⟩ := hrel
    by_cases hlt : i < n
    · obtain ⟨r, hr1⟩ : ∃ r, g[i]? = some r := ⟨_, List.getElem?_eq_getElem (by rw [HN.out]; exact hlt)⟩
      obtain ⟨b1, v1, rfl, d1, e1⟩ := H1.out.at_ (Below.refl _ _) hr1
      obtain ⟨m, hm⟩ : ∃ m, r.length = m := ⟨_, rfl⟩
      obtain ⟨a2, c2, rfl, q1, q2⟩ := e1.shape hm
      have hm9 : m < 1000000 := by rw [← hm]; exact HR.out r (List.mem_of_getElem? hr1)
      have i0 : (0 : Int) ≤ i := by omega
      have i1 : (i : Int) < n := by omega
      have HR1 := Lib.hid hr1
      have HM := Lib.hid hm
      have HE1 := Lib.hid e1
      clear hr1 hm e1
      by_cases hmK : m = KK
      · have hmI : (m : Int) = KK := by omega
        have HRL : Hid (r.length = 2 * k) := Lib.hid (by rw [HM.out, hmK, HKK.out])
        have HJ0 : Hid (∀ x ∈ r.take 0, -1 ≤ x ∧ x < (n : Int)) := Lib.hid (fun x hx => by (simp at hx))
        have HD0 : Hid (degI (r.take 0) = 0) := Lib.hid rfl
        go_wp2_with fail
        go_loopw [48, 5] (fun jv dv wr => ∃ j d : Nat, j ≤ m ∧ jv = .int .i64 j ∧ dv = .int .i64 d ∧ w1 = wr ∧ Hid (degI (r.take j) = d) ∧ Hid (d ≤ j) ∧ Hid (∀ x ∈ r.take j, -1 ≤ x ∧ x < (n : Int))) (fun jv _ _ => m - (intOf jv).toNat)
        case atStart => exact ⟨0, 0, by omega, rfl, rfl, rfl, HD0, Lib.hid (by omega), HJ0⟩
        case round =>
          clear HD0 HJ0
          obtain ⟨j, d, hj, rfl, rfl, rfl, HD, HDJ, HJ⟩ := hrel
          by_cases hlj : j < m
          · obtain ⟨x, hx⟩ : ∃ x, r[j]? = some x := ⟨_, List.getElem?_eq_getElem (by rw [HM.out]; exact hlj)⟩
            obtain ⟨b2, rfl, d2⟩ := HE1.out.at_ (Below.refl _ _) hx
            have j0 : (0 : Int) ≤ j := by omega
            have j1 : (j : Int) < m := by omega
            have htk : r.take (j + 1) = r.take j ++ [x] := by rw [List.take_add_one, hx]; rfl
            have hds := deg_snoc (r.take j) x
            rw [← htk, HD.out] at hds
            have HXM := Lib.hid (List.mem_of_getElem? hx)
            have HRM := Lib.hid (List.mem_of_getElem? HR1.out)
            have hdj := HDJ.out
            clear hx
            by_cases hx1 : x < -1
            · have HF : Hid (¬ IsG k g) := Lib.hid (fun ⟨k2, _, hg⟩ => by have := ((hg.row _ HRM.out).2 x HXM.out).1; omega)
              clear htk hds
              go_wp2_with fail
              go_ret
              exact ⟨⟨50, rfl, .inr ⟨rfl, HF.out⟩⟩, HB.out⟩
            · by_cases hx2 : (n : Int) ≤ x
              · have HF : Hid (¬ IsG k g) := Lib.hid (fun ⟨k2, _, hg⟩ => by have := ((hg.row _ HRM.out).2 x HXM.out).2; have := HN.out; omega)
                clear htk hds
                go_wp2_with fail
                go_ret
                exact ⟨⟨50, rfl, .inr ⟨rfl, HF.out⟩⟩, HB.out⟩
              · have G1 : Hid (∀ y ∈ r.take (j + 1), -1 ≤ y ∧ y < (n : Int)) := Lib.hid (fun y hy => by
                  rw [htk] at hy
                  rcases List.mem_append.1 hy with hy | hy
                  · exact HJ.out y hy
                  · rw [List.mem_singleton.1 hy]; omega)
                by_cases hx0 : 0 ≤ x
                · rw [if_pos hx0] at hds
                  have G2 := Lib.hid hds
                  clear htk hds
                  go_wp2_with fail
                  go_roundw
                  case rel => exact ⟨j + 1, d + 1, by omega, by go_num, by go_num, by trivial, G2, Lib.hid (by omega), G1⟩
                  case measure => simp [intOf]; omega
                · rw [if_neg hx0] at hds
                  have G2 := Lib.hid hds
                  clear htk hds
                  go_wp2_with fail
                  go_roundw
                  case rel => exact ⟨j + 1, d, by omega, by go_num, rfl, by trivial, G2, Lib.hid (by omega), G1⟩
                  case measure => simp [intOf]; omega
          · obtain rfl : j = m := by omega
            have hd := HD.out
            have hj := HJ.out
            rw [List.take_of_length_le (by rw [HM.out]; exact Nat.le_refl _)] at hd hj
            have HD2 := Lib.hid hd
            have HJ2 := Lib.hid hj
            have hdj := HDJ.out
            clear hd hj
            by_cases hi0 : i = 0
            · subst hi0
              have G1 : Hid (∀ t r, t < 0 + 1 → g[t]? = some r → RowOk k n t r) := Lib.hid (fun t r2 ht h2 => by
                obtain rfl : t = 0 := by omega
                rw [HR1.out] at h2
                rw [← Option.some.inj h2]
                exact ⟨HRL.out, HJ2.out, fun h => absurd rfl h⟩)
              go_wp2_with fail
              go_roundw
              case rel => exact ⟨0 + 1, by omega, by go_num, by trivial, G1⟩
              case measure => simp [intOf]; omega
            · have hi0I : (0 : Int) < i := by omega
              by_cases hd2 : d < 2
              · have hd2I : (d : Int) < 2 := by omega
                have HF : Hid (¬ IsG k g) := Lib.hid (fun ⟨k2, _, hg⟩ => by have := hg.deg i r HR1.out hi0; have := HD2.out; omega)
                go_wp2_with fail
                go_ret
                exact ⟨⟨50, rfl, .inr ⟨rfl, HF.out⟩⟩, HB.out⟩
              · have hd2I : ¬ (d : Int) < 2 := by omega
                have G1 : Hid (∀ t r, t < i + 1 → g[t]? = some r → RowOk k n t r) := Lib.hid (fun t r2 ht h2 => by
                  by_cases q : t = i
                  · subst q
                    rw [HR1.out] at h2
                    rw [← Option.some.inj h2]
                    exact ⟨HRL.out, HJ2.out, fun _ => by rw [HD2.out]; omega⟩
                  · exact HR0.out t r2 (by omega) h2)
                go_wp2_with fail
                go_roundw
                case rel => exact ⟨i + 1, by omega, by go_num, by trivial, G1⟩
                case measure => simp [intOf]; omega
      · have hmI : ¬ ((m : Int) = KK) := by omega
        have HF : Hid (¬ IsG k g) := Lib.hid (fun ⟨k2, e, hg⟩ => by
          have := (hg.row r (List.mem_of_getElem? HR1.out)).1
          rw [HM.out, HE.out k2 e, ← HKK.out] at this
          exact hmK this)
        go_wp2_with fail
        go_ret
        exact ⟨⟨50, rfl, .inr ⟨rfl, HF.out⟩⟩, HB.out⟩
    · obtain rfl : i = n := by omega
      have HS0 : Hid (∀ t r, t < 0 → g[t]? = some r → RowSym g t r) := Lib.hid (fun t r h => by omega)
      go_wp2_with fail
      go_loopw [76] (fun iv wr => ∃ v : Nat, v ≤ i ∧ iv = .int .i64 v ∧ w1 = wr ∧ Hid (∀ t r, t < v → g[t]? = some r → RowSym g t r)) (fun iv _ => i - (intOf iv).toNat)
      case atStart => exact ⟨0, by omega, rfl, by trivial, HS0⟩
      case round =>
        clear HS0
        obtain ⟨v, hv, rfl, rfl, HS0⟩ := hrel
        by_cases hlt : v < i
        · obtain ⟨r, hr1⟩ : ∃ r, g[v]? = some r := ⟨_, List.getElem?_eq_getElem (by rw [HN.out]; exact hlt)⟩
          obtain ⟨b1, v1, rfl, d1, e1⟩ := H1.out.at_ (Below.refl _ _) hr1
          obtain ⟨hok1, hok2, -⟩ := HR0.out v r hlt hr1
          rw [← HKK.out] at hok1
          obtain ⟨a2, c2, rfl, q1, q2⟩ := e1.shape hok1
          have i0 : (0 : Int) ≤ v := by omega
          have i1 : (v : Int) < i := by omega
          have HR1 := Lib.hid hr1
          have HM := Lib.hid hok1
          have HOK := Lib.hid hok2
          have HE1 := Lib.hid e1
          have HJ0 : Hid (∀ p u, p < 0 → r[p]? = some ((u : Nat) : Int) → nxT g u (p ^^^ 1) = some v) := Lib.hid (fun p u h => by omega)
          clear hr1 hok1 hok2 e1
          go_wp2_with fail
          go_loopw [83] (fun jv wr => ∃ j : Nat, j ≤ KK ∧ jv = .int .i64 j ∧ w1 = wr ∧ Hid (∀ p u, p < j → r[p]? = some ((u : Nat) : Int) → nxT g u (p ^^^ 1) = some v)) (fun jv _ => KK - (intOf jv).toNat)
          case atStart => exact ⟨0, by omega, rfl, by trivial, HJ0⟩
          case round =>
            clear HJ0
            obtain ⟨j, hj, rfl, rfl, HJ⟩ := hrel
            by_cases hlj : j < KK
            · obtain ⟨x, hx⟩ : ∃ x, r[j]? = some x := ⟨_, List.getElem?_eq_getElem (by rw [HM.out]; exact hlj)⟩
              obtain ⟨b2, rfl, d2⟩ := HE1.out.at_ (Below.refl _ _) hx
              obtain ⟨hx1, hx2⟩ := HOK.out x (List.mem_of_getElem? hx)
              have j0 : (0 : Int) ≤ j := by omega
              have j1 : (j : Int) < KK := by omega
              by_cases hx0 : 0 ≤ x
              · obtain ⟨t, rfl⟩ : ∃ t : Nat, x = t := ⟨x.toNat, by omega⟩
                have htn : t < i := by omega
                obtain ⟨r2, hr2⟩ : ∃ r2, g[t]? = some r2 := ⟨_, List.getElem?_eq_getElem (by rw [HN.out]; exact htn)⟩
                obtain ⟨b1', v2, e9, f1, g1⟩ := H1.out.at_ (Below.refl _ _) hr2
                obtain rfl : b1 = b1' := by simpa using e9
                have hok3 := (HR0.out t r2 htn hr2).1
                rw [← HKK.out] at hok3
                obtain ⟨a3, c3, rfl, s1, s2⟩ := g1.shape hok3
                have hx3 : bits BinOp.xor IntKind.i64 (j : Int) 1 = ((j ^^^ 1 : Nat) : Int) := xor_one_bits (by omega)
                have hq9 := xor_one_lt k j (by omega) (by rw [← HKK.out]; exact hlj)
                rw [← HKK.out] at hq9
                obtain ⟨q, hq⟩ : ∃ q, j ^^^ 1 = q := ⟨_, rfl⟩
                rw [hq] at hx3 hq9
                obtain ⟨y, hy⟩ : ∃ y, r2[q]? = some y := ⟨_, List.getElem?_eq_getElem (by rw [hok3]; exact hq9)⟩
                obtain ⟨b3, rfl, f2⟩ := g1.at_ (Below.refl _ _) hy
                have t0 : (0 : Int) ≤ t := by omega
                have t1 : (t : Int) < i := by omega
                have s0 : (0 : Int) ≤ q := by omega
                have s3 : (q : Int) < KK := by omega
                have HQ := Lib.hid hq
                have HY := Lib.hid hy
                have HR2 := Lib.hid hr2
                have HX2 := Lib.hid hx
                clear hr2 g1 hok3 hq hy hx e9
                by_cases hyv : y = v
                · subst hyv
                  have G1 : Hid (∀ p u, p < j + 1 → r[p]? = some ((u : Nat) : Int) → nxT g u (p ^^^ 1) = some v) := Lib.hid (fun p u hp hu => by
                    by_cases z : p = j
                    · subst z
                      rw [HX2.out] at hu
                      have : u = t := by have := Option.some.inj hu; omega
                      rw [this, HQ.out]
                      exact nxT_of HR2.out HY.out
                    · exact HJ.out p u (by omega) hu)
                  go_wp2_with fail
                  go_roundw
                  case rel => exact ⟨j + 1, by omega, by go_num, by trivial, G1⟩
                  case measure => simp [intOf]; omega
                · have HF : Hid (¬ IsG k g) := Lib.hid (fun ⟨k2, e, hg⟩ => by
                    have h9 := hg.sym v j t (by rw [HE.out k2 e, ← HKK.out]; exact hlj) (nxT_of HR1.out HX2.out)
                    rw [HQ.out] at h9
                    obtain ⟨r3, h10, h11⟩ := nxT_row h9
                    rw [HR2.out] at h10
                    rw [← Option.some.inj h10, HY.out] at h11
                    exact hyv (Option.some.inj h11))
                  go_wp2_with fail
                  go_ret
                  exact ⟨⟨50, rfl, .inr ⟨rfl, HF.out⟩⟩, HB.out⟩
              · have G1 : Hid (∀ p u, p < j + 1 → r[p]? = some ((u : Nat) : Int) → nxT g u (p ^^^ 1) = some v) := Lib.hid (fun p u hp hu => by
                  by_cases z : p = j
                  · subst z
                    rw [hx] at hu
                    have := Option.some.inj hu; omega
                  · exact HJ.out p u (by omega) hu)
                clear hx
                go_wp2_with fail
                go_roundw
                case rel => exact ⟨j + 1, by omega, by go_num, by trivial, G1⟩
                case measure => simp [intOf]; omega
            · obtain rfl : j = KK := by omega
              have G1 : Hid (∀ t r, t < v + 1 → g[t]? = some r → RowSym g t r) := Lib.hid (fun t r2 ht h2 => by
                by_cases z : t = v
                · subst z
                  rw [HR1.out] at h2
                  rw [← Option.some.inj h2]
                  intro p u hu
                  exact HJ.out p u (by rw [← HM.out]; exact (List.getElem?_eq_some_iff.1 hu).1) hu
                · exact HS0.out t r2 (by omega) h2)
              go_wp2_with fail
              go_roundw
              case rel => exact ⟨v + 1, by omega, by go_num, by trivial, G1⟩
              case measure => simp [intOf]; omega
        · obtain rfl : v = i := by omega
          have hrows : ∀ r ∈ g, r.length = 2 * k ∧ ∀ x ∈ r, -1 ≤ x ∧ x < (g.length : Int) := fun r hr => by
            obtain ⟨t, ht⟩ := List.mem_iff_getElem?.1 hr
            obtain ⟨h1, h2, -⟩ := HR0.out t r (by rw [← HN.out]; exact (List.getElem?_eq_some_iff.1 ht).1) ht
            exact ⟨h1, by rw [HN.out]; exact h2⟩
          have hgood : numN (nxT g) (List.range (2 * k)) 5000 0 [0] [] = g → GoodG k g := fun h => ⟨by omega, by omega, by rw [HN.out]; omega, by rw [HN.out]; omega, hrows,
            fun t r ht h0 => (HR0.out t r (by rw [← HN.out]; exact (List.getElem?_eq_some_iff.1 ht).1) ht).2.2 h0,
            fun t p u hp hu => by
              obtain ⟨r, h1, h2⟩ := nxT_row hu
              exact HS0.out t r (by rw [← HN.out]; exact (List.getElem?_eq_some_iff.1 h1).1) h1 p u h2, h⟩
          obtain ⟨N, hNe⟩ : ∃ N, numN (nxT g) (List.range (2 * k)) 5000 0 [0] [] = N := ⟨_, rfl⟩
          have hlen := numN_len (nxT g) (List.range (2 * k)) 5000 0 [0] [] (fun r hr => by (simp at hr))
          rw [hNe, List.length_range] at hlen
          have hfr : ∀ wx, Below w1.heap.size w1 wx → Calls Try.prog 88 #[.agg #[.int .i64 k, .slice va v vc], .int .i64 0] wx fun e w' => ∃ rv2, e = .returned (.agg #[.int .i64 k, rv2]) ∧ RowsR w' rv2 N ∧ Below wx.heap.size wx w' := fun wx hb => by
            have := from_any wx k (.slice va v vc) g (H1.out.keep hb) (by omega) (by omega) (by rw [HN.out]; omega) (by rw [HN.out]; omega) hrows
            rw [hNe] at this
            exact this
          rw [hNe] at hgood
          have HNL : Hid (N.length < 1000000000 ∧ ∀ r ∈ N, r.length < 1000000000) := Lib.hid ⟨by have := hlen.1; simp at this; omega, fun r hr => by rw [hlen.2 r hr]; omega⟩
          have hnot : IsG k g → N = g := fun ⟨k2, e, hg⟩ => by rw [← hNe, ← HE.out k2 e]; exact hg.num
          have HFR := Lib.hid hfr
          have HGOOD := Lib.hid hgood
          have HNOT := Lib.hid hnot
          clear hrows hgood hNe hlen hfr hnot HR0 HS0
          go_upto_region 30 with fail
          go_cut [111] (fun s wc => s = .bool (!decide (N = g)) ∧ Hid (Below w1.heap.size w1 wc))
          case first =>
            go_region_with (first
              | (go_at_call 88; refine (HFR.out _ ((Below.refl _ w1).drewN' 1)).mono ?_; rintro e w2 ⟨rv2, rfl, hr2, hb2⟩; have hb2' : Below w1.heap.size w1 w2 := ((Below.refl _ w1).drewN' 1).trans (by exact hb2); have cN2 := (HX.out.keep hb2').cell (j := 1) rfl; have hfld : (Instr.field 25 (.agg #[.int .i64 k, rv2]) 1).run Try.prog w2 = .ok rv2 w2 := (by kernel_rfl); dsimp only)
              | (go_at_call 87; refine (eqfunc_any w2 rv2 _ N g hr2 (H1.out.keep hb2') HNL.out.1 HNL.out.2).mono ?_; rintro e w3 ⟨rfl, hb3⟩; dsimp only))
            all_goals
              go_wp2_with fail
              go_meet
              exact ⟨rfl, Lib.hid (hb2'.trans (hb3.mono hb2'.size))⟩
          case rest =>
            obtain ⟨rfl, HBC⟩ := hcut
            have hbf := HB.out.trans (HBC.out.mono HB.out.size)
            by_cases hNg : N = g
            · have hd : decide (N = g) = true := decide_eq_true hNg
              rw [hd]
              have HGG := Lib.hid (HGOOD.out hNg)
              clear hd hNg
              go_wp2_with fail
              go_ret
              exact ⟨⟨0, rfl, .inl ⟨rfl, k, rfl, HGG.out⟩⟩, hbf⟩
            · have hd : decide (N = g) = false := decide_eq_false hNg
              rw [hd]
              have HF : Hid (¬ IsG k g) := Lib.hid (fun h => hNg (HNOT.out h))
              clear hd hNg
              go_wp2_with fail
              go_ret
              exact ⟨⟨50, rfl, .inr ⟨rfl, HF.out⟩⟩, hbf⟩
end Go.Proofs.Ytlooclpfoeakgaa

/- Index, Has at a good graph: the walks. -/
namespace Go.Proofs.Ytlooclpfoeakgaa
open Go.RowKit

theorem GoodG.isG {k : Nat} {g : List (List Int)} (h : GoodG k g) : IsG k g := ⟨k, rfl, h⟩
theorem GoodG.len9 {k : Nat} {g : List (List Int)} (h : GoodG k g) : g.length < 1000000 := by have := h.n5; omega
theorem GoodG.row9 {k : Nat} {g : List (List Int)} (h : GoodG k g) : ∀ r ∈ g, r.length < 1000000 := fun r hr => by have := (h.row r hr).1; have := h.k4; omega
theorem Check_good (w : World) (k : Nat) (rv : Value) (g : List (List Int)) (h : RowsR w rv g) (hg : GoodG k g) :
    Calls Try.prog 52 #[.agg #[.int .i64 k, rv]] w fun e w' => e = .returned (.int .i64 0) ∧ Below w.heap.size w w' := by
  refine (Check_any w k rv g h hg.len9 hg.row9).mono ?_
  rintro e w' ⟨⟨z, rfl, h1⟩, hb⟩
  rcases h1 with ⟨rfl, _⟩ | ⟨_, h2⟩
  · exact ⟨rfl, hb⟩
  · exact absurd hg.isG h2
theorem Check_bad (w : World) (K : Int) (rv : Value) (g : List (List Int)) (h : RowsR w rv g) (hl : g.length < 1000000) (hr : ∀ r ∈ g, r.length < 1000000) (hg : ¬ IsG K g) :
    Calls Try.prog 52 #[.agg #[.int .i64 K, rv]] w fun e w' => e = .returned (.int .i64 50) ∧ Below w.heap.size w w' := by
  refine (Check_any w K rv g h hl hr).mono ?_
  rintro e w' ⟨⟨z, rfl, h1⟩, hb⟩
  rcases h1 with ⟨_, h2⟩ | ⟨rfl, _⟩
  · exact absurd h2 hg
  · exact ⟨rfl, hb⟩

set_option maxRecDepth 100000 in
set_option maxHeartbeats 1000000 in
theorem Index_good (w : World) (k : Nat) (rv : Value) (g : List (List Int)) (h : RowsR w rv g) (hg : GoodG k g) :
    Calls Try.prog 24 #[.agg #[.int .i64 k, rv]] w fun e w' => e = .returned (.tuple #[.int .i64 (if wholeG g = true then (g.length : Int) else 0), .bool (wholeG g), .int .i64 0]) ∧ Below w.heap.size w w' := by
  obtain ⟨w1, hw1⟩ : ∃ w1, w1 = w.alloc (.cells #[.int .i64 k, rv] 25) := ⟨_, rfl⟩
  have hb1 : Below w.heap.size w w1 := by rw [hw1]; exact (Below.refl _ w).alloc (Nat.le_refl _) _
  have hx1 : Blk w1 w.heap.size 25 [.int .i64 k, rv] := by rw [hw1]; exact Blk.new w 25 [.int .i64 k, rv]
  have h1 := h.keep hb1
  have hck := Check_good w1 k rv g h1 hg
  obtain ⟨n, hn⟩ : ∃ n, g.length = n := ⟨_, rfl⟩
  obtain ⟨va, vc, rfl, -, -⟩ := h1.shape hn
  have c0 := hx1.cell (j := 0) rfl
  have c1 := hx1.cell (j := 1) rfl
  have hwh := fun wx (hb : Below w1.heap.size w1 wx) => whole_any wx (.int .i64 k) _ g (h1.keep hb) (by have := hg.len9; omega) (fun r hr => by have := hg.row9 r hr; omega)
  rw [hn]
  have HCK := Lib.hid hck
  have HWH := Lib.hid hwh
  have HX := Lib.hid hx1
  have HB := Lib.hid hb1
  clear h h1 hck hwh hx1 hb1 hg hn
  go_enter Try.func24, Try.ntmps24
  go_upto_region 1 with fail
  rw [← hw1]
  clear hw1
  go_upto_region 4 with (go_at_call 52; refine HCK.out.mono ?_; rintro e w2 ⟨rfl, hb2⟩)
  have d0 := (HX.out.keep hb2).cell (j := 0) rfl
  have d1 := (HX.out.keep hb2).cell (j := 1) rfl
  have hW := HWH.out w2 hb2
  have HW := Lib.hid hW
  have HB2 := Lib.hid hb2
  clear hW hb2 HWH HCK
  cases hwg : wholeG g with
  | true =>
    rw [hwg] at HW
    go_upto_region 6 with (go_at_call 69; refine HW.out.mono ?_; rintro e w3 ⟨rfl, hb3⟩)
    have f1 := (HX.out.keep (HB2.out.trans (hb3.mono HB2.out.size))).cell (j := 1) rfl
    have HB3 := Lib.hid (HB.out.trans ((HB2.out.trans (hb3.mono HB2.out.size)).mono HB.out.size))
    clear hb3 d0 d1
    go_wp2_with fail
    go_ret3
    exact ⟨rfl, HB3.out⟩
  | false =>
    rw [hwg] at HW
    go_wp2_with (go_at_call 69; refine HW.out.mono ?_; rintro e w3 ⟨rfl, hb3⟩; have HB3 := Lib.hid (HB.out.trans ((HB2.out.trans (hb3.mono HB2.out.size)).mono HB.out.size)))
    all_goals
      go_ret3
      exact ⟨rfl, HB3.out⟩

/-! ### where a word leads -/
theorem leads_snoc {k : Nat} {nx : Nat → Nat → Option Nat} {v : Nat} {l : List UInt8} {c : UInt8} : runS (stepL k nx) v (l ++ [c]) = (runS (stepL k nx) v l).bind fun u => stepL k nx u c := by
  rw [run_app]
  cases runS (stepL k nx) v l with
  | none => rfl
  | some u => exact run_one u c
theorem leads_stop {k : Nat} {nx : Nat → Nat → Option Nat} {v j : Nat} {l : List UInt8} (h : runS (stepL k nx) v (l.take j) = none) : runS (stepL k nx) v l = none := by
  rw [← List.take_append_drop j l, run_app, h]; rfl

set_option maxRecDepth 100000 in
set_option maxHeartbeats 2000000 in
theorem leads_any (w : World) (k : Nat) (rv : Value) (g : List (List Int)) (h : RowsR w rv g) (hg : GoodG k g) (v : Nat) (hv : v < g.length) (s : ByteArray) (hs : s.size < 1000000000) (hw : isWord (bts s) = true) (hf : fitW k (bts s) = true) :
    Calls Try.prog 75 #[.agg #[.int .i64 k, rv], .int .i64 v, .string s] w fun e w' => e = .returned (.int .i64 (optI (runS (stepL k (nxT g)) v (bts s)))) ∧ Below w.heap.size w w' := by
  obtain ⟨w1, hw1⟩ : ∃ w1, w1 = w.alloc (.cells #[.int .i64 k, rv] 25) := ⟨_, rfl⟩
  have hb1 : Below w.heap.size w w1 := by rw [hw1]; exact (Below.refl _ w).alloc (Nat.le_refl _) _
  have hx1 : Blk w1 w.heap.size 25 [.int .i64 k, rv] := by rw [hw1]; exact Blk.new w 25 [.int .i64 k, rv]
  have h1 := h.keep hb1
  obtain ⟨n, hn⟩ : ∃ n, g.length = n := ⟨_, rfl⟩
  obtain ⟨va, vc, rfl, hv1, hv2⟩ := h1.shape hn
  rw [hn] at hv
  have hlet : ∀ c ∈ bts s, letter c.toNat = true ∧ placeB c < 2 * k := fun c hc => ⟨List.all_eq_true.1 (show (bts s).all _ = true from hw) c hc, of_decide_eq_true (List.all_eq_true.1 hf c hc)⟩
  have hst : ∀ u p, nxT g u p ≠ none → True := fun _ _ _ => trivial
  have hrow := hg.row
  rw [hn] at hrow
  have HX := Lib.hid hx1
  have HB := Lib.hid hb1
  have H1 := Lib.hid h1
  have HLET := Lib.hid hlet
  have HROW := Lib.hid hrow
  have HN := Lib.hid hn
  have hn5 : n ≤ 5000 := by rw [← hn]; exact hg.n5
  have hk4 := hg.k4
  obtain ⟨KK, hKK⟩ : ∃ KK, KK = 2 * k := ⟨_, rfl⟩
  have HKK := Lib.hid hKK
  have HO : Hid (runS (stepL k (nxT g)) v ((bts s).take 0) = some v ∧ ∀ u, some v = some u → u < n) := Lib.hid ⟨rfl, fun u e => by cases e; exact hv⟩
  have HBW := Lib.hid (Below.refl w1.heap.size w1)
  clear h h1 hb1 hx1 hlet hst hw hf hn hrow hg hKK
  go_enter Try.func75, Try.ntmps75
  go_upto_region 1 with fail
  rw [← hw1]
  clear hw1
  go_wp2_with fail
  go_loopw [7, 1] (fun iv ov wr => ∃ (j : Nat) (o : Option Nat) (z : Int), j ≤ s.size ∧ iv = .int .i64 j ∧ ov = .int .i64 z ∧ Hid (z = optI o) ∧ Hid (runS (stepL k (nxT g)) v ((bts s).take j) = o ∧ ∀ u, o = some u → u < n) ∧ Hid (Below w1.heap.size w1 wr)) (fun iv _ _ => s.size - (intOf iv).toNat)
  case atStart => exact ⟨0, some v, v, by omega, rfl, rfl, Lib.hid rfl, HO, HBW⟩
  case round =>
    clear HO HBW
    obtain ⟨j, o, z, hj, rfl, rfl, HZ, HO, HBW⟩ := hrel
    by_cases hlt : j < s.size
    · have hltI : (j : Int) < s.size := by omega
      cases o with
      | none =>
        obtain rfl : z = -1 := HZ.out
        have hres : Hid (runS (stepL k (nxT g)) v (bts s) = none) := Lib.hid (leads_stop HO.out.1)
        go_wp2_with fail
        go_ret
        exact ⟨by rw [hres.out]; rfl, HB.out.trans (HBW.out.mono HB.out.size)⟩
      | some u =>
        obtain rfl : z = (u : Int) := HZ.out
        have hu := HO.out.2 u rfl
        have hc1 := (HX.out.keep HBW.out).cell (j := 1) rfl
        obtain ⟨r, hr⟩ : ∃ r, g[u]? = some r := ⟨_, List.getElem?_eq_getElem (by rw [HN.out]; exact hu)⟩
        obtain ⟨b1, v1, rfl, d1, e1⟩ := H1.out.at_ HBW.out hr
        obtain ⟨hl1, hl2⟩ := HROW.out r (List.mem_of_getElem? hr)
        rw [← HKK.out] at hl1
        obtain ⟨a2, c2, rfl, q1, q2⟩ := e1.shape hl1
        have hcj := bts_get hlt
        obtain ⟨c, hcc⟩ : ∃ c, s[j]'hlt = c := ⟨_, rfl⟩
        rw [hcc] at hcj
        obtain ⟨hcl, hcp⟩ := HLET.out c (List.mem_of_getElem? hcj)
        rw [← HKK.out] at hcp
        obtain ⟨x, hx⟩ : ∃ x, r[placeB c]? = some x := ⟨_, List.getElem?_eq_getElem (by rw [hl1]; exact hcp)⟩
        obtain ⟨b2, rfl, d2⟩ := e1.at_ (Below.refl _ _) hx
        obtain ⟨hx1, hx2⟩ := hl2 x (List.mem_of_getElem? hx)
        have hxo : x = optI (nxT g u (placeB c)) := (nxT_opt (by unfold atG; rw [hr]; exact hx) hx1).symm
        have hnx : runS (stepL k (nxT g)) v ((bts s).take (j + 1)) = nxT g u (placeB c) := by
          rw [List.take_add_one, hcj, Option.toList_some, leads_snoc, HO.out.1]
          show stepL k (nxT g) u c = _
          unfold stepL
          rw [if_pos ⟨hcl, by rw [← HKK.out]; exact hcp⟩]
        have hbd : ∀ y, nxT g u (placeB c) = some y → y < n := fun y hy => by
          rw [hy] at hxo
          have : x = (y : Int) := hxo
          omega
        have HPL := Lib.hid (fun wx => place_any c wx hcl)
        obtain ⟨p, hp⟩ : ∃ p, placeB c = p := ⟨_, rfl⟩
        rw [hp] at hcp d2 HPL hxo hnx hbd
        have i0 : (0 : Int) ≤ u := by omega
        have i1 : (u : Int) < n := by omega
        have p0 : (0 : Int) ≤ p := by omega
        have p1 : (p : Int) < KK := by omega
        have j0 : (0 : Int) ≤ j := by omega
        have G1 := Lib.hid hxo
        have G2 := Lib.hid (And.intro hnx hbd)
        clear hr e1 hl1 hl2 hcj hcl hx hxo hnx hbd hp HO HZ
        go_upto_region 4 with fail
        go_quiet ((go_at_call 76; exact Calls.quiet_of_same (HPL.out _)))
        generalize nq = na
        have HB2 : Hid (Below w1.heap.size w1 (wr.drewN na)) := Lib.hid (HBW.out.trans ((Below.refl _ _).drewN' _))
        go_wp2_with fail
        go_roundw
        case rel => exact ⟨j + 1, _, x, by omega, by go_num, rfl, G1, G2, HB2⟩
        case measure => simp [intOf]; omega
    · obtain rfl : j = s.size := by omega
      have hres := HO.out.1
      rw [List.take_of_length_le (by rw [bts_len]; exact Nat.le_refl _)] at hres
      have HRES := Lib.hid hres
      have hz := HZ.out
      have HZ2 := Lib.hid hz
      clear hres hz
      go_wp2_with fail
      go_ret
      exact ⟨by rw [HRES.out, ← HZ2.out]; rfl, HB.out.trans (HBW.out.mono HB.out.size)⟩

/-! ### whether a word is in the group -/
set_option maxRecDepth 100000 in
set_option maxHeartbeats 1000000 in
theorem read_good (w : World) (k : Nat) (rv : Value) (g : List (List Int)) (h : RowsR w rv g) (hg : GoodG k g) (s : ByteArray) (hs : s.size ≤ 9223372036854775807) :
    Calls Try.prog 74 #[.agg #[.int .i64 k, rv], .string s] w fun e w' => e = .returned (.tuple #[.string (if cwErr k s = 0 then strB (redW (bts s)) else ⟨#[]⟩), .int .i64 (cwErr k s)]) ∧ Below w.heap.size w w' := by
  obtain ⟨w1, hw1⟩ : ∃ w1, w1 = w.alloc (.cells #[.int .i64 k, rv] 25) := ⟨_, rfl⟩
  have hb1 : Below w.heap.size w w1 := by rw [hw1]; exact (Below.refl _ w).alloc (Nat.le_refl _) _
  have hx1 : Blk w1 w.heap.size 25 [.int .i64 k, rv] := by rw [hw1]; exact Blk.new w 25 [.int .i64 k, rv]
  have h1 := h.keep hb1
  have hk4 := hg.k4
  have HCK := Lib.hid (Check_good w1 k rv g h1 hg)
  have HCW := Lib.hid (fun wx => checkWord_any k s wx (by omega) hs)
  have HRD := Lib.hid (fun wx => Reduce_any s wx hs)
  have c0 := hx1.cell (j := 0) rfl
  have c1 := hx1.cell (j := 1) rfl
  have HX := Lib.hid hx1
  have HB := Lib.hid hb1
  clear h h1 hx1 hb1 hg
  by_cases h0 : cwErr k s = 0
  · have hwe : wordErr s = 0 := by
      unfold cwErr at h0
      split at h0
      · assumption
      · exact h0
    rw [h0] at HCW ⊢
    rw [hwe] at HRD
    go_enter Try.func74, Try.ntmps74
    go_upto_region 1 with fail
    rw [← hw1]
    clear hw1
    go_upto_region 4 with (go_at_call 52; refine HCK.out.mono ?_; rintro e w2 ⟨rfl, hb2⟩)
    have d0 := (HX.out.keep hb2).cell (j := 0) rfl
    have HB2 := Lib.hid (HB.out.trans (hb2.mono HB.out.size))
    clear hb2
    go_wp2_with (first
      | (go_at_call 60; refine (HCW.out _).mono ?_; rintro e w3 ⟨rfl, hb3⟩; have HB3 := Lib.hid (HB2.out.trans (hb3.mono HB2.out.size)); clear hb3)
      | (go_at_call 119; refine (HRD.out _).mono ?_; rintro e w4 ⟨rfl, hb4⟩; have HB4 := Lib.hid (HB3.out.trans (hb4.mono HB3.out.size)); clear hb4))
    go_ret2
    exact ⟨by first | rfl | (rw [if_pos rfl]; rfl) | (rw [if_pos rfl, if_pos rfl]; rfl), HB4.out⟩
  · obtain ⟨z, hz⟩ : ∃ z, cwErr k s = z := ⟨_, rfl⟩
    rw [hz] at h0 HCW ⊢
    go_enter Try.func74, Try.ntmps74
    go_upto_region 1 with fail
    rw [← hw1]
    clear hw1
    go_upto_region 4 with (go_at_call 52; refine HCK.out.mono ?_; rintro e w2 ⟨rfl, hb2⟩)
    have d0 := (HX.out.keep hb2).cell (j := 0) rfl
    have HB2 := Lib.hid (HB.out.trans (hb2.mono HB.out.size))
    clear hb2
    go_wp2_with (go_at_call 60; refine (HCW.out _).mono ?_; rintro e w3 ⟨rfl, hb3⟩; have HB3 := Lib.hid (HB2.out.trans (hb3.mono HB2.out.size)); clear hb3)
    go_ret2
    exact ⟨by first | rfl | (rw [if_neg h0]; rfl), HB3.out⟩
/-- whether a word is in the group of a graph -/
def inG (k : Nat) (g : List (List Int)) (l : List UInt8) : Bool := decide (runS (stepL k (nxT g)) 0 (redW l) = some 0)
theorem optI_zero {o : Option Nat} : optI o = 0 ↔ o = some 0 := by
  cases o with
  | none => simp [optI]
  | some u => simp only [optI, Option.some.injEq]; omega
set_option maxRecDepth 100000 in
set_option maxHeartbeats 1000000 in
theorem Has_good (w : World) (k : Nat) (rv : Value) (g : List (List Int)) (h : RowsR w rv g) (hg : GoodG k g) (s : ByteArray) (hs : s.size < 1000000000) (h0 : cwErr k s = 0) :
    Calls Try.prog 31 #[.agg #[.int .i64 k, rv], .string s] w fun e w' => e = .returned (.tuple #[.bool (inG k g (bts s)), .int .i64 0]) ∧ Below w.heap.size w w' := by
  obtain ⟨w1, hw1⟩ : ∃ w1, w1 = w.alloc (.cells #[.int .i64 k, rv] 25) := ⟨_, rfl⟩
  have hb1 : Below w.heap.size w w1 := by rw [hw1]; exact (Below.refl _ w).alloc (Nat.le_refl _) _
  have hx1 : Blk w1 w.heap.size 25 [.int .i64 k, rv] := by rw [hw1]; exact Blk.new w 25 [.int .i64 k, rv]
  have h1 := h.keep hb1
  have hrd := read_good w1 k rv g h1 hg s (by omega)
  rw [h0, if_pos rfl] at hrd
  obtain ⟨hw, hf⟩ : isWord (bts s) = true ∧ fitW k (bts s) = true := by
    unfold cwErr at h0
    split at h0
    · rename_i he
      refine ⟨word_of he, ?_⟩
      split at h0
      · assumption
      · cases h0
    · rename_i he; exact absurd h0 he
  have hsub : ∀ c ∈ redW (bts s), c ∈ bts s := fun c hc => by
    have : ∀ (l : List UInt8) (x : UInt8), x ∈ redW l → x ∈ l := by
      intro l
      suffices H : ∀ (n : Nat) (l : List UInt8), l.length = n → ∀ x, x ∈ redW l → x ∈ l from H _ l rfl
      intro n
      induction n with
      | zero => intro l hl x hx; obtain rfl := List.eq_nil_of_length_eq_zero hl; exact hx
      | succ n ih =>
        intro l hl x hx
        rcases List.eq_nil_or_concat l with rfl | ⟨q, d, rfl⟩
        · exact hx
        · rw [List.concat_eq_append] at *
          have h1 := ih q (by simpa using hl)
          rw [redW_snoc] at hx
          rcases putL_cases (redW q) d with ⟨m, e1, e⟩ | ⟨e1, e⟩ | ⟨m, y, e1, _, e⟩
          · rw [e] at hx
            exact List.mem_append_left _ (h1 x (by rw [e1]; exact List.mem_append_left _ hx))
          · rw [e] at hx
            exact List.mem_append_right _ hx
          · rw [e] at hx
            rcases List.mem_append.1 hx with hx | hx
            · exact List.mem_append_left _ (h1 x (by rw [e1]; exact List.mem_append_left _ hx))
            · rcases List.mem_cons.1 hx with hx | hx
              · exact List.mem_append_left _ (h1 x (by rw [e1, hx]; simp))
              · exact List.mem_append_right _ hx
    exact this _ _ hc
  obtain ⟨W, hWW⟩ : ∃ W, strB (redW (bts s)) = W := ⟨_, rfl⟩
  have hWb : bts W = redW (bts s) := by rw [← hWW]
  have hWs : W.size ≤ s.size := by rw [← bts_len, hWb]; exact Nat.le_trans (redW_len _) (by rw [bts_len]; exact Nat.le_refl _)
  have hWw : isWord (bts W) = true := by
    rw [hWb]
    exact List.all_eq_true.2 fun c hc => List.all_eq_true.1 (show (bts s).all _ = true from hw) c (hsub c hc)
  have hWf : fitW k (bts W) = true := by
    rw [hWb]
    exact List.all_eq_true.2 fun c hc => List.all_eq_true.1 hf c (hsub c hc)
  rw [hWW] at hrd
  have hld := fun wx (hb : Below w1.heap.size w1 wx) => leads_any wx k rv g (h1.keep hb) hg 0 hg.n1 W (by omega) hWw hWf
  have c0 := hx1.cell (j := 0) rfl
  have c1 := hx1.cell (j := 1) rfl
  have HRD := Lib.hid hrd
  have HLD := Lib.hid hld
  have HWB := Lib.hid hWb
  have HX := Lib.hid hx1
  have HB := Lib.hid hb1
  clear h h1 hx1 hb1 hg hrd hld hWb hWw hWf hWW hw hf hsub h0
  go_enter Try.func31, Try.ntmps31
  go_upto_region 1 with fail
  rw [← hw1]
  clear hw1
  go_upto_region 4 with (go_at_call 74; refine HRD.out.mono ?_; rintro e w2 ⟨rfl, hb2⟩)
  have d0 := (HX.out.keep hb2).cell (j := 0) rfl
  have d1 := (HX.out.keep hb2).cell (j := 1) rfl
  have HL := Lib.hid (HLD.out w2 hb2)
  have HB2 := Lib.hid (HB.out.trans (hb2.mono HB.out.size))
  clear hb2 HLD HRD
  obtain ⟨z, hz⟩ : ∃ z, optI (runS (stepL k (nxT g)) 0 (bts W)) = z := ⟨_, rfl⟩
  rw [hz] at HL
  have hin : inG k g (bts s) = decide (z = 0) := by
    unfold inG
    rw [← HWB.out, ← hz]
    exact Bool.eq_iff_iff.2 (by rw [decide_eq_true_iff, decide_eq_true_iff]; exact optI_zero.symm)
  have HIN := Lib.hid hin
  clear hin hz
  go_wp2_with (go_at_call 75; refine HL.out.mono ?_; rintro e w3 ⟨rfl, hb3⟩; have HB3 := Lib.hid (HB2.out.trans (hb3.mono HB2.out.size)); clear hb3)
  go_ret2
  exact ⟨by rw [HIN.out]; rfl, HB3.out⟩
end Go.Proofs.Ytlooclpfoeakgaa

/- The edges by which vertices are first met: the walk of tree. -/
namespace Go.Proofs.Ytlooclpfoeakgaa
open Go.RowKit

/-! ### lists that are tables -/
def tabV {α : Type} (F : Nat → α) (n : Nat) : List α := (List.range n).map F
theorem tabV_len {α : Type} (F : Nat → α) (n : Nat) : (tabV F n).length = n := by simp [tabV]
theorem tabV_get {α : Type} (F : Nat → α) {n j : Nat} (h : j < n) : (tabV F n)[j]? = some (F j) := by simp [tabV, List.getElem?_range h]
theorem tabV_none {α : Type} (F : Nat → α) {n j : Nat} (h : n ≤ j) : (tabV F n)[j]? = none := List.getElem?_eq_none (by rw [tabV_len]; exact h)
theorem tabV_set {α : Type} (F : Nat → α) (n j : Nat) (x : α) : (tabV F n).set j x = tabV (fun i => if i = j then x else F i) n := by
  apply List.ext_getElem?
  intro i
  rcases Nat.lt_or_ge i n with h | h
  · rw [tabV_get _ h]
    by_cases q : i = j
    · subst q
      rw [List.getElem?_set_self (by rw [tabV_len]; exact h), if_pos rfl]
    · rw [List.getElem?_set_ne (fun e => q e.symm), tabV_get _ h, if_neg q]
  · rw [tabV_none _ h, List.getElem?_eq_none (by rw [List.length_set, tabV_len]; exact h)]
theorem tabV_congr {α : Type} {F G : Nat → α} {n : Nat} (h : ∀ j, j < n → F j = G j) : tabV F n = tabV G n := by
  apply List.ext_getElem?
  intro i
  rcases Nat.lt_or_ge i n with q | q
  · rw [tabV_get _ q, tabV_get _ q, h i q]
  · rw [tabV_none _ q, tabV_none _ q]
theorem tabV_const {α : Type} (x : α) (n : Nat) : tabV (fun _ => x) n = List.replicate n x := by
  apply List.ext_getElem?
  intro i
  rcases Nat.lt_or_ge i n with q | q
  · rw [tabV_get _ q, List.getElem?_replicate, if_pos q]
  · rw [tabV_none _ q, List.getElem?_eq_none (by simpa using q)]
/-- cells of pairs -/
def pairV (f : Nat → Nat × Nat) (j : Nat) : Value := .int .i64 (if j % 2 = 0 then ((f (j / 2)).1 : Int) else ((f (j / 2)).2 : Int))
theorem pairV_one (f : Nat → Nat × Nat) (t : Nat) : pairV f (t * 2) = .int .i64 ((f t).1 : Int) := by
  unfold pairV
  rw [if_pos (by omega), show t * 2 / 2 = t by omega]
theorem pairV_two (f : Nat → Nat × Nat) (t : Nat) : pairV f (t * 2 + 1) = .int .i64 ((f t).2 : Int) := by
  unfold pairV
  rw [if_neg (by omega), show (t * 2 + 1) / 2 = t by omega]
theorem pair_set (f : Nat → Nat × Nat) (n t a b : Nat) : ((tabV (pairV f) n).set (t * 2) (.int .i64 (a : Int))).set (t * 2 + 1) (.int .i64 (b : Int)) = tabV (pairV fun s => if s = t then (a, b) else f s) n := by
  rw [tabV_set, tabV_set]
  refine tabV_congr fun j _ => ?_
  by_cases q1 : j = t * 2 + 1
  · subst q1
    rw [if_pos rfl, pairV_two, if_pos rfl]
  · rw [if_neg q1]
    by_cases q2 : j = t * 2
    · subst q2
      rw [if_pos rfl, pairV_one, if_pos rfl]
    · rw [if_neg q2]
      unfold pairV
      rw [show (fun s => if s = t then (a, b) else f s) (j / 2) = f (j / 2) from if_neg (by omega)]

/-! ### who is first met by which edge -/
def hitP (g : List (List Int)) (t : Nat) (q : Nat × Nat) : Bool := decide (nxT g q.1 q.2 = some t)
def treeF (g : List (List Int)) (L : List (Nat × Nat)) (t : Nat) : Nat × Nat := if t = 0 then (0, 0) else (L.find? (hitP g t)).getD (0, 0)
def metF (g : List (List Int)) (L : List (Nat × Nat)) (t : Nat) : Bool := decide (t = 0) || (L.find? (hitP g t)).isSome
/-- the places ahead of (i, j) -/
def scanN (K i j : Nat) : List (Nat × Nat) := ((List.range i).flatMap fun v => (List.range K).map fun p => (v, p)) ++ (List.range j).map fun p => (i, p)
theorem scan_step (K i j : Nat) : scanN K i (j + 1) = scanN K i j ++ [(i, j)] := by
  unfold scanN
  rw [List.range_succ, List.map_append, List.append_assoc]; rfl
theorem scan_next (K i : Nat) : scanN K i K = scanN K (i + 1) 0 := by
  unfold scanN
  rw [List.range_succ, List.flatMap_append]
  simp
theorem find_none {g : List (List Int)} {L : List (Nat × Nat)} {q : Nat × Nat} {t : Nat} (h : nxT g q.1 q.2 ≠ some t) : (L ++ [q]).find? (hitP g t) = L.find? (hitP g t) := by
  rw [List.find?_append]
  have : [q].find? (hitP g t) = none := by
    rw [List.find?_singleton, if_neg]
    unfold hitP
    simpa using h
  rw [this, Option.or_none]
theorem find_met {g : List (List Int)} {L : List (Nat × Nat)} {q : Nat × Nat} {t : Nat} (h : (L.find? (hitP g t)).isSome = true) : (L ++ [q]).find? (hitP g t) = L.find? (hitP g t) := by
  rw [List.find?_append]
  cases hf : L.find? (hitP g t) with
  | none => rw [hf] at h; cases h
  | some x => rfl
theorem find_new {g : List (List Int)} {L : List (Nat × Nat)} {q : Nat × Nat} {t : Nat} (h : nxT g q.1 q.2 = some t) (h2 : L.find? (hitP g t) = none) : (L ++ [q]).find? (hitP g t) = some q := by
  rw [List.find?_append, h2, Option.none_or, List.find?_singleton, if_pos]
  unfold hitP
  simpa using h
theorem tree_same {g : List (List Int)} {L : List (Nat × Nat)} {q : Nat × Nat} (h : ∀ t, nxT g q.1 q.2 = some t → metF g L t = true) : treeF g (L ++ [q]) = treeF g L ∧ metF g (L ++ [q]) = metF g L := by
  have key : ∀ t, t ≠ 0 → (L ++ [q]).find? (hitP g t) = L.find? (hitP g t) := fun t ht => by
    by_cases e : nxT g q.1 q.2 = some t
    · refine find_met ?_
      have := h t e
      unfold metF at this
      simpa [ht] using this
    · exact find_none e
  constructor
  · funext t
    unfold treeF
    by_cases ht : t = 0
    · rw [if_pos ht, if_pos ht]
    · rw [if_neg ht, if_neg ht, key t ht]
  · funext t
    unfold metF
    by_cases ht : t = 0
    · simp [ht]
    · rw [key t ht]
theorem tree_new {g : List (List Int)} {L : List (Nat × Nat)} {q : Nat × Nat} {t : Nat} (h : nxT g q.1 q.2 = some t) (hm : metF g L t = false) : treeF g (L ++ [q]) = (fun s => if s = t then q else treeF g L s) ∧ metF g (L ++ [q]) = fun s => if s = t then true else metF g L s := by
  unfold metF at hm
  simp only [Bool.or_eq_false_iff, decide_eq_false_iff_not, Option.isSome_eq_false_iff, Option.isNone_iff_eq_none] at hm
  obtain ⟨ht, hm⟩ := hm
  have h1 := find_new h hm
  constructor
  · funext s
    unfold treeF
    by_cases q1 : s = t
    · subst q1
      rw [if_neg ht, h1, if_pos rfl]; rfl
    · rw [if_neg q1]
      by_cases q2 : s = 0
      · rw [if_pos q2, if_pos q2]
      · rw [if_neg q2, if_neg q2, find_none (by rw [h]; exact fun e => q1 (Option.some.inj e).symm)]
  · funext s
    unfold metF
    by_cases q1 : s = t
    · subst q1
      rw [h1, if_pos rfl]; simp
    · rw [if_neg q1, find_none (by rw [h]; exact fun e => q1 (Option.some.inj e).symm)]

theorem Try.info120 : (Try.prog.info? 120).map (fun i => (i.zero, i.size, i.bytes)) = some (some (.agg #[.int .i64 0, .int .i64 0]), 2, 16) := by kernel_rfl
theorem Try.info4 : (Try.prog.info? 4).map (fun i => (i.zero, i.size, i.bytes)) = some (some (.bool false), 1, 1) := by kernel_rfl
theorem Try.size120 : (Try.prog.info? 120).map (·.size) = some 2 := by kernel_rfl
theorem made_two (n : Nat) : (madeCells #[Value.int .i64 0, .int .i64 0] (n * 2)).toList = List.replicate (n * 2) (.int .i64 0) := by
  unfold madeCells
  apply List.ext_getElem?
  intro i
  rw [List.getElem?_replicate]
  rcases Nat.lt_or_ge i (n * 2) with h | h
  · rw [if_pos h]
    have : i % 2 = 0 ∨ i % 2 = 1 := by omega
    rcases this with q | q <;> simp [h, q]
  · rw [if_neg (by omega)]
    simp; omega
end Go.Proofs.Ytlooclpfoeakgaa

/- The edges by which vertices are first met: the walk of tree. -/
namespace Go.Proofs.Ytlooclpfoeakgaa
open Go.RowKit

section
variable {P : Program} {w : World} {ops : Array Oper} {rest : List Oper} {o : Oper} {a : Act} {Q : Exit → Act → World → Prop}
/-- a struct of two cells is stored amid a block -/
theorem wpList_storeM {b e : Nat} {us : List Value} (h : Blk w b e us) {off : Nat} (hl : off + 1 < us.length) {ty : TypeId} (hi : (P.info? ty).map (·.size) = some 2) {x0 x1 : Value} (h0 : x0.oneCell' = true) (h1 : x1.oneCell' = true)
    (hgd : o.guard = none) (x y : Operand) (ho : o.op = .store ty x y) (hx : a.eval x = .pointer (some ⟨b, off, none⟩)) (hy : a.eval y = .agg #[x0, x1])
    (hK : wpList P ops Q rest (a.put o.dst undef) ((w.setCell ⟨b, off, none⟩ x0).setCell ⟨b, off + 1, none⟩ x1)) : wpList P ops Q (o :: rest) a w := by
  refine wpList_store_mid hgd ty x y ho b off #[x0, x1] hx hy (fun j hj => ?_) (by rw [hi]; rfl) (by simp [h0, h1]) hK
  have hj2 : j < 2 := hj
  exact ⟨by rw [h.cell (List.getElem?_eq_getElem (show off + j < us.length by omega))]; rfl, h.free _⟩
end
theorem metC (F : Nat → Bool) (n : Nat) {t : Nat} (h : t < n) : (tabV (fun j => Value.bool (F j)) n)[t]? = some (.bool (F t)) := tabV_get _ h

set_option maxRecDepth 100000 in
set_option maxHeartbeats 4000000 in
theorem tree_any (w : World) (k : Nat) (rv : Value) (g : List (List Int)) (h : RowsR w rv g) (hg : GoodG k g) :
    Calls Try.prog 117 #[.agg #[.int .i64 k, rv]] w fun e w' => ∃ ob, e = .returned (.slice (some ⟨ob, 0, none⟩) g.length g.length) ∧ w.heap.size ≤ ob ∧ Blk w' ob 120 (tabV (pairV (treeF g (scanN (2 * k) g.length 0))) (g.length * 2)) ∧ Below w.heap.size w w' := by
  obtain ⟨w1, hw1⟩ : ∃ w1, w1 = w.alloc (.cells #[.int .i64 k, rv] 25) := ⟨_, rfl⟩
  have hb1 : Below w.heap.size w w1 := by rw [hw1]; exact (Below.refl _ w).alloc (Nat.le_refl _) _
  have hx1 : Blk w1 w.heap.size 25 [.int .i64 k, rv] := by rw [hw1]; exact Blk.new w 25 [.int .i64 k, rv]
  have hs1 : w1.heap.size = w.heap.size + 1 := by rw [hw1]; simp
  have h1 := h.keep hb1
  obtain ⟨n, hn⟩ : ∃ n, g.length = n := ⟨_, rfl⟩
  obtain ⟨va, vc, rfl, hv1, hv2⟩ := h1.shape hn
  have hrow := hg.row
  have hn1 := hg.n1
  have hn5 := hg.n5
  rw [hn] at hrow hn1 hn5 ⊢
  have hk4 := hg.k4
  obtain ⟨K, hK⟩ : ∃ K, 2 * k = K := ⟨_, rfl⟩
  have hK8 : K ≤ 8 := by omega
  have hmade := made_two n
  obtain ⟨i120, y1, y2, y3, y4⟩ := info_parts Try.info120
  rw [hK] at hrow ⊢
  have c1 := hx1.cell (j := 1) rfl
  have H1 := Lib.hid h1
  have HX := Lib.hid hx1
  have HB := Lib.hid hb1
  have HN := Lib.hid hn
  have HROW := Lib.hid hrow
  have HMADE := Lib.hid hmade
  have Y1 := Lib.hid y1
  have Y2 := Lib.hid y2
  have Y3 := Lib.hid y3
  have Y4 := Lib.hid y4
  have HS1 := Lib.hid hs1
  clear h h1 hx1 hb1 hn hrow hg hmade y1 y2 y3 y4 hs1
  go_enter Try.func117, Try.ntmps117
  go_upto_region 1 with fail
  rw [← hw1]
  clear hw1
  go_upto_region 2 with (at_make; refine wpList_make_full w1 rfl _ _ 165 rfl w1.heap.size 120 i120 _ 2 Try.underlying165 Y1.out Y2.out Y3.out .i64 .i64 n n n rfl rfl rfl rfl (by rw [Y4.out]; omega) (by unfold maxLen; omega) (Nat.le_refl _) ?_; intro w2 hown2 hgr2)
  have hb2 : Below w1.heap.size w1 w2 := (Below.refl _ _).grown hgr2 (Nat.le_refl _) (fun k e => by cases e)
  have ho2 : Blk w2 w1.heap.size 120 (tabV (pairV (treeF g (scanN K 0 0))) (n * 2)) := by
    have e0 : tabV (pairV (treeF g (scanN K 0 0))) (n * 2) = List.replicate (n * 2) (.int .i64 0) := by
      rw [← tabV_const]
      refine tabV_congr fun j _ => ?_
      unfold pairV treeF scanN
      simp
    rw [e0]
    have h5 := hown2.2
    rcases h5 with ⟨_, hz⟩ | ⟨g9, cap, cur, hv, -, hgg, -, -, hc, htake⟩
    · omega
    · obtain ⟨rfl, -, rfl⟩ : w1.heap.size = g9 ∧ n = n ∧ n = cap := by simpa using hv
      have : cur.toList = List.replicate (n * 2) (.int .i64 0) := by
        rw [← HMADE.out]
        have hl : cur.toList.length = n * 2 := by simpa using hc
        have h6 : cur.toList.take (n * 2) = _ := htake
        rw [List.take_of_length_le (by omega)] at h6
        exact h6
      unfold Blk
      rw [hgg, ← this]
  have hx2 := HX.out.keep hb2
  have c1 := hx2.cell (j := 1) rfl
  have HB2 := Lib.hid hb2
  have HO2 := Lib.hid ho2
  have HX2 := Lib.hid hx2
  clear hb2 ho2 hx2 hown2 hgr2 HMADE Y1 Y2 Y3 Y4
  go_upto_region 3 with (at_make; refine wpList_makeV Try.info4 Try.underlying113 rfl rfl _ _ rfl n rfl rfl rfl rfl (by omega) (by omega) ?_; intro w3 hm3 hb3 hs3)
  have hs2 := HB2.out.size
  have hm4 : Blk w3 w2.heap.size 4 (tabV (fun _ => Value.bool false) n) := by rw [tabV_const]; exact hm3
  have ho3 := HO2.out.keep hb3
  have hb13 := HB2.out.trans (hb3.mono hs2)
  have hx3 := HX2.out.keep hb3
  obtain ⟨mb, hmb⟩ : ∃ mb, w2.heap.size = mb := ⟨_, rfl⟩
  obtain ⟨ob, hob⟩ : ∃ ob, w1.heap.size = ob := ⟨_, rfl⟩
  have hlo := HO2.out.lt
  have hlx := HX2.out.lt
  have hmo : mb ≠ ob := by omega
  have hox : ob ≠ w.heap.size := by have := HS1.out; omega
  have hmx : mb ≠ w.heap.size := by omega
  have hobw : w.heap.size ≤ ob := by have := HS1.out; omega
  have hmbw : w.heap.size ≤ mb := by omega
  rw [hmb] at hm4 ⊢
  rw [hob] at ho3 ⊢
  have hi0 : (0 : Int) < n := by omega
  have cm0 : w3.cell? ⟨mb, 0, none⟩ = some (.bool false) := hm4.cell (tabV_get _ (by omega))
  have fm0 := hm4.free 0
  have hm5 : Blk (w3.setCell ⟨mb, 0, none⟩ (.bool true)) mb 4 (tabV (fun j => Value.bool (metF g (scanN K 0 0) j)) n) := by
    have := hm4.set 0 (.bool true)
    rw [tabV_set] at this
    have e1 : tabV (fun i => if i = 0 then Value.bool true else .bool false) n = tabV (fun j => Value.bool (metF g (scanN K 0 0) j)) n := tabV_congr fun j _ => by
      unfold metF scanN
      by_cases q : j = 0 <;> simp [q]
    rw [← e1]; exact this
  have ho5 := ho3.other (a := ⟨mb, 0, none⟩) (fun e => hmo e.symm) (.bool true)
  have hx5 := hx3.other (a := ⟨mb, 0, none⟩) (fun e => hmx e.symm) (.bool true)
  have hbw5 : Below w1.heap.size w1 (w3.setCell ⟨mb, 0, none⟩ (.bool true)) := hb13.setCell (p := ⟨mb, 0, none⟩) (by show w1.heap.size ≤ mb; omega) _
  obtain ⟨w5, hw5⟩ : ∃ w5, w3.setCell ⟨mb, 0, none⟩ (.bool true) = w5 := ⟨_, rfl⟩
  rw [hw5] at hm5 ho5 hx5 hbw5
  have c5 := hx5.cell (j := 1) rfl
  have HM := Lib.hid hm5
  have HO := Lib.hid ho5
  have HBW := Lib.hid hbw5
  have hob1 : w1.heap.size ≤ ob := by omega
  have hmb1 : w1.heap.size ≤ mb := by omega
  clear hm5 ho5 hx5 hbw5 hm4 ho3 hx3 hb13 hm3 hb3 HO2 HX2 HB2 HX hlo hlx hob hmb hs3 hs2 HS1
  go_upto_region 4 with fail
  clear cm0 fm0 c1 hw5
  go_wp2_with fail
  clear c5
  go_loopw [22] (fun iv wr => ∃ i : Nat, i ≤ n ∧ iv = .int .i64 i ∧ Hid (Blk wr mb 4 (tabV (fun j => Value.bool (metF g (scanN K i 0) j)) n)) ∧ Hid (Blk wr ob 120 (tabV (pairV (treeF g (scanN K i 0))) (n * 2))) ∧ Hid (Below w1.heap.size w1 wr)) (fun iv _ => n - (intOf iv).toNat)
  case atStart => exact ⟨0, by omega, rfl, HM, HO, HBW⟩
  case round =>
    clear HM HO HBW
    obtain ⟨i, hi, rfl, HM, HO, HBW⟩ := hrel
    by_cases hlt : i < n
    · obtain ⟨r, hr⟩ : ∃ r, g[i]? = some r := ⟨_, List.getElem?_eq_getElem (by rw [HN.out]; exact hlt)⟩
      obtain ⟨b1, v1, rfl, d0, e1⟩ := H1.out.at_ (Below.refl _ _) hr
      have d1 := (HBW.out.cell (p := ⟨b1, i, none⟩) (cell_lt d0)).trans d0
      obtain ⟨hl1, hl2⟩ := HROW.out r (List.mem_of_getElem? hr)
      obtain ⟨a2, c2, rfl, q1, q2⟩ := e1.shape hl1
      have i0 : (0 : Int) ≤ i := by omega
      have i1 : (i : Int) < n := by omega
      have HR1 := Lib.hid hr
      have HL1 := Lib.hid hl1
      have HL2 := Lib.hid hl2
      have HE1 := Lib.hid e1
      clear hr hl1 hl2 e1 d0
      go_wp2_with fail
      clear d1
      go_loopw [29] (fun jv wr => ∃ j : Nat, j ≤ K ∧ jv = .int .i64 j ∧ Hid (Blk wr mb 4 (tabV (fun s => Value.bool (metF g (scanN K i j) s)) n)) ∧ Hid (Blk wr ob 120 (tabV (pairV (treeF g (scanN K i j))) (n * 2))) ∧ Hid (Below w1.heap.size w1 wr)) (fun jv _ => K - (intOf jv).toNat)
      case atStart => exact ⟨0, by omega, rfl, HM, HO, HBW⟩
      case round =>
        clear HM HO HBW
        obtain ⟨j, hj, rfl, HM, HO, HBW⟩ := hrel
        by_cases hlj : j < K
        · obtain ⟨x, hx⟩ : ∃ x, r[j]? = some x := ⟨_, List.getElem?_eq_getElem (by rw [HL1.out]; exact hlj)⟩
          obtain ⟨b2, rfl, d2⟩ := HE1.out.at_ HBW.out hx
          obtain ⟨hx1, hx2⟩ := HL2.out x (List.mem_of_getElem? hx)
          have j0 : (0 : Int) ≤ j := by omega
          have j1 : (j : Int) < K := by omega
          have hsc := scan_step K i j
          by_cases hx0 : 0 ≤ x
          · obtain ⟨t, rfl⟩ : ∃ t : Nat, x = t := ⟨x.toNat, by omega⟩
            have htn : t < n := by omega
            have hnx : nxT g i j = some t := nxT_of HR1.out hx
            have cm := HM.out.cell (metC (metF g (scanN K i j)) n htn)
            have t0 : (0 : Int) ≤ t := by omega
            have t1 : (t : Int) < n := by omega
            obtain ⟨m, hm⟩ : ∃ m, metF g (scanN K i j) t = m := ⟨_, rfl⟩
            rw [hm] at cm
            cases m with
            | true =>
              obtain ⟨e1, e2⟩ := tree_same (g := g) (L := scanN K i j) (q := (i, j)) (fun s hs => by
                have : nxT g i j = some s := hs
                rw [hnx] at this
                rw [← Option.some.inj this]; exact hm)
              rw [← hsc] at e1 e2
              have G1 : Hid (Blk wr mb 4 (tabV (fun s => Value.bool (metF g (scanN K i (j + 1)) s)) n)) := Lib.hid (by rw [e2]; exact HM.out)
              have G2 : Hid (Blk wr ob 120 (tabV (pairV (treeF g (scanN K i (j + 1)))) (n * 2))) := Lib.hid (by rw [e1]; exact HO.out)
              clear e1 e2 hsc hm hnx hx
              go_wp2_with fail
              go_roundw
              case rel => exact ⟨j + 1, by omega, by go_num, G1, G2, HBW⟩
              case measure => simp [intOf]; omega
            | false =>
              obtain ⟨e1, e2⟩ := tree_new (g := g) (L := scanN K i j) (q := (i, j)) hnx hm
              rw [← hsc] at e1 e2
              have fm := HM.out.free t
              have hm6 := HM.out.set t (.bool true)
              rw [tabV_set] at hm6
              have e3 : tabV (fun s => if s = t then Value.bool true else Value.bool (metF g (scanN K i j) s)) n = tabV (fun s => Value.bool (metF g (scanN K i (j + 1)) s)) n := tabV_congr fun s _ => by
                rw [e2]
                by_cases q : s = t
                · rw [if_pos q]; simp [q]
                · rw [if_neg q]; simp [q]
              rw [e3] at hm6
              have ho6 := HO.out.other (a := ⟨mb, t, none⟩) (fun e => hmo e.symm) (.bool true)
              have hb6 : Below w1.heap.size w1 (wr.setCell ⟨mb, t, none⟩ (.bool true)) := HBW.out.setCell (p := ⟨mb, t, none⟩) (by show w1.heap.size ≤ mb; omega) _
              have HM6 := Lib.hid hm6
              have HO6 := Lib.hid ho6
              have HB6 := Lib.hid hb6
              have E1 := Lib.hid e1
              have HTL : Hid (t * 2 + 1 < (tabV (pairV (treeF g (scanN K i j))) (n * 2)).length) := Lib.hid (by rw [tabV_len]; omega)
              clear hm6 ho6 hb6 e1 e2 e3 hsc hm hnx hx HM HO
              go_wp2_with ((with_reducible show wpList _ _ _ (Oper.mk _ (Op.store 120 _ _) _ _ _ _ :: _) _ _; (refine wpList_storeM (x0 := .int .i64 i) (x1 := .int .i64 j) HO6.out HTL.out Try.size120 rfl rfl rfl _ _ rfl rfl rfl ?_)))
              have ho7 := (HO6.out.set (t * 2) (.int .i64 i)).set (t * 2 + 1) (.int .i64 j)
              rw [pair_set] at ho7
              have G1 := Lib.hid ((HM6.out.other (a := ⟨ob, t * 2, none⟩) hmo (.int .i64 i)).other (a := ⟨ob, t * 2 + 1, none⟩) hmo (.int .i64 j))
              have G2 : Hid (Blk (((wr.setCell ⟨mb, t, none⟩ (.bool true)).setCell ⟨ob, t * 2, none⟩ (.int .i64 i)).setCell ⟨ob, t * 2 + 1, none⟩ (.int .i64 j)) ob 120 (tabV (pairV (treeF g (scanN K i (j + 1)))) (n * 2))) := Lib.hid (by rw [E1.out]; exact ho7)
              have G3 : Hid (Below w1.heap.size w1 (((wr.setCell ⟨mb, t, none⟩ (.bool true)).setCell ⟨ob, t * 2, none⟩ (.int .i64 i)).setCell ⟨ob, t * 2 + 1, none⟩ (.int .i64 j))) := Lib.hid ((HB6.out.setCell (p := ⟨ob, t * 2, none⟩) (by show w1.heap.size ≤ ob; omega) _).setCell (p := ⟨ob, t * 2 + 1, none⟩) (by show w1.heap.size ≤ ob; omega) _)
              clear ho7
              go_roundw
              case rel => exact ⟨j + 1, by omega, by go_num, G1, G2, G3⟩
              case measure => simp [intOf]; omega
          · have hnx : nxT g i j = none := by
              cases hnx : nxT g i j with
              | none => rfl
              | some u =>
                obtain ⟨r3, h3, h4⟩ := nxT_row hnx
                rw [HR1.out] at h3
                rw [← Option.some.inj h3, hx] at h4
                have := Option.some.inj h4
                omega
            obtain ⟨e1, e2⟩ := tree_same (g := g) (L := scanN K i j) (q := (i, j)) (fun s hs => by
              have : nxT g i j = some s := hs
              rw [hnx] at this; cases this)
            rw [← hsc] at e1 e2
            have G1 : Hid (Blk wr mb 4 (tabV (fun s => Value.bool (metF g (scanN K i (j + 1)) s)) n)) := Lib.hid (by rw [e2]; exact HM.out)
            have G2 : Hid (Blk wr ob 120 (tabV (pairV (treeF g (scanN K i (j + 1)))) (n * 2))) := Lib.hid (by rw [e1]; exact HO.out)
            clear e1 e2 hsc hnx hx
            go_wp2_with fail
            go_roundw
            case rel => exact ⟨j + 1, by omega, by go_num, G1, G2, HBW⟩
            case measure => simp [intOf]; omega
        · obtain rfl : j = K := by omega
          have hsc := scan_next j i
          rw [hsc] at HM HO
          clear hsc
          go_wp2_with fail
          go_roundw
          case rel => exact ⟨i + 1, by omega, by go_num, HM, HO, HBW⟩
          case measure => simp [intOf]; omega
    · obtain rfl : i = n := by omega
      go_wp2_with fail
      go_ret
      exact ⟨ob, rfl, hobw, HO.out, HB.out.trans (HBW.out.mono HB.out.size)⟩
end Go.Proofs.Ytlooclpfoeakgaa

/- The iterator of a graph's edges: its contract. -/
namespace Go.Proofs.Ytlooclpfoeakgaa
open Go.RowKit Go.Shelf
attribute [local go_sem] Oper.semAt_some

/-- an edge by a small letter: from where, by which place, to where -/
def EdgeOk (k : Nat) (g : List (List Int)) (e : Nat × Nat × Nat) : Prop := e.1 < g.length ∧ e.2.1 < 2 * k ∧ e.2.1 % 2 = 0 ∧ e.2.2 < g.length ∧ nxT g e.1 e.2.1 = some e.2.2
abbrev EdG (k : Nat) (g : List (List Int)) := {e : Nat × Nat × Nat // EdgeOk k g e}
def edgeAt (g : List (List Int)) (v p : Nat) : List (Nat × Nat × Nat) := match nxT g v p with
  | some u => [(v, p, u)]
  | none => []
def edgesTo (k : Nat) (g : List (List Int)) (i j : Nat) : List (Nat × Nat × Nat) := ((List.range i).flatMap fun v => (List.range k).flatMap fun p => edgeAt g v (2 * p)) ++ (List.range j).flatMap fun p => edgeAt g i (2 * p)
theorem edges_step (k : Nat) (g : List (List Int)) (i j : Nat) : edgesTo k g i (j + 1) = edgesTo k g i j ++ edgeAt g i (2 * j) := by
  unfold edgesTo
  rw [List.range_succ, List.flatMap_append, List.append_assoc]; simp
theorem edges_next (k : Nat) (g : List (List Int)) (i : Nat) : edgesTo k g i k = edgesTo k g (i + 1) 0 := by
  unfold edgesTo
  rw [List.range_succ, List.flatMap_append]
  simp
theorem edgeAt_len (g : List (List Int)) (v p : Nat) : (edgeAt g v p).length ≤ 1 := by unfold edgeAt; split <;> simp
theorem edges_row (k : Nat) (g : List (List Int)) (v : Nat) : ∀ j, ((List.range j).flatMap fun p => edgeAt g v (2 * p)).length ≤ j
  | 0 => Nat.le_refl _
  | j + 1 => by
    rw [List.range_succ, List.flatMap_append, List.length_append, List.flatMap_cons, List.flatMap_nil, List.append_nil]
    have := edges_row k g v j
    have h2 := edgeAt_len g v (2 * j)
    omega
theorem edges_rows (k : Nat) (g : List (List Int)) : ∀ i, ((List.range i).flatMap fun v => (List.range k).flatMap fun p => edgeAt g v (2 * p)).length ≤ i * k
  | 0 => by simp
  | i + 1 => by
    rw [List.range_succ, List.flatMap_append, List.length_append, List.flatMap_cons, List.flatMap_nil, List.append_nil, Nat.succ_mul]
    have := edges_rows k g i
    have h2 := edges_row k g i k
    omega
theorem edges_len (k : Nat) (g : List (List Int)) (i j : Nat) : (edgesTo k g i j).length ≤ i * k + j := by
  unfold edgesTo
  rw [List.length_append]
  have := edges_rows k g i
  have h2 := edges_row k g i j
  omega

set_option maxRecDepth 100000 in
set_option maxHeartbeats 2000000 in
theorem edges1_in (n : Nat) (hn : 1 ≤ n) (l Bs k : Nat) (rv : Value) (g : List (List Int)) (w0 : World) (hg : GoodG k g) (hr0 : RowsR w0 rv g) (J Jx : List (EdG k g) → World → Prop)
    (hY : ∀ pre (x : EdG k g) W, J pre W → pre.length < 100000 → YieldAt Fence.wide (n - 1) Try.prog l #[.agg #[.int .i64 (x.1.1 : Int), .int .i64 (x.1.2.1 : Int)], .int .i64 (x.1.2.2 : Int)] W fun e W' =>
      (e = .returned (.bool true) ∧ J (pre ++ [x]) W' ∧ Below w0.heap.size W W') ∨ (e = .returned (.bool false) ∧ Jx (pre ++ [x]) W'))
    (W : World) (hx0 : Blk W Bs 25 [.int .i64 k, rv]) (hb0 : Below w0.heap.size w0 W) (h0 : J [] W) :
    CallsIn Fence.wide n Try.prog 113 #[.func (.yield l) #[] #[], .pointer (some ⟨Bs, 0, none⟩)] W fun e W' => (∃ v, e = .returned v) ∧
      ((∃ ys : List (EdG k g), ys.map (·.1) = edgesTo k g g.length 0 ∧ J ys W') ∨ (∃ pre, Jx pre W')) := by
  obtain ⟨m, hm⟩ : ∃ m, g.length = m := ⟨_, rfl⟩
  obtain ⟨va, vc, rfl, hv1, hv2⟩ := hr0.shape hm
  have hrow := hg.row
  have hn1 := hg.n1
  have hn5 := hg.n5
  have hk4 := hg.k4
  have hk1 := hg.k1
  rw [hm] at hn1 hn5
  obtain ⟨K, hK⟩ : ∃ K, 2 * k = K := ⟨_, rfl⟩
  rw [hK] at hrow
  have HM := Lib.hid hm
  have HY := Lib.hid hY
  have HBW := Lib.hid hb0
  have HROW := Lib.hid hrow
  have c1 := hx0.cell (j := 1) rfl
  have HR0 := Lib.hid hr0
  have hb9 : m * k ≤ 5000 * 4 := Nat.mul_le_mul hn5 hk4
  clear hm hY hb0 hx0 hrow hr0
  refine callsIn_of_wp Try.func113 rfl trivial ?_ rfl
  simp only [Try.ntmps113, List.size_toArray, List.length_cons, List.length_nil, Nat.reduceAdd, Nat.reduceSub, Array.replicate_succ, Array.replicate_zero, List.push_toArray, List.append_toArray, List.nil_append, List.cons_append]
  refine wpIn_wide.2 ?_
  go_wp2_with fail
  clear c1
  go_loopw [9] (fun iv wr => ∃ (i : Nat) (ys : List (EdG k g)), i ≤ m ∧ iv = .int .i64 i ∧ ys.map (·.1) = edgesTo k g i 0 ∧ Hid (Below w0.heap.size w0 wr) ∧ J ys wr) (fun iv _ => m - (intOf iv).toNat)
  case atStart => exact ⟨0, [], by omega, rfl, rfl, HBW, h0⟩
  case round =>
    clear h0 HBW
    obtain ⟨i, ys, hi, rfl, hys, HBW, hJi⟩ := hrel
    by_cases hlt : i < m
    · have hbw := HBW.out
      obtain ⟨r, hr⟩ : ∃ r, g[i]? = some r := ⟨_, List.getElem?_eq_getElem (by rw [HM.out]; exact hlt)⟩
      obtain ⟨b1, v1, rfl, d0, e1⟩ := HR0.out.at_ (Below.refl _ _) hr
      have d1 := (hbw.cell (p := ⟨b1, i, none⟩) (cell_lt d0)).trans d0
      obtain ⟨hl1, hl2⟩ := HROW.out r (List.mem_of_getElem? hr)
      obtain ⟨a2, c2, rfl, q1, q2⟩ := e1.shape hl1
      have i0 : (0 : Int) ≤ i := by omega
      have i1 : (i : Int) < m := by omega
      have HR1 := Lib.hid hr
      have HL1 := Lib.hid hl1
      have HL2 := Lib.hid hl2
      have HE1 := Lib.hid e1
      have hik : i * k + k ≤ 20000 := by
        have := Nat.mul_le_mul (show i + 1 ≤ 5000 by omega) hk4
        rw [Nat.succ_mul] at this
        omega
      have HIK := Lib.hid hik
      have HYS := Lib.hid hys
      clear hr hl1 hl2 e1 d0 hbw hik hys
      go_wp2_with fail
      clear d1
      go_loopw [5] (fun jv wr => ∃ (j p : Nat) (ys : List (EdG k g)), j ≤ k ∧ Hid (p = 2 * j) ∧ jv = .int .i64 p ∧ Hid (ys.map (·.1) = edgesTo k g i j) ∧ Hid (Below w0.heap.size w0 wr) ∧ J ys wr) (fun jv _ => K - (intOf jv).toNat)
      case atStart => exact ⟨0, 0, ys, by omega, Lib.hid rfl, rfl, HYS, HBW, hJi⟩
      case round =>
        clear HYS HBW hJi ys
        obtain ⟨j, p, ys, hj, HP, rfl, HYS, HBW, hJi⟩ := hrel
        have hp := HP.out
        by_cases hlj : j < k
        · have hpK : p < K := by omega
          have hbw := HBW.out
          obtain ⟨x, hx⟩ : ∃ x, r[p]? = some x := ⟨_, List.getElem?_eq_getElem (by rw [HL1.out]; exact hpK)⟩
          obtain ⟨b2, rfl, d2⟩ := HE1.out.at_ hbw hx
          obtain ⟨hx1, hx2⟩ := HL2.out x (List.mem_of_getElem? hx)
          have p0 : (0 : Int) ≤ p := by omega
          have p1 : (p : Int) < K := by omega
          have hsc := edges_step k g i j
          rw [← hp] at hsc
          by_cases hx0 : 0 ≤ x
          · obtain ⟨t, rfl⟩ : ∃ t : Nat, x = t := ⟨x.toNat, by omega⟩
            have hnx : nxT g i p = some t := nxT_of HR1.out hx
            have hea : edgeAt g i p = [(i, p, t)] := by unfold edgeAt; rw [hnx]
            rw [hea] at hsc
            have hxx : EdgeOk k g (i, p, t) := ⟨by show i < g.length; rw [HM.out]; exact hlt, by show p < 2 * k; omega, by show p % 2 = 0; omega, by show t < g.length; omega, hnx⟩
            have hlen : ys.length < 100000 := by
              have h1 := congrArg List.length HYS.out
              rw [List.length_map] at h1
              have h2 := edges_len k g i j
              have := HIK.out
              omega
            obtain ⟨fn, tmps, assign, body, hy, hR⟩ := HY.out ys ⟨(i, p, t), hxx⟩ wr hJi hlen
            have G1 : Hid ((ys ++ [(⟨(i, p, t), hxx⟩ : EdG k g)]).map (·.1) = edgesTo k g i (j + 1)) := Lib.hid (by rw [List.map_append, HYS.out, hsc]; rfl)
            have HR := Lib.hid hR
            have hp2 : IntKind.i64.wrap ((p : Int) + 2) = ((p + 2 : Nat) : Int) := by rw [IntKind.wrap_i64]; omega
            have G2 : Hid (p + 2 = 2 * (j + 1)) := Lib.hid (by omega)
            clear hR hJi hsc hea hnx hx HYS hlen hp
            go_upto_region 6 with (fail)
            refine (wpIn_wide (n := n)).1 ?_
            gi_wp2
            refine HR.out.mono ?_
            rintro e W3 (⟨rfl, hJ3, hb3⟩ | ⟨rfl, hJx3⟩)
            · have HB3 := Lib.hid (HBW.out.trans hb3)
              clear HR hy hb3
              gi_wp2
              go_wp2_with fail
              go_roundw
              case rel => exact ⟨j + 1, p + 2, _, by omega, G2, by go_num, G1, HB3, hJ3⟩
              case measure => simp [intOf]; omega
            · gi_wp2
              go_wp2_with fail
              refine bodyPost_ret (results_none rfl _ _ _) rfl ?_
              exact ⟨⟨_, rfl⟩, .inr ⟨_, hJx3⟩⟩
          · have hnx : nxT g i p = none := by
              cases hnx : nxT g i p with
              | none => rfl
              | some u =>
                obtain ⟨r3, h3, h4⟩ := nxT_row hnx
                rw [HR1.out] at h3
                rw [← Option.some.inj h3, hx] at h4
                have := Option.some.inj h4
                omega
            have hea : edgeAt g i p = [] := by unfold edgeAt; rw [hnx]
            rw [hea, List.append_nil] at hsc
            have G1 : Hid (ys.map (·.1) = edgesTo k g i (j + 1)) := Lib.hid (by rw [hsc]; exact HYS.out)
            have G2 : Hid (p + 2 = 2 * (j + 1)) := Lib.hid (by omega)
            have hp2 : IntKind.i64.wrap ((p : Int) + 2) = ((p + 2 : Nat) : Int) := by rw [IntKind.wrap_i64]; omega
            clear hsc hea hnx hx HYS hp
            go_wp2_with fail
            go_roundw
            case rel => exact ⟨j + 1, p + 2, ys, by omega, G2, by go_num, G1, HBW, hJi⟩
            case measure => simp [intOf]; omega
        · obtain rfl : j = k := by omega
          have hys := HYS.out
          rw [edges_next] at hys
          have HYS2 := Lib.hid hys
          have hpK : ¬ (p : Int) < K := by omega
          clear hys HYS hp
          go_wp2_with fail
          go_roundw
          case rel => exact ⟨i + 1, ys, by omega, by go_num, HYS2.out, HBW, hJi⟩
          case measure => simp [intOf]; omega
    · obtain rfl : i = m := by omega
      have hfin : ys.map (·.1) = edgesTo k g g.length 0 := by rw [HM.out]; exact hys
      go_wp2_with fail
      go_end0
      exact ⟨⟨_, rfl⟩, .inl ⟨ys, hfin, hJi⟩⟩
theorem edges_stops (n : Nat) (hn : 1 ≤ n) (Bs k : Nat) (rv : Value) (g : List (List Int)) (w0 w : World) (hg : GoodG k g) (hr0 : RowsR w0 rv g) (hx0 : Blk w Bs 25 [.int .i64 k, rv]) (hb0 : Below w0.heap.size w0 w) :
    SeqStopsK Fence.wide n Try.prog 113 #[.pointer (some ⟨Bs, 0, none⟩)] (fun x : EdG k g => #[.agg #[.int .i64 (x.1.1 : Int), .int .i64 (x.1.2.1 : Int)], .int .i64 (x.1.2.2 : Int)]) (fun A C => Below w0.heap.size A C)
      (fun ys => ys.map (·.1) = edgesTo k g g.length 0) (fun _ => True) 100000 w :=
  fun l J Jx W hW _ _ hY h0 => by
    refine (edges1_in n hn l Bs k rv g w0 hg hr0 J Jx hY W (hx0.keep hW) (hb0.trans (hW.mono hb0.size)) h0).mono ?_
    rintro e W' ⟨hv, ⟨ys, hys, h⟩ | ⟨pre, h⟩⟩
    · exact ⟨hv, .inl ⟨ys, hys, h⟩⟩
    · exact ⟨hv, .inr ⟨pre, trivial, h⟩⟩

set_option maxHeartbeats 1000000 in
theorem edges_plain (kv rv : Value) (w : World) :
    Calls Try.prog 68 #[.agg #[kv, rv]] w fun e w' => e = .returned (.func (.func 113) #[] #[.pointer (some ⟨w.heap.size, 0, none⟩)]) ∧ w' = w.alloc (.cells #[kv, rv] 25) := by
  go_enter Try.func68, Try.ntmps68
  go_wp2_with fail
  go_ret
  exact ⟨rfl, rfl⟩
end Go.Proofs.Ytlooclpfoeakgaa

/- The basis of a graph: what the loop keeps. -/
namespace Go.Proofs.Ytlooclpfoeakgaa
open Go.RowKit Go.Shelf
attribute [local go_sem] Oper.semAt_some

/-! ### the model -/
/-- the ways by the tree, the first v being known -/
def wayT (T : Nat → Nat × Nat) : Nat → Nat → List UInt8
  | 0, _ => []
  | v + 1, s => if s = v ∧ v ≠ 0 then wayT T v (T v).1 ++ [letP (T v).2] else wayT T v s
theorem wayT_len (T : Nat → Nat × Nat) : ∀ v s, (wayT T v s).length ≤ v
  | 0, _ => Nat.le_refl _
  | v + 1, s => by
    rw [wayT]
    split
    · have := wayT_len T v (T v).1
      rw [List.length_append, List.length_singleton]; omega
    · have := wayT_len T v s; omega
theorem wayT_word (T : Nat → Nat × Nat) (hT : ∀ s, (T s).2 < 52) : ∀ v s, isWord (wayT T v s) = true
  | 0, _ => rfl
  | v + 1, s => by
    rw [wayT]
    split
    · have h1 := wayT_word T hT v (T v).1
      unfold isWord at *
      rw [List.all_append, h1]
      simp only [List.all_cons, List.all_nil, Bool.and_true, Bool.true_and]
      exact letP_letter _ (hT v)
    · exact wayT_word T hT v s
abbrev E3 := Nat × Nat × Nat
/-- edges of the tree, to and fro -/
def skipT (T : Nat → Nat × Nat) (e : E3) : Bool := (decide (e.2.2 ≠ 0) && decide (T e.2.2 = (e.1, e.2.1))) || (decide (e.1 ≠ 0) && decide (T e.1 = (e.2.2, e.2.1 ^^^ 1)))
def wordQ (Wf : Nat → List UInt8) (e : E3) : List UInt8 := redW (Wf e.1 ++ [letP e.2.1] ++ invL (Wf e.2.2))
def wordsQ (T : Nat → Nat × Nat) (Wf : Nat → List UInt8) (l : List E3) : List (List UInt8) := (l.filter fun e => !skipT T e).map (wordQ Wf)
def putQ (n : Nat) (e : E3) (f : Nat → Nat → Option Int) : Nat → Nat → Option Int := fun x y => if (x, y) = (e.2.2, e.2.1 ^^^ 1) then some (-(n : Int)) else if (x, y) = (e.1, e.2.1) then some (n : Int) else f x y
def stepQ (T : Nat → Nat × Nat) (s : Nat × (Nat → Nat → Option Int)) (e : E3) : Nat × (Nat → Nat → Option Int) := if skipT T e = true then s else (s.1 + 1, putQ (s.1 + 1) e s.2)
def mapQ (T : Nat → Nat × Nat) (l : List E3) : Nat × (Nat → Nat → Option Int) := l.foldl (stepQ T) (0, fun _ _ => none)
theorem mapQ_snoc (T : Nat → Nat × Nat) (l : List E3) (e : E3) : mapQ T (l ++ [e]) = stepQ T (mapQ T l) e := by unfold mapQ; rw [List.foldl_append]; rfl
theorem wordsQ_snoc (T : Nat → Nat × Nat) (Wf : Nat → List UInt8) (l : List E3) (e : E3) : wordsQ T Wf (l ++ [e]) = if skipT T e = true then wordsQ T Wf l else wordsQ T Wf l ++ [wordQ Wf e] := by
  unfold wordsQ
  rw [List.filter_append, List.map_append]
  cases h : skipT T e <;> simp [h]
theorem wordsQ_len (T : Nat → Nat × Nat) (Wf : Nat → List UInt8) (l : List E3) : (wordsQ T Wf l).length ≤ l.length := by
  unfold wordsQ
  rw [List.length_map]
  exact List.length_filter_le _ _
theorem mapQ_len (T : Nat → Nat × Nat) (Wf : Nat → List UInt8) (l : List E3) : (mapQ T l).1 = (wordsQ T Wf l).length := by
  suffices H : ∀ (n : Nat) (l : List E3), l.length = n → (mapQ T l).1 = (wordsQ T Wf l).length from H _ l rfl
  intro n
  induction n with
  | zero => intro l h; obtain rfl := List.eq_nil_of_length_eq_zero h; rfl
  | succ n ih =>
    intro l h
    rcases List.eq_nil_or_concat l with rfl | ⟨q, d, rfl⟩
    · rfl
    · rw [List.concat_eq_append] at *
      have := ih q (by simpa using h)
      rw [mapQ_snoc, wordsQ_snoc]
      unfold stepQ
      split
      · exact this
      · rw [List.length_append, this]; rfl

/-! ### what lies in memory between two rounds -/
def strsV (l : List (List UInt8)) : List Value := l.map fun x => .string (strB x)
/-- the parts that stay -/
structure FixQ (w : World) (b2 b4 b5 ob wb mb n : Nat) (T : Nat → Nat × Nat) (Wf : Nat → List UInt8) : Prop where
  c2 : Blk w b2 107 [.map (some mb)]
  c4 : Blk w b4 165 [.slice (some ⟨ob, 0, none⟩) n n]
  c5 : Blk w b5 22 [.slice (some ⟨wb, 0, none⟩) n n]
  tree : Blk w ob 120 (tabV (pairV T) (n * 2))
  ways : Blk w wb 9 (tabV (fun s => .string (strB (Wf s))) n)
structure BI (w : World) (s : Nat) (b2 b3 b4 b5 ob wb mb n : Nat) (T : Nat → Nat × Nat) (Wf : Nat → List UInt8) {k : Nat} {g : List (List Int)} (pre : List (EdG k g)) (W : World) : Prop where
  fix : FixQ W b2 b4 b5 ob wb mb n T Wf
  map : ∃ nm, MapQ W mb nm (mapQ T (pre.map (·.1))).2 ∧ nm ≤ 2 * pre.length
  out : ∃ v, Blk W b3 22 [v] ∧ W.ownsRow (s + 1) 9 1 v (wordsQ T Wf (pre.map (·.1))).length (strsV (wordsQ T Wf (pre.map (·.1))))
  below : Below w.heap.size w W
  size : s < W.heap.size
theorem own_block_cells {w : World} {base : Nat} {e : TypeId} {size : Nat} {v : Value} {n : Nat} {xs : List Value} (h : w.ownsRow base e size v n xs) {g : Nat} (hg : v.ownBlock = some g) : base ≤ g ∧ ∃ o : Obj, w.heap[g]? = some o ∧ o.isCells = true := by
  rcases h.2 with ⟨rfl, _⟩ | ⟨g', cap, cur, rfl, hb, hgg, _⟩
  · cases hg
  · cases hg
    exact ⟨hb, _, hgg, rfl⟩
theorem Blk.ownQ {W W' : World} {g : Nat} {e : TypeId} {vs : List Value} (h : Blk W g e vs) {row : Option Nat} (hg : W.grownBy W' row) (hr : ∀ r, row = some r → ∃ o : Obj, W.heap[r]? = some o ∧ o.isCells = false) : Blk W' g e vs := by
  refine h.grown hg (fun e => ?_)
  obtain ⟨o, ho, hc⟩ := hr g e.symm
  rw [h] at ho
  cases ho
  simp [Obj.isCells] at hc
theorem FixQ.map_ {w : World} {b2 b4 b5 ob wb mb n : Nat} {T : Nat → Nat × Nat} {Wf : Nat → List UInt8} (h : FixQ w b2 b4 b5 ob wb mb n T Wf) {w2 : World} (f : ∀ (i : Nat) (e : TypeId) (vs : List Value), (i = b2 ∨ i = b4 ∨ i = b5 ∨ i = ob ∨ i = wb) → Blk w i e vs → Blk w2 i e vs) : FixQ w2 b2 b4 b5 ob wb mb n T Wf :=
  ⟨f _ _ _ (by simp) h.c2, f _ _ _ (by simp) h.c4, f _ _ _ (by simp) h.c5, f _ _ _ (by simp) h.tree, f _ _ _ (by simp) h.ways⟩
theorem FixQ.keep {w w2 : World} {b2 b4 b5 ob wb mb n : Nat} {T : Nat → Nat × Nat} {Wf : Nat → List UInt8} (h : FixQ w b2 b4 b5 ob wb mb n T Wf) (hb : Below w.heap.size w w2) : FixQ w2 b2 b4 b5 ob wb mb n T Wf := h.map_ fun _ _ _ _ hx => hx.keep hb
theorem BI.own (w : World) (s : Nat) (b2 b3 b4 b5 ob wb mb n : Nat) (T : Nat → Nat × Nat) (Wf : Nat → List UInt8) {k : Nat} {g : List (List Int)} (B : Nat) (hB : w.heap.size ≤ B) (hm : mb < B) : OwnFrom B (fun pre W => BI w s b2 b3 b4 b5 ob wb mb n T Wf (k := k) (g := g) pre W) := by
  intro pre W W' row h hg hr
  have hr2 : ∀ r, row = some r → ∃ o : Obj, W.heap[r]? = some o ∧ o.isCells = false := fun r e => (hr r e).2
  obtain ⟨h1, ⟨nm, h2, h3⟩, ⟨v, h4, h5⟩, h6, h7⟩ := h
  refine ⟨h1.map_ fun _ _ _ _ hx => hx.ownQ hg hr2, ⟨nm, h2.congr (hg.block mb h2.lt (fun e => by have := (hr mb e.symm).1; omega)), h3⟩, ⟨v, h4.ownQ hg hr2, h5.kept hg ?_⟩, h6.grown hg (by have := h6.size; omega) (fun k hk => by have := (hr k hk).1; omega), Nat.lt_of_lt_of_le h7 hg.size⟩
  cases hv : v.ownBlock with
  | none => exact .inl rfl
  | some k =>
    refine .inr fun e => ?_
    obtain ⟨_, o, ho, hc⟩ := own_block_cells h5 hv
    obtain ⟨o', ho', hc'⟩ := hr2 k e.symm
    rw [ho] at ho'
    cases ho'
    rw [hc] at hc'
    cases hc'
/-- where the loop's variables lie -/
def AxQ (A : Array Value) (base : Nat) {k : Nat} {g : List (List Int)} (x : EdG k g) (a' : Act) (W : World) : Prop :=
  ∃ Bx, base ≤ Bx ∧ Blk W Bx 70 [.int .i64 (x.1.1 : Int), .int .i64 (x.1.2.1 : Int)] ∧ a' = { tmps := (((A.setIfInBounds 47 (.agg #[.int .i64 (x.1.1 : Int), .int .i64 (x.1.2.1 : Int)])).setIfInBounds 48 (.int .i64 (x.1.2.2 : Int))).setIfInBounds 7 (.pointer (some ⟨Bx, 0, none⟩))).setIfInBounds 8 (.int .i64 (x.1.2.2 : Int)), defers := [] }
theorem AxQ.own (A : Array Value) (base : Nat) {k : Nat} {g : List (List Int)} (x : EdG k g) (a' : Act) (B : Nat) : OwnFrom B (fun (_ : Unit) W => AxQ A base x a' W) := by
  intro _ W W' row h hg hr
  obtain ⟨Bx, h1, h2, h3⟩ := h
  exact ⟨Bx, h1, h2.ownQ hg (fun r e => (hr r e).2), h3⟩
end Go.Proofs.Ytlooclpfoeakgaa

/- Each vertex is first met from a lesser one. Plain laws. -/
namespace Go.Proofs.Ytlooclpfoeakgaa

theorem nxT_row' {g : List (List Int)} {v p u : Nat} (h : nxT g v p = some u) : ∃ r, g[v]? = some r ∧ r[p]? = some (u : Int) := by
  unfold nxT atG at h
  cases hr : g[v]? with
  | none => rw [hr] at h; cases h
  | some r =>
    rw [hr] at h
    change ((r[p]?).bind natI) = some u at h
    cases hx : r[p]? with
    | none => rw [hx] at h; cases h
    | some x =>
      rw [hx] at h
      change natI x = some u at h
      unfold natI at h
      split at h
      · refine ⟨r, rfl, ?_⟩
        rw [hx]
        congr 1
        have := Option.some.inj h
        omega
      · cases h
/-- a numbered graph's vertices are numbered as they are met -/
theorem good_order {k : Nat} {g : List (List Int)} (hg : GoodG k g) : ∀ v, v < g.length → v ≠ 0 → ∃ u q, u < v ∧ q < 2 * k ∧ nxT g u q = some v := by
  have hrow := hg.row
  have hn1 := hg.n1
  have hn5 := hg.n5
  obtain ⟨t, a1, a2, a3, -, a5, a6⟩ := numN_all (nx := nxT g) (R := fun x => x < g.length) (ps := List.range (2 * k)) (N := g.length) (fun v p u hv hp hu => by
      obtain ⟨r, h1, h2⟩ := nxT_row' hu
      have := ((hrow r (List.mem_of_getElem? h1)).2 _ (List.mem_of_getElem? h2)).2
      omega) (fun v h => h) 5000 0 [0] [] (by omega) (by simp) (fun x hx => by rw [List.mem_singleton.1 hx]; omega) rfl (by simp)
  rw [hg.num] at a3 a5
  obtain ⟨m, hm⟩ : ∃ m, [0] ++ t = m := ⟨_, rfl⟩
  rw [hm] at a1 a2 a3 a5 a6
  have hm0 : m[0]? = some 0 := by rw [← hm]; rfl
  have hid : ∀ j i : Nat, i ≤ j → ∀ x : Nat, m[i]? = some x → x = i := by
    intro j
    induction j with
    | zero =>
      intro i hi x hx
      obtain rfl : i = 0 := by omega
      rw [hm0] at hx
      exact (Option.some.inj hx).symm
    | succ j ih =>
      intro i hi x hx
      rcases Nat.lt_or_ge i (j + 1) with q | q
      · exact ih i (by omega) x hx
      · obtain rfl : i = j + 1 := by omega
        obtain ⟨u, y, q, h1, h2, h3, h4⟩ := a6 (j + 1) x (by simp) hx
        obtain rfl := ih u (by omega) y h2
        obtain ⟨h5, -⟩ := a5 y y (Nat.zero_le _) h2
        obtain ⟨r, h6, h7⟩ := nxT_row' h4
        rw [h5] at h6
        rw [← Option.some.inj h6] at h7
        rw [List.mem_range] at h3
        have h8 : ((List.range (2 * k)).map (posI (nxT g) m y))[q]? = some (posI (nxT g) m y q) := by simp [List.getElem?_range h3]
        rw [h8, posI_some h4 (posOf_of a1 hx)] at h7
        have := Option.some.inj h7
        omega
  intro v hv h0
  have hmv : m[v]? = some m[v] := List.getElem?_eq_getElem (by omega)
  have hv2 := hid v v (Nat.le_refl _) _ hmv
  rw [hv2] at hmv
  obtain ⟨u, y, q, h1, h2, h3, h4⟩ := a6 v v (by simp; omega) hmv
  obtain rfl := hid v u (by omega) y h2
  exact ⟨y, q, h1, List.mem_range.1 h3, h4⟩
end Go.Proofs.Ytlooclpfoeakgaa

/- A vertex's tree edge comes from a lesser vertex. Plain laws. -/
namespace Go.Proofs.Ytlooclpfoeakgaa

theorem scan_mem {K i j : Nat} {q : Nat × Nat} : q ∈ scanN K i j ↔ (q.1 < i ∧ q.2 < K) ∨ (q.1 = i ∧ q.2 < j) := by
  obtain ⟨a, b⟩ := q
  unfold scanN
  rw [List.mem_append, List.mem_flatMap, List.mem_map]
  simp only [List.mem_range, List.mem_map, Prod.mk.injEq]
  constructor
  · rintro (⟨v, h1, p, h2, rfl, rfl⟩ | ⟨p, h1, rfl, rfl⟩)
    · exact .inl ⟨h1, h2⟩
    · exact .inr ⟨rfl, h1⟩
  · rintro (⟨h1, h2⟩ | ⟨h1, h2⟩)
    · exact .inl ⟨a, h1, b, h2, rfl, rfl⟩
    · exact .inr ⟨b, h2, h1.symm, rfl⟩
theorem scan_rise (K : Nat) : ∀ i j, (scanN K i j).Pairwise fun a b => a.1 ≤ b.1
  | 0, 0 => by unfold scanN; simp
  | i + 1, 0 => by rw [← scan_next]; exact scan_rise_row K i K
  | i, j + 1 => scan_rise_row K i (j + 1)
where
  scan_rise_row (K : Nat) : ∀ i j, (scanN K i j).Pairwise fun a b => a.1 ≤ b.1
  | 0, 0 => by unfold scanN; simp
  | i + 1, 0 => by rw [← scan_next]; exact scan_rise_row K i K
  | i, j + 1 => by
    rw [scan_step, List.pairwise_append]
    refine ⟨scan_rise_row K i j, by simp, fun a ha b hb => ?_⟩
    rw [List.mem_singleton.1 hb]
    rcases scan_mem.1 ha with h | h
    · show a.1 ≤ i; omega
    · show a.1 ≤ i; omega
  termination_by i j => (i, j)
theorem find_first {K i j : Nat} {p : Nat × Nat → Bool} {a b : Nat × Nat} (h : (scanN K i j).find? p = some a) (hb : b ∈ scanN K i j) (hp : p b = true) : a.1 ≤ b.1 := by
  obtain ⟨_, l1, l2, e, h2⟩ := List.find?_eq_some_iff_append.1 h
  have hr := scan_rise K i j
  rw [e] at hr hb
  rw [List.pairwise_append, List.pairwise_cons] at hr
  rcases List.mem_append.1 hb with hb | hb
  · have := h2 b hb
    rw [hp] at this; cases this
  · rcases List.mem_cons.1 hb with rfl | hb
    · exact Nat.le_refl _
    · exact hr.2.1.1 b hb
/-- where a vertex is first met -/
theorem tree_first {k : Nat} {g : List (List Int)} (hg : GoodG k g) {v : Nat} (hv : v < g.length) (h0 : v ≠ 0) : ∃ f p, treeF g (scanN (2 * k) g.length 0) v = (f, p) ∧ f < v ∧ p < 2 * k ∧ nxT g f p = some v ∧ (scanN (2 * k) g.length 0).find? (hitP g v) = some (f, p) := by
  obtain ⟨u, q, h1, h2, h3⟩ := good_order hg v hv h0
  have hm : (u, q) ∈ scanN (2 * k) g.length 0 := scan_mem.2 (.inl ⟨by show u < g.length; omega, h2⟩)
  have hh : hitP g v (u, q) = true := by unfold hitP; simpa using h3
  unfold treeF
  rw [if_neg h0]
  cases hf : (scanN (2 * k) g.length 0).find? (hitP g v) with
  | none =>
    have := List.find?_eq_none.1 hf _ hm
    exact absurd hh this
  | some a =>
    have h4 := find_first hf hm hh
    have h5 := List.find?_some hf
    unfold hitP at h5
    rcases scan_mem.1 (List.mem_of_find?_eq_some hf) with h6 | h6
    · exact ⟨a.1, a.2, rfl, by have : a.1 ≤ u := h4; omega, h6.2, of_decide_eq_true h5, rfl⟩
    · have := h6.2; omega
end Go.Proofs.Ytlooclpfoeakgaa

/- A region that draws its order, in a round of a loop over a function: walked as everywhere. -/
namespace Go.Proofs.Ytlooclpfoeakgaa
open Go.RowKit Go.Shelf

/-- Q at the plain end, nothing elsewhere -/
def OnlyN (Q : Exit → Act → World → Prop) : Exit → Act → World → Prop
  | .normal, a, w => Q .normal a w
  | _, _, _ => False
theorem letsOut_only (Q : Exit → Act → World → Prop) : ¬ LetsOut (OnlyN Q) := fun ⟨_, _, h⟩ => h
def isDefer : Op → Bool
  | .defer _ => true
  | _ => false
theorem wpOpIn_of_plain {l n : Nat} {P : Program} {ops : Array Oper} {Q : Exit → Act → World → Prop} {K K' : Act → World → Prop} (hnd : ∀ (j : Nat) (o : Oper), ops[j]? = some o → isDefer o.op = false) (hK : ∀ a w, K a w → K' a w) {i : Nat} {a : Act} {w : World}
    (h : wpOp P ops (OnlyN Q) i K a w) : wpOpIn (Fence.wide.inRound l) n P ops Q i K' a w := by
  unfold wpOp at h
  unfold wpOpIn
  cases ho : ops[i]? with
  | none => rw [ho] at h; exact hK _ _ h
  | some o =>
    rw [ho] at h
    simp only at h ⊢
    split at h
    · rename_i hw
      rw [if_pos hw]
      rcases h with h | ⟨_, h⟩
      · refine ⟨fun _ _ => trivial, ?_⟩
        have hs : Oper.semAt (Fence.wide.inRound l).round a.eval o = execOp a.eval o := Oper.semAt_some l a.eval o (fun c hc => by
          have := hnd i o ho
          rw [hc] at this
          cases this)
        rw [hs]
        unfold Oper.wp at h
        generalize (execOp a.eval o).run P w = r at *
        cases r with
        | ok x w' =>
          cases x with
          | value u => exact hK _ _ h
          | skip => exact hK _ _ h
          | defer d => exact hK _ _ h
          | enter f args =>
            refine ⟨fun h => (by cases h), ?_⟩
            refine (CallsIn.inRound l (callsIn_wide.2 h)).mono fun e w'' he => ?_
            cases e with
            | returned u => exact hK _ _ he
            | panicked c => exact he.elim
            | outgrown => exact absurd he (letsOut_only Q)
          | row row args =>
            refine ⟨fun h => (by cases h), ?_⟩
            intro c cs _
            obtain ⟨u, w'', h1, h2⟩ := h c cs
            exact ⟨u, w'', hK _ _ h1, stepsIn_wide.2 h2⟩
          | _ => exact h.elim
        | halt x w' =>
          cases x with
          | panic u => exact h.elim
          | _ => exact h.elim
      · exact absurd h (letsOut_only Q)
    · rename_i hw
      rw [if_neg hw]
      exact ⟨fun _ _ => trivial, hK _ _ h⟩
theorem wpAnyIn_of_plain {l n : Nat} {P : Program} {md : Region.Mode} {ops : Array Oper} {Q : Exit → Act → World → Prop} (hnd : ∀ (j : Nat) (o : Oper), ops[j]? = some o → isDefer o.op = false) : ∀ (fuel : Nat) (listed : Array Bool) (a : Act) (w : World),
    wpAny P md ops (OnlyN Q) fuel listed a w → wpAnyIn (Fence.wide.inRound l) n P md ops Q fuel listed a w
  | 0, _, _, _, h => h
  | fuel + 1, _, _, _, h => ⟨h.1, fun i hi => wpOpIn_of_plain hnd (fun a w h => wpAnyIn_of_plain hnd fuel _ a w h) (h.2 i hi)⟩
/-- a region that draws its order, in a round: what holds in each world that meets S is taken first -/
theorem region_round {l n id : Nat} {P : Program} {ops : List Oper} {Q : Exit → Act → World → Prop} {S : World → Prop} {a : Act} {w : World} (hm : P.follows .mixedOrders = true) (hnd : (ops.all fun o => !isDefer o.op) = true) (hS : S w.drew)
    (h : S w.drew → wpAnyH P .any ops.toArray (OnlyN Q) S ops.toArray.size (Array.replicate ops.toArray.size false) a w.drew) : (Code.region id ops.toArray true).wpIn (Fence.wide.inRound l) n P Q a w := by
  refine wpIn_region_any hm (wpAnyIn_of_plain (fun j o hj => ?_) _ _ _ _ (wpAny_of_held _ _ _ _ (h hS)))
  have := List.all_eq_true.1 hnd o (List.mem_of_getElem? (by simpa using hj))
  simpa using this
end Go.Proofs.Ytlooclpfoeakgaa
