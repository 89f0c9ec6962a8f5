/- The iterator of the inversions: its contract. -/
import Derived.RangeFuncNested
import Derived.RangeFuncBound
import Derived.RangeFuncCalls
import Derived.RangeFuncLeaves
import Derived.RangeFuncBox
import Derived.Shelf.Abstract
import Derived.Shelf.RegionOpenPlain
import Derived.WalkKit
import Derived.OwnWalkIn
import Derived.TacticsInMore
import Derived.LoopNIn
import Derived.LoopIn
import Derived.Test.YtgajaccnjjiiaaaProg
import Derived.Test.YtgajaccnjjiiaaaLib
namespace Go.Proofs.Ytgajaccnjjiiaaa
open Go.RowKit Go.Shelf
attribute [local go_sem] Oper.semAt_some

def rowTo (p : List Int) (i : Nat) : Nat → List (Nat × Nat)
  | 0 => []
  | m + 1 => rowTo p i m ++ (if p[i + 1 + m]?.getD 0 < p[i]?.getD 0 then [(i, i + 1 + m)] else [])
def invTo (p : List Int) : Nat → List (Nat × Nat)
  | 0 => []
  | i + 1 => invTo p i ++ rowTo p i (p.length - (i + 1))
/-- all inversions, as they come -/
def invs (p : List Int) : List (Nat × Nat) := invTo p p.length
theorem rowTo_prefix (p : List Int) (i : Nat) : ∀ {m m' : Nat}, m ≤ m' → rowTo p i m <+: rowTo p i m' := by
  intro m m' h
  induction m' with
  | zero => obtain rfl : m = 0 := by omega
            exact List.prefix_refl _
  | succ m' ih =>
    by_cases e : m = m' + 1
    · subst e; exact List.prefix_refl _
    · exact (ih (by omega)).trans (List.prefix_append _ _)
theorem invTo_prefix (p : List Int) : ∀ {i i' : Nat}, i ≤ i' → invTo p i <+: invTo p i' := by
  intro i i' h
  induction i' with
  | zero => obtain rfl : i = 0 := by omega
            exact List.prefix_refl _
  | succ i' ih =>
    by_cases e : i = i' + 1
    · subst e; exact List.prefix_refl _
    · exact (ih (by omega)).trans (List.prefix_append _ _)
theorem part_prefix (p : List Int) {i m : Nat} (hi : i < p.length) (hm : m ≤ p.length - (i + 1)) : invTo p i ++ rowTo p i m <+: invs p :=
  ((List.prefix_append_right_inj _).2 (rowTo_prefix p i hm)).trans (invTo_prefix p (i' := p.length) (i := i + 1) (by omega))

/-- the box at Bs holds the slice value sv, whose elements, in block b, are p -/
def SlAt (W : World) (Bs b : Nat) (sv : Value) (p : List Int) : Prop :=
  W.cell? ⟨Bs, 0, none⟩ = some sv ∧ ∃ ao o cap, sv = .slice ao p.length cap ∧ (0 < p.length → ao = some ⟨b, o, none⟩) ∧ ∀ j x, p[j]? = some x → W.cell? ⟨b, o + j, none⟩ = some (.int .i64 x)
/-- what a round that goes on keeps: the box and the block -/
def KpP (Bs b : Nat) (A C : World) : Prop := (∀ v, A.cell? ⟨Bs, 0, none⟩ = some v → C.cell? ⟨Bs, 0, none⟩ = some v) ∧ ∀ j v, A.cell? ⟨b, j, none⟩ = some v → C.cell? ⟨b, j, none⟩ = some v
theorem KpP_t {Bs b : Nat} {A B C : World} (h : KpP Bs b A B) (k : KpP Bs b B C) : KpP Bs b A C := ⟨fun v hv => k.1 v (h.1 v hv), fun j v hv => k.2 j v (h.2 j v hv)⟩
theorem KpP_b {Bs b s : Nat} (W : World) (l : Nat) (o o' : Obj) (_ : s ≤ l) (h : W.heap[l]? = some o) (hc : o.isCells = false) (_ : o.isWalk = false) : KpP Bs b W (W.putObj l o') :=
  ⟨fun _ hv => cell_kept hv (grownBy_putObj' W l o') (fun r e => by cases e; exact ⟨o, h, hc⟩), fun _ _ hv => cell_kept hv (grownBy_putObj' W l o') (fun r e => by cases e; exact ⟨o, h, hc⟩)⟩
theorem SlAt.keep {W W' : World} {Bs b : Nat} {sv : Value} {p : List Int} (h : SlAt W Bs b sv p) (k : KpP Bs b W W') : SlAt W' Bs b sv p := by
  obtain ⟨h1, ao, o, cap, h2, h3, h4⟩ := h
  exact ⟨k.1 _ h1, ao, o, cap, h2, h3, fun j x hj => k.2 _ _ (h4 j x hj)⟩
theorem SlAt.below {B : Nat} {W W' : World} {Bs b : Nat} {sv : Value} {p : List Int} (h : SlAt W Bs b sv p) (k : Below B W W') (h1 : Bs < B) (h2 : 0 < p.length → b < B) : SlAt W' Bs b sv p := by
  obtain ⟨g1, ao, o, cap, g2, g3, g4⟩ := h
  refine ⟨(k.cell (p := ⟨Bs, 0, none⟩) h1).trans g1, ao, o, cap, g2, g3, fun j x hj => ?_⟩
  have : j < p.length := by
    rcases Nat.lt_or_ge j p.length with h | h
    · exact h
    · rw [List.getElem?_eq_none h] at hj; cases hj
  exact (k.cell (p := ⟨b, o + j, none⟩) (h2 (by omega))).trans (g4 j x hj)

set_option maxRecDepth 100000 in
set_option maxHeartbeats 2000000 in
theorem inv1_in (F : Fence) (n : Nat) (hf : F.fn 104) (hro : F.round = none) (hn : 1 ≤ n) (l Bs b : Nat) (sv : Value) (p : List Int) (hreach : p.length ≤ 1000000000000) (J Jx : List (Nat × Nat) → World → Prop)
    (hY : ∀ pre x W, J pre W → pre ++ [x] <+: invs p → YieldAt F (n - 1) Try.prog l #[.int .i64 (x.1 : Int), .int .i64 (x.2 : Int)] W fun e W' =>
      (e = .returned (.bool true) ∧ J (pre ++ [x]) W' ∧ KpP Bs b W W') ∨ (e = .returned (.bool false) ∧ Jx (pre ++ [x]) W'))
    (W : World) (hS : SlAt W Bs b sv p) (h0 : J [] W) :
    CallsIn F n Try.prog 104 #[.func (.yield l) #[] #[], .pointer (some ⟨Bs, 0, none⟩)] W fun e W' => (∃ v, e = .returned v) ∧
      ((∃ ys, ys = invs p ∧ J ys W') ∨ (∃ pre, pre <+: invs p ∧ Jx pre W')) := by
  obtain ⟨hbx, ao, o, cap, rfl, hao, hcs⟩ := id hS
  refine callsIn_of_wp Try.func104 rfl hf ?_ hro
  simp only [Try.ntmps104, List.size_toArray, List.length_cons, List.length_nil, Nat.reduceAdd, Nat.reduceSub, Array.replicate_succ, Array.replicate_zero, List.push_toArray, List.append_toArray, List.nil_append, List.cons_append]
  have HC := Lib.hid hcs; clear hcs
  have HAO := Lib.hid hao; clear hao
  gi_wp2
  clear hbx HC HAO
  gi_loopw [8] (fun i wr => ∃ k : Nat, k ≤ p.length ∧ i = .int .i64 k ∧ J (invTo p k) wr ∧ SlAt wr Bs b (.slice ao p.length cap) p) (fun i _ => p.length - (intOf i).toNat)
  case atStart => exact ⟨0, Nat.zero_le _, rfl, h0, hS⟩
  case round =>
    clear hS h0
    obtain ⟨k, hk, rfl, hJ, hS⟩ := hrel
    obtain ⟨hbx, ao', o, cap', hv, hao, hcs⟩ := id hS
    obtain ⟨rfl, rfl⟩ : ao = ao' ∧ cap = cap' := by simpa using hv
    clear hv
    by_cases hlt : k < p.length
    · obtain ⟨x, hx⟩ := get_of_lt (zs := p) hlt
      obtain rfl := hao (by omega)
      have hcx := hcs _ _ hx
      have HC := Lib.hid hcs
      have HX := Lib.hid hx
      clear hcs hao hx
      gi_wp2
      clear hbx hcx HC
      gi_loopw [5] (fun kk wx => ∃ m : Nat, m ≤ p.length - (k + 1) ∧ kk = .int .i64 (k + 1 + m) ∧ J (invTo p k ++ rowTo p k m) wx ∧ SlAt wx Bs b (.slice (some ⟨b, o, none⟩) p.length cap) p) (fun kk _ => p.length - (intOf kk).toNat)
      case atStart => exact ⟨0, Nat.zero_le _, by go_num, by simpa [rowTo] using hJ, hS⟩
      case round =>
        clear hJ hS
        obtain ⟨m, hm, rfl, hJ, hS⟩ := hrel
        obtain ⟨hbx, ao', o', cap', hv, hao, hcs⟩ := id hS
        obtain ⟨rfl, rfl, rfl⟩ : o = o' ∧ cap = cap' ∧ ao' = some ⟨b, o, none⟩ := by
          have h0 := hao (by omega)
          subst h0
          simp at hv
          exact ⟨hv.1, hv.2, by rw [hv.1]⟩
        clear hv hao
        by_cases hlm : k + 1 + m < p.length
        · obtain ⟨y, hy⟩ := get_of_lt (zs := p) hlm
          have hcy := hcs _ _ hy
          have hrow : rowTo p k (m + 1) = rowTo p k m ++ (if y < x then [(k, k + 1 + m)] else []) := by rw [rowTo, hy, HX.out]; rfl
          have hpre := part_prefix p hlt (m := m + 1) (by omega)
          have HROW := Lib.hid hrow
          have HPRE := Lib.hid hpre
          clear hcs hy hrow hpre
          have e1 : (k : Int) + 1 + m < p.length := by omega
          by_cases hyx : y < x
          · have hlen : invTo p k ++ rowTo p k m ++ [(k, k + 1 + m)] <+: invs p := by
              have := HPRE.out
              rw [HROW.out, if_pos hyx] at this
              simpa using this
            obtain ⟨fn, tmps, assign, body, hy, hR⟩ := hY _ (k, k + 1 + m) wr hJ hlen
            have HLEN := Lib.hid hlen; clear hlen
            dsimp only at hy
            rw [show ((k + 1 + m : Nat) : Int) = (k : Int) + 1 + m by omega] at hy
            have hnx : invTo p k ++ rowTo p k m ++ [(k, k + 1 + m)] = invTo p k ++ rowTo p k (m + 1) := by rw [HROW.out, if_pos hyx]; simp
            rw [hnx] at hR
            clear hnx
            gi_wp2
            refine hR.mono ?_
            rintro e W3 (⟨rfl, hJ3, hk3⟩ | ⟨rfl, hJx3⟩)
            · have hS3 := hS.keep hk3
              clear hS hk3 hR hy hJ
              gi_wp2
              go_roundw
              case rel => exact ⟨m + 1, by omega, by go_num, hJ3, hS3⟩
              case measure => simp [intOf]; omega
            · gi_wp2
              refine bodyPost_ret (results_none rfl _ _ _) rfl ?_
              exact ⟨⟨_, rfl⟩, .inr ⟨_, HPRE.out, hJx3⟩⟩
          · have hrm : rowTo p k (m + 1) = rowTo p k m := by rw [HROW.out, if_neg hyx]; simp
            have HRM := Lib.hid hrm; clear hrm
            have hd : decide (y < x) = false := by simpa using hyx
            gi_wp2
            refine ⟨fun _ h => (by cases h), ?_⟩
            gi_wp2
            go_roundw
            case rel => exact ⟨m + 1, by omega, by go_num, by rw [HRM.out]; exact hJ, hS⟩
            case measure => simp [intOf]; omega
        · have hrm : invTo p (k + 1) = invTo p k ++ rowTo p k m := by rw [invTo, show p.length - (k + 1) = m by omega]
          have HRM := Lib.hid hrm
          clear hrm hcs
          gi_wp2
          go_roundw
          case rel => exact ⟨k + 1, by omega, by go_num, by rw [HRM.out]; exact hJ, hS⟩
          case measure => simp [intOf]; omega
    · obtain rfl : k = p.length := by omega
      clear hcs hao
      gi_wp2
      go_end0
      exact ⟨⟨_, rfl⟩, .inl ⟨_, rfl, hJ⟩⟩

/-- an inversion of p -/
abbrev Inv (p : List Int) := { x : Nat × Nat // x ∈ invs p }
def vals {p : List Int} (l : List (Inv p)) : List (Nat × Nat) := l.map (·.1)
theorem vals_snoc {p : List Int} (l : List (Inv p)) (x : Inv p) : vals (l ++ [x]) = vals l ++ [x.1] := by simp [vals]

theorem inv_stops (F : Fence) (n : Nat) (hf : F.fn 104) (hro : F.round = none) (hn : 1 ≤ n) (Bs b : Nat) (sv : Value) (p : List Int) (hreach : p.length ≤ 1000000000000) (w : World)
    (hS : SlAt w Bs b sv p) (h1 : Bs < w.heap.size) (h2 : 0 < p.length → b < w.heap.size) :
    SeqStopsK F n Try.prog 104 #[.pointer (some ⟨Bs, 0, none⟩)] (fun x : Inv p => #[Value.int .i64 (x.1.1 : Int), Value.int .i64 (x.1.2 : Int)]) (KpP Bs b) (fun ys => vals ys = invs p) (fun pre => vals pre <+: invs p) (invs p).length w :=
  fun l J Jx W hW _ _ hY h0 => by
    refine (inv1_in F n hf hro hn l Bs b sv p hreach (fun t W => ∃ la : List (Inv p), vals la = t ∧ J la W) (fun t W => ∃ la : List (Inv p), vals la = t ∧ Jx la W) ?_ W (hS.below hW h1 h2) ⟨[], rfl, h0⟩).mono ?_
    · rintro pre x W1 ⟨la, rfl, hJ⟩ hp
      have hx : x ∈ invs p := hp.subset (by simp)
      have hlt : la.length < (invs p).length := by have := hp.length_le; simp [vals] at this; omega
      obtain ⟨fn, tmps, assign, body, hy, hR⟩ := hY la ⟨x, hx⟩ W1 hJ hlt
      refine ⟨fn, tmps, assign, body, hy, hR.mono ?_⟩
      rintro e W' (⟨rfl, hJ', hk⟩ | ⟨rfl, hJ'⟩)
      · exact .inl ⟨rfl, ⟨_, vals_snoc _ _, hJ'⟩, hk⟩
      · exact .inr ⟨rfl, ⟨_, vals_snoc _ _, hJ'⟩⟩
    · rintro e W' ⟨hv, ⟨ys, rfl, la, hla, hJ⟩ | ⟨pre, hp, la, rfl, hJ⟩⟩
      · exact ⟨hv, .inl ⟨la, hla, hJ⟩⟩
      · exact ⟨hv, .inr ⟨la, hp, hJ⟩⟩

set_option maxHeartbeats 1000000 in
theorem inversions_in (F : Fence) (n : Nat) (hf : F.fn 73) (hro : F.round = none) (a : Option Addr) (len cap : Nat) (w : World) :
    CallsIn F n Try.prog 73 #[.slice a len cap] w fun e w' => e = .returned (.func (.func 104) #[] #[.pointer (some ⟨w.heap.size, 0, none⟩)]) ∧ w' = w.alloc (.cells #[.slice a len cap] 22) := by
  refine callsIn_of_wp Try.func73 rfl hf ?_ hro
  simp only [Try.ntmps73, List.size_toArray, List.length_cons, List.length_nil, Nat.reduceAdd, Nat.reduceSub, Array.replicate_succ, Array.replicate_zero, List.push_toArray, List.append_toArray, List.nil_append, List.cons_append]
  gi_wp2
  go_ret
  exact ⟨rfl, rfl⟩
end Go.Proofs.Ytgajaccnjjiiaaa
