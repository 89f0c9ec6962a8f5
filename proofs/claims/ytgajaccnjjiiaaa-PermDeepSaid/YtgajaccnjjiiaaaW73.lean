/- The reference's gapless and IsSimple: the walks. -/
import Derived.Test.YtgajaccnjjiiaaaW53
namespace Go.Proofs.Ytgajaccnjjiiaaa
open Go.RowKit

def gsp (l : List Int) : Nat → Int × Int
  | 0 => (vat l 0, vat l 0)
  | k + 1 => (min (gsp l k).1 (vat l k), max (gsp l k).2 (vat l k))
def gapB (l : List Int) : Bool := decide ((gsp l l.length).2 - (gsp l l.length).1 = (l.length : Int) - 1)
theorem vat_box {l : List Int} (h : ∀ x ∈ l, 0 ≤ x ∧ x ≤ 1000) (i : Nat) : 0 ≤ vat l i ∧ vat l i ≤ 1000 := by
  by_cases hi : i < l.length
  · exact h _ (vat_mem hi)
  · rw [vat, List.getElem?_eq_none (by omega)]; simp
theorem gsp_box {l : List Int} (h : ∀ x ∈ l, 0 ≤ x ∧ x ≤ 1000) : ∀ k, 0 ≤ (gsp l k).1 ∧ (gsp l k).1 ≤ 1000 ∧ 0 ≤ (gsp l k).2 ∧ (gsp l k).2 ≤ 1000
  | 0 => by have := vat_box h 0; rw [gsp]; exact ⟨this.1, this.2, this.1, this.2⟩
  | k + 1 => by
    have h1 := gsp_box h k
    have h2 := vat_box h k
    rw [gsp]
    simp only []
    omega

set_option maxRecDepth 100000 in
set_option maxHeartbeats 2000000 in
theorem gapless_any (v : Value) (l : List Int) (w : World) (hv : Ints w v l) (h0 : 0 < l.length) (hl : l.length ≤ 1000) (hb : ∀ x ∈ l, 0 ≤ x ∧ x ≤ 1000) :
    Calls Try.prog 79 #[v] w fun e w' => e = .returned (.bool (gapB l)) ∧ Below w.heap.size w w' := by
  obtain ⟨a, n, cap, rfl, HN, hn⟩ := hv.open
  have hn1 : n ≤ 1000 := by have := HN.out; omega
  have hn0 : 0 < n := by have := HN.out; omega
  obtain ⟨b, o, x0, rfl, hx0, c0⟩ := hv.at_ hn0
  rw [Nat.add_zero] at c0
  have hgb := gsp_box hb
  have e0 : gsp l 0 = (x0, x0) := by rw [gsp, vat_of hx0.out]
  have HGB := Lib.hid hgb
  have HE0 := Lib.hid e0
  have HBX := Lib.hid hb
  clear hgb e0 hb h0 hl
  go_enter Try.func79, Try.ntmps79
  go_wp2_with fail
  go_quiet (fail)
  go_wp2_with fail
  go_loopw [3, 4, 5] (fun lo hi iv wr => ∃ k nd : Nat, k ≤ n ∧ iv = .int .i64 k ∧ lo = .int .i64 (gsp l k).1 ∧ hi = .int .i64 (gsp l k).2 ∧ wr = w.drewN nd) (fun _ _ iv _ => n - (intOf iv).toNat)
  case atStart => exact ⟨0, nq, by omega, rfl, by rw [HE0.out], by rw [HE0.out], rfl⟩
  case round =>
    obtain ⟨k, nd, hk, rfl, rfl, rfl, rfl⟩ := hrel
    have hgk := HGB.out k
    by_cases hlt : k < n
    · obtain ⟨x, hx, cx0⟩ := hv.cell_ (k := k) hlt
      have cx : (w.drewN nd).cell? ⟨b, o + k, none⟩ = some (.int .i64 x) := cx0
      have hxb := HBX.out x (List.mem_of_getElem? hx.out)
      have hs : gsp l (k + 1) = (min (gsp l k).1 x, max (gsp l k).2 x) := by rw [gsp, vat_of hx.out]
      have HS := Lib.hid hs
      clear hs cx0
      generalize (gsp l k).1 = lo at *
      generalize (gsp l k).2 = hi at *
      go_wp2_with fail
      go_roundw
      case rel => exact ⟨k + 1, nd, by omega, by go_num, by rw [HS.out], by rw [HS.out], rfl⟩
      case measure => simp [intOf]; omega
    · obtain rfl : k = n := by omega
      have hf : gapB l = decide ((gsp l k).2 - (gsp l k).1 = (k : Int) - 1) := by rw [gapB, HN.out]
      have HF := Lib.hid hf
      clear hf
      generalize (gsp l k).1 = lo at *
      generalize (gsp l k).2 = hi at *
      go_wp2_with fail
      go_ret
      exact ⟨by rw [HF.out]; congr 2, (Below.refl _ _).drewN' nd⟩

def SimAt (p : List Int) (a b : Nat) : Bool := decide (b - a < p.length) && gapB ((p.take b).drop a)
def simB (p : List Int) : Bool := (List.range p.length).all fun a => (List.range (p.length + 1)).all fun b => !(decide (a + 2 ≤ b) && SimAt p a b)
theorem simB_iff {p : List Int} : simB p = true ↔ ∀ a b, a < p.length → a + 2 ≤ b → b ≤ p.length → SimAt p a b = false := by
  unfold simB
  rw [List.all_eq_true]
  constructor
  · intro h a b ha hab hb
    have := h a (List.mem_range.2 ha)
    rw [List.all_eq_true] at this
    have := this b (List.mem_range.2 (by omega))
    simpa [hab] using this
  · intro h a ha
    rw [List.all_eq_true]
    intro b hb
    rw [List.mem_range] at ha hb
    by_cases hab : a + 2 ≤ b
    · simp [hab, h a b ha hab (by omega)]
    · simp [hab]

set_option maxRecDepth 100000 in
set_option maxHeartbeats 4000000 in
theorem isSimple_any (v : Value) (p : List Int) (w : World) (hv : Ints w v p) (hl : p.length ≤ 1000) (hb : ∀ x ∈ p, 0 ≤ x ∧ x ≤ 1000) :
    Calls Try.prog 109 #[v] w fun e w' => e = .returned (.bool (simB p)) ∧ Below w.heap.size w w' := by
  obtain ⟨ad, n, cap, rfl, HN, hn⟩ := hv.open
  have hn1 : n ≤ 1000 := by have := HN.out; omega
  have hcap := hv.cap_.1
  have HV := Lib.hid hv
  have HBX := Lib.hid hb
  clear hl hb hv
  go_enter Try.func109, Try.ntmps109
  go_wp2_with fail
  go_loopw [3] (fun iv wr => ∃ a : Nat, a ≤ n ∧ iv = .int .i64 a ∧ Below w.heap.size w wr ∧ Hid (∀ a' b, a' < a → a' + 2 ≤ b → b ≤ n → SimAt p a' b = false)) (fun iv _ => n - (intOf iv).toNat)
  case atStart => exact ⟨0, by omega, rfl, Below.refl _ _, (show Hid (∀ a' b, a' < 0 → a' + 2 ≤ b → b ≤ n → SimAt p a' b = false) from fun a' b h => by omega)⟩
  case round =>
    obtain ⟨a, ha, rfl, hB, HA⟩ := hrel
    have hsz := hB.size
    by_cases hlt : a < n
    · go_wp2_with fail
      go_loopw [4] (fun iv wx => ∃ b : Nat, a + 2 ≤ b ∧ b ≤ n + 2 ∧ iv = .int .i64 b ∧ Below w.heap.size w wx ∧ Hid (∀ b', a + 2 ≤ b' → b' < b → b' ≤ n → SimAt p a b' = false)) (fun iv _ => n + 2 - (intOf iv).toNat)
      case atStart => exact ⟨a + 2, by omega, by omega, by go_num, hB, (show Hid (∀ b', a + 2 ≤ b' → b' < a + 2 → b' ≤ n → SimAt p a b' = false) from fun b' h1 h2 => by omega)⟩
      case round =>
        obtain ⟨b, hab, hbn2, rfl, hB2, HB⟩ := hrel
        have hsz2 := hB2.size
        by_cases hbn : b ≤ n
        · by_cases hlen : b - a < n
          · have hleni : (b : Int) - (a : Int) < n := by omega
            obtain ⟨B, o, x, rfl, _, _⟩ := HV.out.at_ hlt
            have hsub := (HV.out.below hB2 (Nat.le_refl _)).sub (i := a) (j := b) (by omega) hbn
            have hpl : ((p.take b).drop a).length = b - a := by rw [List.length_drop, List.length_take, HN.out]; omega
            have hca := gapless_any _ ((p.take b).drop a) _ hsub (by omega) (by omega) (fun x hx => HBX.out x (List.mem_of_mem_take (List.mem_of_mem_drop hx)))
            have hat : SimAt p a b = gapB ((p.take b).drop a) := by rw [SimAt, HN.out, decide_eq_true hlen, Bool.true_and]
            have q1 : b ≤ cap := by omega
            have q2 : a ≤ b := by omega
            have q3 : ¬ cap = a := by omega
            generalize gapB ((p.take b).drop a) = g at *
            have HCA := Lib.hid hca
            have HAT := Lib.hid hat
            clear hca hat hsub hpl
            cases g
            · go_wp2_with (go_at_call 79; refine HCA.out.mono ?_; rintro e w3 ⟨rfl, hb3⟩)
              go_roundw
              case rel =>
                refine ⟨b + 1, by omega, by omega, by go_num, hB2.trans (hb3.mono hsz2), ?_⟩
                show ∀ b', _ → _ → _ → _
                intro b' h1 h2 h3
                by_cases e : b' = b
                · subst e; exact HAT.out
                · exact HB.out b' h1 (by omega) h3
              case measure => simp [intOf]; omega
            · have hfin : simB p = false := by
                rw [Bool.eq_false_iff]
                intro h
                have := simB_iff.1 h a b (by rw [HN.out]; exact hlt) hab (by rw [HN.out]; exact hbn)
                rw [HAT.out] at this; cases this
              have HF := Lib.hid hfin
              clear hfin
              go_wp2_with (go_at_call 79; refine HCA.out.mono ?_; rintro e w3 ⟨rfl, hb3⟩)
              go_ret
              exact ⟨by rw [HF.out]; rfl, hB2.trans (hb3.mono hsz2)⟩
          · have hleni : ¬ (b : Int) - (a : Int) < n := by omega
            have hat : SimAt p a b = false := by rw [SimAt, HN.out, decide_eq_false hlen, Bool.false_and]
            have HAT := Lib.hid hat
            clear hat
            go_wp2_with fail
            go_roundw
            case rel =>
              refine ⟨b + 1, by omega, by omega, by go_num, hB2, ?_⟩
              show ∀ b', _ → _ → _ → _
              intro b' h1 h2 h3
              by_cases e : b' = b
              · subst e; exact HAT.out
              · exact HB.out b' h1 (by omega) h3
            case measure => simp [intOf]; omega
        · go_wp2_with fail
          go_roundw
          case rel =>
            refine ⟨a + 1, by omega, by go_num, hB2, ?_⟩
            show ∀ a' b, _ → _ → _ → _
            intro a' b' h1 h2 h3
            by_cases e : a' = a
            · subst e; exact HB.out b' h2 (by omega) h3
            · exact HA.out a' b' (by omega) h2 h3
          case measure => simp [intOf]; omega
    · obtain rfl : a = n := by omega
      have hfin : simB p = true := simB_iff.2 fun a' b h1 h2 h3 => HA.out a' b (by rw [← HN.out]; exact h1) h2 (by rw [← HN.out]; exact h3)
      have HF := Lib.hid hfin
      clear hfin
      go_wp2_with fail
      go_ret
      exact ⟨by rw [HF.out]; rfl, hB⟩
end Go.Proofs.Ytgajaccnjjiiaaa
