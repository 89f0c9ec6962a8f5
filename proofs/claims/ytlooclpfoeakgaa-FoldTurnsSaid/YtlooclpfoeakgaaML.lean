/- Graphs that are numbered with more room: for many words. Plain laws. -/
import Derived.Test.YtlooclpfoeakgaaMG
import Derived.Test.YtlooclpfoeakgaaMJ
import Derived.Test.YtlooclpfoeakgaaMF
import Derived.RangeFuncNested
import Derived.RangeFuncBound
import Derived.RangeFuncCalls
import Derived.RangeFuncLeaves
import Derived.RangeFuncBox
import Derived.Shelf.Abstract
import Derived.Shelf.RegionOpenPlain
import Derived.WalkKit
import Derived.OwnWalkIn
import Derived.TacticsInMore
import Derived.LoopNIn
import Derived.LoopIn
import Derived.Test.YtlooclpfoeakgaaMI
import Derived.Test.YtlooclpfoeakgaaME
import Derived.Test.YtlooclpfoeakgaaMB
import Derived.Test.YtlooclpfoeakgaaMK
namespace Go.Proofs.Ytlooclpfoeakgaa
open Go.RowKit

/-- g is the graph of what the words make: at most 20001 vertices -/
def IsGraphN (k : Nat) (S : List UInt8 → Prop) (g : List (List Int)) : Prop := ∃ (nx : Nat → Nat → Option Nat) (o : Nat), GraphOf k S nx o ∧ (o < 20001 ∧ ∀ v p u, nx v p = some u → u < 20001 ∧ p < 2 * k) ∧ g = numN nx (List.range (2 * k)) 20001 0 [o] []
/-- what folded does -/
def FoldedSpecN : Prop := ∀ (w : World) (k base : Nat) (v : Value) (l : List Ed) (S : List UInt8 → Prop) (φ : Nat → List UInt8), 1 ≤ k → k ≤ 4 → OwnE w base v l → EInv k 20001 S φ l → l.length < 100000 →
  Calls Try.prog 67 #[.int .i64 k, v] w fun e w' => ∃ (rv : Value) (g : List (List Int)), e = .returned (.agg #[.int .i64 k, rv]) ∧ IsGraphN k S g ∧ RowsAt w' w.heap.size rv g (fun _ => True) ∧ Below w.heap.size w w'
/-- more room changes nothing -/
theorem numN_stop {nx : Nat → Nat → Option Nat} {ps : List Nat} {N : Nat} {R : Nat → Prop} (hR : ∀ v p u, R v → p ∈ ps → nx v p = some u → R u) (hN : ∀ v, R v → v < N) (d : Nat) : ∀ (f i : Nat) (l : List Nat) (g : List (List Int)), N ≤ i + f → l.Nodup → (∀ x ∈ l, R x) → i ≤ l.length →
    numN nx ps (f + d) i l g = numN nx ps f i l g
  | 0, i, l, g, hf, h1, h2, h4 => by
    have h5 := nodup_len h1 (fun x hx => hN x (h2 x hx))
    have h6 : l[i]? = none := List.getElem?_eq_none (by omega)
    rw [numN_end h6, numN_end h6]
  | f + 1, i, l, g, hf, h1, h2, h4 => by
    cases hi : l[i]? with
    | none => rw [numN_end hi, numN_end hi]
    | some v =>
      have hil := (List.getElem?_eq_some_iff.1 hi).1
      have hRv := h2 v (List.mem_of_getElem? hi)
      obtain ⟨t, a1, a2, a3, -, -, -⟩ := rowN_all v hRv ps (fun p u hp hu => hR v p u hRv hp hu) l [] h1 h2
      have e : ∀ f, numN nx ps (f + 1) i l g = numN nx ps f (i + 1) (l ++ t) (g ++ [(rowN nx v ps l []).2]) := fun f => by rw [numN, hi]; simp only; rw [a1]
      rw [show f + 1 + d = (f + d) + 1 by omega, e, e]
      exact numN_stop hR hN d f (i + 1) (l ++ t) _ (by omega) a2 a3 (by simp; omega)
theorem IsGraph.wide {k : Nat} {S : List UInt8 → Prop} {g : List (List Int)} (h : IsGraph k S g) : IsGraphN k S g := by
  obtain ⟨nx, o, h1, ⟨h2, h3⟩, rfl⟩ := h
  refine ⟨nx, o, h1, ⟨by omega, fun v p u h => ⟨by have := (h3 v p u h).1; omega, (h3 v p u h).2⟩⟩, ?_⟩
  exact (numN_stop (R := fun v => v < 5000) (fun v p u _ _ h => (h3 v p u h).1) (fun v h => h) 15001 5000 0 [o] [] (by omega) (by simp) (fun x hx => by rw [List.mem_singleton.1 hx]; exact h2) (by simp)).symm
theorem IsGraphN.same {k : Nat} (hk : k ≤ 26) {S T : List UInt8 → Prop} {g g2 : List (List Int)} (h1 : IsGraphN k S g) (h2 : IsGraphN k T g2) (h : ∀ a, Rd a → (Gen S a ↔ Gen T a)) : g = g2 := by
  obtain ⟨nx, o, a1, _, rfl⟩ := h1
  obtain ⟨ny, p, b1, _, rfl⟩ := h2
  exact graph_same hk a1 b1 h 20001
theorem IsGraphN.congr {k : Nat} {S T : List UInt8 → Prop} {g : List (List Int)} (h : ∀ a, Gen S a ↔ Gen T a) (h1 : IsGraphN k S g) : IsGraphN k T g := by
  obtain ⟨nx, o, h2, h3, h4⟩ := h1
  exact ⟨nx, o, ⟨h2.fold, h2.core, fun g hg => (h2.loops g hg).trans (h g)⟩, h3, h4⟩
end Go.Proofs.Ytlooclpfoeakgaa

/- The reference lays edges on one another, takes off what hangs loose, and numbers: the walk. -/
namespace Go.Proofs.Ytlooclpfoeakgaa
open Go.RowKit

set_option maxRecDepth 100000 in
set_option maxHeartbeats 4000000 in
theorem foldedN_any : FoldedSpecN := by
  intro w k base v l S φ hk1 hk4 hO hI hl
  have hzb := Blk.new w 32 zeroG
  have hb0 : Below w.heap.size w (w.alloc (.cells zeroG.toArray 32)) := (Below.refl _ _).alloc (Nat.le_refl _) _
  have HO : Hid (OwnE (w.alloc (.cells zeroG.toArray 32)) base v l) := Lib.hid (World.ownsRow.keep hO ((Below.refl _ _).alloc (Nat.le_refl _) _))
  have HI := Lib.hid hI
  have HZ : Hid (Blk (w.alloc (.cells zeroG.toArray 32)) w.heap.size 32 zeroG) := Lib.hid hzb
  have HB : Hid (Below w.heap.size w (w.alloc (.cells zeroG.toArray 32))) := Lib.hid hb0
  have HLL := Lib.hid hl
  clear hO hI hzb hb0 hl
  go_enter Try.func67, Try.ntmps67
  go_wp2_with fail
  go_loopg [5, 1] (2 * (sumE l + l.length) + 1) (fun gk av lv wr => ∃ (b : Bool) (b0 : Nat) (l2 : List Ed) (lw : Value), av = .bool b ∧ lw = lv ∧ Hid (OwnE wr b0 lw l2) ∧ Hid (EInv k 20001 S φ l2) ∧ Hid (b = false → Det l2) ∧ Hid (2 * (sumE l2 + l2.length) + (if b = true then 1 else 0) ≤ gk) ∧ Hid (l2.length < 100000) ∧ Hid (Blk wr w.heap.size 32 zeroG) ∧ Hid (Below w.heap.size w wr))
  case atStart => exact ⟨true, base, l, _, rfl, rfl, HO, HI, Lib.hid (by simp), Lib.hid (by simp), HLL, HZ, HB⟩
  case round =>
    clear HO HI HZ HB HLL
    obtain ⟨b, b0, l2, lw, rfl, rfl, HO, HI, HD, HG, HL, HZ, HB⟩ := hrel
    obtain ⟨wA, rfl⟩ : ∃ wA, wA = wr := ⟨_, rfl⟩
    obtain ⟨gA, rfl⟩ : ∃ x, x = gk := ⟨_, rfl⟩
    obtain ⟨n, hn⟩ : ∃ n, l2.length = n := ⟨_, rfl⟩
    have h9 : OwnK wA b0 102 3 lw n (edL l2) := by rw [← hn]; exact HO.out
    obtain ⟨va, vc, rfl, hv1, hv2, -⟩ := row_shape h9
    have hn9 : n < 100000 := by rw [← hn]; exact HL.out
    have HN := Lib.hid hn
    clear h9 hn HL
    cases b
    · have HED : Hid (EDone k 20001 S l2) := Lib.hid (HI.out.done (by omega) (HD.out rfl))
      have HLN : Hid (l2.length < 100000) := Lib.hid (by rw [HN.out]; exact hn9)
      have HT0 : Hid (true = false → ∀ t e, t < l2.length → l2[t]? = some e → looseE l2 e = false) := Lib.hid (by simp)
      have HG0 : Hid (2 * l2.length + (if true = true then 1 else 0) ≤ 2 * n + 1) := Lib.hid (by rw [HN.out]; simp)
      clear HD HG HI
      go_wp2_with fail
      go_loopg [11, 1] (2 * n + 1) (fun g4 av lv wr => ∃ (b : Bool) (b1 : Nat) (l2 : List Ed) (lw : Value), av = .bool b ∧ lw = lv ∧ Hid (OwnE wr b1 lw l2) ∧ Hid (EDone k 20001 S l2) ∧ Hid (b = false → ∀ t e, t < l2.length → l2[t]? = some e → looseE l2 e = false) ∧ Hid (2 * l2.length + (if b = true then 1 else 0) ≤ g4) ∧ Hid (l2.length < 100000) ∧ Hid (Blk wr w.heap.size 32 zeroG) ∧ Hid (Below w.heap.size w wr))
      case atStart => exact ⟨true, b0, l2, _, rfl, rfl, HO, HED, HT0, HG0, HLN, HZ, HB⟩
      case round =>
        clear HO HED HT0 HG0 HLN HZ HB HN hv1 hv2 hn9 l2 n
        obtain ⟨b, b1, l2, lw, rfl, rfl, HO, HED, HT, HG, HL, HZ, HB⟩ := hrel
        obtain ⟨wB, rfl⟩ : ∃ wB, wB = wr := ⟨_, rfl⟩
        obtain ⟨gB, rfl⟩ : ∃ x, x = gk := ⟨_, rfl⟩
        obtain ⟨n, hn⟩ : ∃ n, l2.length = n := ⟨_, rfl⟩
        have h9 : OwnK wB b1 102 3 lw n (edL l2) := by rw [← hn]; exact HO.out
        obtain ⟨va, vc, rfl, hv1, hv2, -⟩ := row_shape h9
        have hn9 : n < 100000 := by rw [← hn]; exact HL.out
        have HN := Lib.hid hn
        have hbsz := HB.out.size
        clear h9 hn HL
        cases b
        · have hrn := rNumbered_any wB k b1 20001 _ l2 HO.out HED.out.det (fun e he => ⟨(HED.out.low e he).1, (HED.out.low e he).2.2⟩) (by omega) (by omega) hk1 hk4 (by rw [HN.out]; omega)
          have hg := HED.out.tight (by omega) (by omega) (HT.out rfl)
          have hlow : ∀ v p u, nxE l2 v p = some u → u < 20001 ∧ p < 2 * k := fun v p u h => by
            obtain ⟨e, he, h1, h2⟩ := nxE_at h
            have h3 := HED.out.low e he
            rw [hit_iff] at h1
            refine ⟨?_, by omega⟩
            rw [← h2]
            unfold endE
            split
            · exact h3.2.2
            · exact h3.1
          have HRN := Lib.hid hrn
          have HGR : Hid (IsGraphN k S (numN (nxE l2) (List.range (2 * k)) 20001 0 [0] [])) := Lib.hid ⟨_, 0, hg, ⟨by omega, hlow⟩, rfl⟩
          clear hrn hg hlow
          go_wp2_with (first
            | (go_at_call 112; refine HRN.out.mono ?_; rintro e w6 ⟨rv, rfl, hrows, hb6⟩; have HX6 := Lib.hid (HZ.out.keep hb6); have HRV := Lib.hid (rows_one hrows k); have HROWS := Lib.hid hrows; have HB6 := Lib.hid (HB.out.trans (hb6.mono hbsz)); clear hrows hb6)
            | (with_reducible show wpList _ _ _ (Oper.mk _ (Op.store 32 _ _) _ _ _ _ :: _) _ _; (refine wpList_storeB (vs := [.int .i64 k, rv]) HX6.out Try.size32 rfl rfl HRV.out rfl _ _ rfl rfl rfl ?_)))
          have hr1 := HX6.out.set 0 (.int .i64 k)
          have hrow := ((HROWS.out.mono hbsz).other HX6.out (by decide) (by decide) 0 (.int .i64 k)).other hr1 (by decide) (by decide) 1 rv
          exact bodyPost_ret (ret67 (M := [.int .i64 k, rv]) rfl rfl (hr1.set 1 rv)) rfl ⟨rv, _, rfl, HGR.out, hrow, below_setCells (Nat.le_refl _) [.int .i64 k, rv] 0 HB6.out⟩
        · have HM : Hid (MapI (wB.alloc (.map #[] 0)) wB.heap.size 0 (manyD (l2.take 0))) := Lib.hid (by rw [List.take_zero, manyD_nil]; exact MapI.new wB)
          have HBW : Hid (Below wB.heap.size wB (wB.alloc (.map #[] 0))) := Lib.hid ((Below.refl _ _).alloc (Nat.le_refl _) _)
          have hG := HG.out
          rw [if_pos rfl] at hG
          have HG2 := Lib.hid hG
          have hmm := @run_makeMap Try.prog
          clear HT HG hG
          go_wp2_with fail
          clear hmm
          change Code.wp _ _ _ _ (wB.alloc (.map #[] 0))
          obtain ⟨mb, hmb⟩ : ∃ mb, wB.heap.size = mb := ⟨_, rfl⟩
          have HMB := Lib.hid hmb
          rw [hmb] at HM ⊢
          clear hmb
          go_loopw [13] (fun iv wr => ∃ i nm : Nat, i ≤ n ∧ iv = .int .i64 i ∧ Hid (MapI wr mb nm (manyD (l2.take i))) ∧ Hid (nm ≤ 2 * i) ∧ Hid (Below wB.heap.size wB wr)) (fun iv _ => n - (intOf iv).toNat)
          case atStart => exact ⟨0, 0, by omega, rfl, HM, Lib.hid (by omega), HBW⟩
          case round =>
            clear HM HBW
            obtain ⟨i, nm, hi, rfl, HM, HNM, HBW⟩ := hrel
            by_cases hlt : i < n
            · obtain ⟨e, he⟩ : ∃ e, l2[i]? = some e := ⟨_, List.getElem?_eq_getElem (by rw [HN.out]; exact hlt)⟩
              obtain ⟨g, c2, e2, -, -, -, -, -, -⟩ := OwnK.open HO.out (by rw [HN.out]; omega)
              obtain ⟨rfl, -, rfl⟩ : va = some ⟨g, 0, none⟩ ∧ n = l2.length ∧ vc = c2 := by simpa using e2
              obtain ⟨hlow1, -, hlow3⟩ := HED.out.low e (List.mem_of_getElem? he)
              have hsn := manyD_snoc (l2.take i) e
              have htk : l2.take (i + 1) = l2.take i ++ [e] := by rw [List.take_add_one, he]; rfl
              rw [← htk] at hsn
              have hnm := HNM.out
              have hmle := many_le (l2.take i)
              have htl : (l2.take i).length ≤ i := by rw [List.length_take]; omega
              obtain ⟨c0, -, -⟩ := HO.out.cells HN.out HBW.out he
              obtain ⟨e1, m, e3⟩ := e
              simp only at c0 hlow1 hlow3 hsn
              obtain ⟨x, hx⟩ : ∃ x, manyE (l2.take i) e1 = x := ⟨_, rfl⟩
              have hx9 : x ≤ 200000 := by have := hmle e1; omega
              have hl1 := HM.out.look (k := e1) (by omega)
              rw [manyD_get, hx] at hl1
              have hw1 : IntKind.i64.wrap ((x : Int) + 1) = (x : Int) + 1 := by rw [IntKind.wrap_i64]; omega
              obtain ⟨w1, hu1, hm1, hg1⟩ := HM.out.update (by omega) (k := e1) (by omega) (v := (x : Int) + 1) (WalkArith.wf_i64 (by omega))
              have hf1 : (fun j => if j = e1 then some ((x : Int) + 1) else manyD (l2.take i) j) = oneMore (manyD (l2.take i)) e1 := by
                unfold oneMore
                rw [manyD_get, hx]
              rw [hf1] at hm1
              obtain ⟨y, hy, hy9⟩ : ∃ y : Nat, (oneMore (manyD (l2.take i)) e1 e3).getD 0 = (y : Int) ∧ y ≤ 200001 := by
                unfold oneMore
                split
                · exact ⟨x + 1, by rw [manyD_get, hx]; rfl, by omega⟩
                · exact ⟨_, manyD_get _ _, by have := hmle e3; omega⟩
              have hl2 := hm1.look (k := e3) (by omega)
              rw [hy] at hl2
              have hw2 : IntKind.i64.wrap ((y : Int) + 1) = (y : Int) + 1 := by rw [IntKind.wrap_i64]; omega
              obtain ⟨w2, hu2, hm2, hg2⟩ := hm1.update (by omega) (k := e3) (by omega) (v := (y : Int) + 1) (WalkArith.wf_i64 (by omega))
              have hf2 : (fun j => if j = e3 then some ((y : Int) + 1) else oneMore (manyD (l2.take i)) e1 j) = oneMore (oneMore (manyD (l2.take i)) e1) e3 := by
                conv => rhs; unfold oneMore
                have : (if e3 = e1 then some ((manyD (l2.take i) e1).getD 0 + 1) else manyD (l2.take i) e3).getD 0 = (y : Int) := hy
                rw [this]
                rfl
              rw [hf2, hsn] at hm2
              have hbw1 : Below wB.heap.size wB w1 := HBW.out.grown hg1 HBW.out.size (fun k h => by cases h; exact Nat.le_of_eq HMB.out)
              have hbw2 : Below wB.heap.size wB w2 := hbw1.grown hg2 hbw1.size (fun k h => by cases h; exact Nat.le_of_eq HMB.out)
              obtain ⟨-, -, d2⟩ := HO.out.cells HN.out hbw1 he
              have i0 : (0 : Int) ≤ i := by omega
              have i1 : (i : Int) < n := by omega
              have G1 := Lib.hid hm2
              have G2 := Lib.hid hbw2
              clear hm1 hg1 hm2 hg2 hbw1 hbw2 hf1 hf2 hsn htk hmle htl hx hy he e2
              go_wp2_with fail
              go_roundw
              case rel => exact ⟨i + 1, nm + 1 + 1, by omega, by go_num, G1, Lib.hid (by omega), G2⟩
              case measure => simp [intOf]; omega
            · obtain rfl : i = n := by omega
              have hM := HM.out
              rw [List.take_of_length_le (by rw [HN.out]; exact Nat.le_refl _)] at hM
              have HM2 := Lib.hid hM
              have HA : Hid (∀ t e, t < 0 → l2[t]? = some e → looseE l2 e = false) := Lib.hid (fun t e h => by omega)
              clear hM HM HNM hlt
              go_wp2_with fail
              go_loopw [14, 11, 1] (fun iv av lv wr => ∃ j : Nat, j ≤ i ∧ iv = .int .i64 j ∧ av = .bool false ∧ lv = .slice va i vc ∧ Hid (∀ t e, t < j → l2[t]? = some e → looseE l2 e = false) ∧ Hid (MapI wr mb nm (manyD l2)) ∧ Hid (Below wB.heap.size wB wr)) (fun iv _ _ _ => i - (intOf iv).toNat)
              case atStart => exact ⟨0, by omega, rfl, rfl, rfl, HA, HM2, HBW⟩
              case round =>
                clear HA HM2 HBW
                obtain ⟨j, hj, rfl, rfl, rfl, HA, HM, HBW⟩ := hrel
                by_cases hlt : j < i
                · obtain ⟨e, he⟩ : ∃ e, l2[j]? = some e := ⟨_, List.getElem?_eq_getElem (by rw [HN.out]; exact hlt)⟩
                  obtain ⟨g, c2, e2, -, -, -, -, -, -⟩ := OwnK.open HO.out (by rw [HN.out]; omega)
                  obtain ⟨rfl, -, rfl⟩ : va = some ⟨g, 0, none⟩ ∧ i = l2.length ∧ vc = c2 := by simpa using e2
                  obtain ⟨hlow1, -, hlow3⟩ := HED.out.low e (List.mem_of_getElem? he)
                  obtain ⟨c0, -, d0⟩ := HO.out.cells HN.out HBW.out he
                  obtain ⟨L, hL⟩ : ∃ L, looseE l2 e = L := ⟨_, rfl⟩
                  have HLL := Lib.hid hL
                  have HE := Lib.hid he
                  obtain ⟨e1, m, e3⟩ := e
                  unfold looseE at hL
                  simp only at c0 d0 hlow1 hlow3 hL
                  obtain ⟨x, hx⟩ : ∃ x, manyE l2 e1 = x := ⟨_, rfl⟩
                  obtain ⟨y, hy⟩ : ∃ y, manyE l2 e3 = y := ⟨_, rfl⟩
                  have hl1 := HM.out.look (k := e1) (by omega)
                  have hl3 := HM.out.look (k := e3) (by omega)
                  rw [manyD_get, hx] at hl1
                  rw [manyD_get, hy] at hl3
                  rw [hx, hy] at hL
                  have j0 : (0 : Int) ≤ j := by omega
                  have j1 : (j : Int) < i := by omega
                  clear hx hy he e2
                  go_upto_region 35 with fail
                  go_cut [151] from 112 to 162 (fun s wc => s = .bool L ∧ wr = wc)
                  case first =>
                    by_cases z1 : e1 = 0
                    · subst z1
                      by_cases z3 : e3 = 0
                      · subst z3
                        obtain rfl : L = false := by rw [← hL]; simp
                        clear hL
                        go_wp2_with fail
                        go_meet
                        exact ⟨rfl, rfl⟩
                      · have z3I : ¬ ((e3 : Int) = 0) := by omega
                        by_cases m3 : y < 2
                        · have m3I : (y : Int) < 2 := by omega
                          obtain rfl : L = true := by rw [← hL]; simp [z3, m3]
                          clear hL
                          go_wp2_with fail
                          go_meet
                          exact ⟨congrArg Value.bool (bne_iff_ne.2 z3I), rfl⟩
                        · have m3I : ¬ (y : Int) < 2 := by omega
                          obtain rfl : L = false := by rw [← hL]; simp [m3]
                          clear hL
                          go_wp2_with fail
                          go_meet
                          exact ⟨rfl, rfl⟩
                    · have z1I : ¬ ((e1 : Int) = 0) := by omega
                      by_cases m1 : x < 2
                      · have m1I : (x : Int) < 2 := by omega
                        obtain rfl : L = true := by rw [← hL]; simp [z1, m1]
                        clear hL
                        go_wp2_with fail
                        go_meet
                        exact ⟨rfl, rfl⟩
                      · have m1I : ¬ (x : Int) < 2 := by omega
                        by_cases z3 : e3 = 0
                        · subst z3
                          obtain rfl : L = false := by rw [← hL]; simp [m1]
                          clear hL
                          go_wp2_with fail
                          go_meet
                          exact ⟨rfl, rfl⟩
                        · have z3I : ¬ ((e3 : Int) = 0) := by omega
                          by_cases m3 : y < 2
                          · have m3I : (y : Int) < 2 := by omega
                            obtain rfl : L = true := by rw [← hL]; simp [z3, m3]
                            clear hL
                            go_wp2_with fail
                            go_meet
                            exact ⟨congrArg Value.bool (bne_iff_ne.2 z3I), rfl⟩
                          · have m3I : ¬ (y : Int) < 2 := by omega
                            obtain rfl : L = false := by rw [← hL]; simp [m1, m3]
                            clear hL
                            go_wp2_with fail
                            go_meet
                            exact ⟨rfl, rfl⟩
                  case rest =>
                    obtain ⟨rfl, rfl⟩ := hcut
                    clear hL c0 d0 hl1 hl3
                    cases L
                    · have G1 : Hid (∀ t e, t < j + 1 → l2[t]? = some e → looseE l2 e = false) := Lib.hid (fun t e ht hu => by
                        by_cases q : t = j
                        · subst q
                          rw [HE.out] at hu
                          rw [← Option.some.inj hu]; exact HLL.out
                        · exact HA.out t e (by omega) hu)
                      go_wp2_with fail
                      go_roundw
                      case rel => exact ⟨j + 1, by omega, by go_num, rfl, rfl, G1, HM, HBW⟩
                      case measure => simp [intOf]; omega
                    · have hoc : OwnE wr b1 (.slice (some ⟨g, 0, none⟩) i vc) l2 := World.ownsRow.keep HO.out HBW.out
                      have HR1 := Lib.hid (hoc.take HN.out hv2 hv1 (Nat.le_of_lt hlt))
                      have HT1 : Hid ((l2.take j).length < 1000000) := Lib.hid (by rw [List.length_take]; omega)
                      have hlen : (l2.take j ++ l2.drop (j + 1)).length + 1 = i := by rw [off_eq, (off_sum HE.out).2]; exact HN.out
                      have HLEN := Lib.hid hlen
                      have HSM := Lib.hid (HED.out.loose (by omega) HE.out HLL.out)
                      have HT9 : Hid (true = false → ∀ t e, t < (l2.take j ++ l2.drop (j + 1)).length → (l2.take j ++ l2.drop (j + 1))[t]? = some e → looseE (l2.take j ++ l2.drop (j + 1)) e = false) := Lib.hid (by simp)
                      have HL9 : Hid ((l2.take j ++ l2.drop (j + 1)).length < 100000) := Lib.hid (by omega)
                      have hgg : 2 * (i - 1) + 1 < gB := by have := HG2.out; have := HN.out; omega
                      have HG9 : Hid (2 * (l2.take j ++ l2.drop (j + 1)).length + (if true = true then 1 else 0) ≤ 2 * (i - 1) + 1) := Lib.hid (by rw [if_pos rfl]; omega)
                      have HGGX := Lib.hid hgg
                      clear hoc hlen hgg
                      go_upto_region 38 with (at_builtin; refine wpList_appE (OwnE.nil wr wr.heap.size) (Nat.le_refl _) (by decide) rfl (.tmp 152) (.tmp 155) rfl (by simp [Act.eval]) (by simp [Act.eval]) HR1.out HT1.out ?_; intro v6 w6 hown6 hgr6 hb6)
                      have h6 : OwnE w6 wr.heap.size v6 (l2.take j) := by rw [List.nil_append] at hown6; exact hown6
                      have hbc6 : Below wB.heap.size wB w6 := HBW.out.trans (hb6.mono HBW.out.size)
                      have hoc : OwnE w6 b1 (.slice (some ⟨g, 0, none⟩) i vc) l2 := World.ownsRow.keep HO.out hbc6
                      have H6 := Lib.hid h6
                      have HB6 := Lib.hid hbc6
                      have HS6 := Lib.hid hb6.size
                      have hdl : (l2.drop (j + 1)).length < 1000000 := by rw [List.length_drop, HN.out]; omega
                      have HDL := Lib.hid hdl
                      clear h6 hbc6 hown6 hgr6 hb6 hdl
                      by_cases hcap : j + 1 = vc
                      · have hni : i = j + 1 := by omega
                        have hd0 : l2.drop (j + 1) = [] := List.drop_of_length_le (by rw [HN.out]; omega)
                        have HD0 := Lib.hid hd0
                        clear hoc hd0
                        subst hcap
                        subst hni
                        go_wp2_with (at_builtin; refine wpList_appE H6.out HS6.out HT1.out rfl (.tmp 157) (.tmp 161) rfl (by simp [Act.eval]) (by simp [Act.eval]) (EdR.none_left (g := g)) (by decide) ?_; intro v7 w7 hown7 hgr7 hb7)
                        have h7 : OwnE w7 wr.heap.size v7 (l2.take j ++ l2.drop (j + 1)) := by rw [HD0.out]; exact hown7
                        have hb7w : Below wB.heap.size wB w7 := HB6.out.trans (hb7.mono HBW.out.size)
                        have H7 := Lib.hid h7
                        have HZ7 := Lib.hid (HZ.out.keep hb7w)
                        have HB7 := Lib.hid (HB.out.trans (hb7w.mono hbsz))
                        clear h7 hb7w hown7 hgr7 hb7
                        go_roundg (2 * (j + 1 - 1) + 1)
                        case rel => exact ⟨true, _, _, _, rfl, rfl, H7, HSM, HT9, HG9, HL9, HZ7, HB7⟩
                        case measure => exact HGGX.out
                      · have hcapI : ¬ ((j : Int) + 1 = vc) := by omega
                        have HR2 := Lib.hid (hoc.drop HN.out hv2 hv1 (i := j + 1) hlt)
                        clear hoc
                        go_wp2_with (at_builtin; refine wpList_appE H6.out HS6.out HT1.out rfl (.tmp 157) (.tmp 161) rfl (by simp [Act.eval]) (by simp [Act.eval]) HR2.out HDL.out ?_; intro v7 w7 hown7 hgr7 hb7)
                        have h7 : OwnE w7 wr.heap.size v7 (l2.take j ++ l2.drop (j + 1)) := hown7
                        have hb7w : Below wB.heap.size wB w7 := HB6.out.trans (hb7.mono HBW.out.size)
                        have H7 := Lib.hid h7
                        have HZ7 := Lib.hid (HZ.out.keep hb7w)
                        have HB7 := Lib.hid (HB.out.trans (hb7w.mono hbsz))
                        clear h7 hb7w hown7 hgr7 hb7
                        go_roundg (2 * (i - 1) + 1)
                        case rel => exact ⟨true, _, _, _, rfl, rfl, H7, HSM, HT9, HG9, HL9, HZ7, HB7⟩
                        case measure => exact HGGX.out
                · obtain rfl : j = i := by omega
                  have HOW : Hid (OwnE wr b1 (.slice va j vc) l2) := Lib.hid (World.ownsRow.keep HO.out HBW.out)
                  have HZW := Lib.hid (HZ.out.keep HBW.out)
                  have HBB := Lib.hid (HB.out.trans (HBW.out.mono hbsz))
                  have HLW : Hid (l2.length < 100000) := Lib.hid (by rw [HN.out]; exact hn9)
                  have hgg : 2 * l2.length < gB := by have := HG2.out; omega
                  have HT9 : Hid (∀ t e, t < l2.length → l2[t]? = some e → looseE l2 e = false) := Lib.hid (fun t e ht hu => HA.out t e (by rw [← HN.out]; exact ht) hu)
                  go_wp2_with fail
                  go_roundg (2 * l2.length)
                  case rel => exact ⟨false, b1, l2, _, rfl, rfl, HOW, HED, Lib.hid (fun _ => HT9.out), Lib.hid (by simp), HLW, HZW, HBB⟩
                  case measure => exact hgg
    · have hG := HG.out
      rw [if_pos rfl] at hG
      have HG2 := Lib.hid hG
      have HD0 : Hid (Det (l2.take 0)) := Lib.hid List.Pairwise.nil
      have HBW := Lib.hid (Below.refl wA.heap.size wA)
      have hbsz := HB.out.size
      clear hG HG HD
      go_wp2_with fail
      go_loopg [6, 5, 1] (n + 1) (fun gi iv av lv wi => (∃ i : Nat, iv = .int .i64 i ∧ av = .bool false ∧ lv = .slice va n vc ∧ i ≤ n ∧ Hid (Below wA.heap.size wA wi) ∧ Hid (Det (l2.take i)) ∧ Hid (n + 1 - i ≤ gi)) ∨ (∃ (i b1 : Nat) (l3 : List Ed) (lw : Value), iv = .int .i64 i ∧ av = .bool true ∧ lw = lv ∧ i ≤ n ∧ Hid (OwnE wi b1 lw l3) ∧ Hid (Smaller k 20001 S φ l2 l3) ∧ Hid (Blk wi w.heap.size 32 zeroG) ∧ Hid (Below w.heap.size w wi)))
      case atStart => exact .inl ⟨0, rfl, rfl, rfl, by omega, HBW, HD0, Lib.hid (by omega)⟩
      case round =>
        clear HBW HD0
        rcases hrel with ⟨i, rfl, rfl, rfl, hi, HBW, HDI, HGI⟩ | ⟨i, b1, l3, lw, rfl, rfl, rfl, hi, HO3, HS3, HZ3, HB3⟩
        · by_cases hlt : i < n
          · obtain ⟨e, he⟩ : ∃ e, l2[i]? = some e := ⟨_, List.getElem?_eq_getElem (by rw [HN.out]; exact hlt)⟩
            obtain ⟨g, c2, e2, -, -, -, -, -, -⟩ := OwnK.open HO.out (by rw [HN.out]; omega)
            obtain ⟨rfl, -, rfl⟩ : va = some ⟨g, 0, none⟩ ∧ n = l2.length ∧ vc = c2 := by simpa using e2
            have HE := Lib.hid he
            have HA0 := Lib.hid (Apart.zero l2 e)
            clear he e2
            go_wp2_with fail
            go_loopg [7, 5, 1] (n + 1) (fun gj jv av lv wj => (∃ j : Nat, jv = .int .i64 j ∧ av = .bool false ∧ lv = .slice (some ⟨g, 0, none⟩) n vc ∧ j ≤ i ∧ Hid (Below wA.heap.size wA wj) ∧ Hid (Apart l2 e j) ∧ Hid (n + 1 - j ≤ gj)) ∨ (∃ (j b1 : Nat) (l3 : List Ed) (lw : Value), jv = .int .i64 j ∧ av = .bool true ∧ lw = lv ∧ j ≤ i ∧ Hid (OwnE wj b1 lw l3) ∧ Hid (Smaller k 20001 S φ l2 l3) ∧ Hid (Blk wj w.heap.size 32 zeroG) ∧ Hid (Below w.heap.size w wj)))
            case atStart => exact .inl ⟨0, rfl, rfl, rfl, by omega, HBW, HA0, Lib.hid (by omega)⟩
            case round =>
              clear HBW HA0
              rcases hrel with ⟨j, rfl, rfl, rfl, hj, HBW, HAP, HGJ⟩ | ⟨j, b1, l3, lw, rfl, rfl, rfl, hj, HO3, HS3, HZ3, HB3⟩
              · by_cases hlj : j < i
                · obtain ⟨f, hf⟩ : ∃ f, l2[j]? = some f := ⟨_, List.getElem?_eq_getElem (by rw [HN.out]; omega)⟩
                  obtain ⟨c0, c1, c2⟩ := HO.out.cells HN.out HBW.out HE.out
                  obtain ⟨d0, d1, d2⟩ := HO.out.cells HN.out HBW.out hf
                  obtain ⟨e1, m, e3⟩ := e
                  obtain ⟨f1, p, f3⟩ := f
                  simp only at c0 c1 c2 d0 d1 d2
                  have HF := Lib.hid hf
                  have i0 : (0 : Int) ≤ i := by omega
                  have i1 : (i : Int) < n := by omega
                  have j0 : (0 : Int) ≤ j := by omega
                  have j1 : (j : Int) < n := by omega
                  clear hf
                  go_upto_region 10 with fail
                  go_cut [8, 9] from 27 to 87 (fun x y wc => ∃ b8 b9 : Nat, x = .pointer (some ⟨b8, 0, none⟩) ∧ y = .pointer (some ⟨b9, 0, none⟩) ∧ Hid (Blk wc b8 102 (I64s [(e1 : Int), (m : Int), (e3 : Int)])) ∧ Hid (Blk wc b9 102 (I64s [(f1 : Int), (p : Int), (f3 : Int)])) ∧ Hid (Below wA.heap.size wA wc))
                  case first =>
                    go_region_held3 (fun w' => w'.cell? ⟨g, i * 3, none⟩ = some (.int .i64 e1) ∧ w'.cell? ⟨g, i * 3 + 1, none⟩ = some (.int .i64 m) ∧ w'.cell? ⟨g, i * 3 + 2, none⟩ = some (.int .i64 e3) ∧ w'.cell? ⟨g, j * 3, none⟩ = some (.int .i64 f1) ∧ w'.cell? ⟨g, j * 3 + 1, none⟩ = some (.int .i64 p) ∧ w'.cell? ⟨g, j * 3 + 2, none⟩ = some (.int .i64 f3)) (go_keep) (fail)
                    all_goals
                      go_wp2_with fail
                      go_meet
                      case rel =>
                        have t1 := two_new wr (I64s [(e1 : Int), (m : Int), (e3 : Int)]) (I64s [(f1 : Int), (p : Int), (f3 : Int)])
                        have t2 := two_new wr (I64s [(f1 : Int), (p : Int), (f3 : Int)]) (I64s [(e1 : Int), (m : Int), (e3 : Int)])
                        have hs := HBW.out.size
                        first
                          | exact ⟨wr.heap.size, wr.heap.size + 1, rfl, rfl, Lib.hid t1.1, Lib.hid t1.2.1, Lib.hid (HBW.out.trans (t1.2.2.mono hs))⟩
                          | exact ⟨wr.heap.size + 1, wr.heap.size, rfl, rfl, Lib.hid t2.2.1, Lib.hid t2.1, Lib.hid (HBW.out.trans (t2.2.2.mono hs))⟩
                  case rest =>
                    obtain ⟨b8, b9, rfl, rfl, HB8, HB9, HBC⟩ := hcut
                    clear c0 c1 c2 d0 d1 d2 HBW
                    have c0 := HB8.out.cell (j := 0) rfl
                    have c1 := HB8.out.cell (j := 1) rfl
                    have c2 := HB8.out.cell (j := 2) rfl
                    have d0 := HB9.out.cell (j := 0) rfl
                    have d1 := HB9.out.cell (j := 1) rfl
                    have d2 := HB9.out.cell (j := 2) rfl
                    by_cases hmp : m = p
                    · subst hmp
                      have HGJ2 := HGJ.out
                      by_cases h1 : e1 = f1
                      · subst h1
                        by_cases h3 : e3 = f3
                        · subst h3
                          have hoc : OwnE wc b0 (.slice (some ⟨g, 0, none⟩) n vc) l2 := World.ownsRow.keep HO.out HBC.out
                          have HR1 := Lib.hid (hoc.take HN.out hv2 hv1 (Nat.le_of_lt hlt))
                          have HT1 : Hid ((l2.take i).length < 1000000) := Lib.hid (by rw [List.length_take]; omega)
                          have HSM := Lib.hid (HI.out.off_ hlj HE.out HF.out rfl)
                          clear hoc
                          go_upto_region 15 with (at_builtin; refine wpList_appE (OwnE.nil wc wc.heap.size) (Nat.le_refl _) (by simp) rfl (.tmp 53) (.tmp 56) rfl (by simp [Act.eval]) (by simp [Act.eval]) HR1.out HT1.out ?_; intro v6 w6 hown6 hgr6 hb6)
                          have h6 : OwnE w6 wc.heap.size v6 (l2.take i) := by rw [List.nil_append] at hown6; exact hown6
                          have hbc6 : Below wA.heap.size wA w6 := HBC.out.trans (hb6.mono HBC.out.size)
                          have hoc : OwnE w6 b0 (.slice (some ⟨g, 0, none⟩) n vc) l2 := World.ownsRow.keep HO.out hbc6
                          have H6 := Lib.hid h6
                          have HB6 := Lib.hid hbc6
                          have HS6 := Lib.hid hb6.size
                          have hdl : (l2.drop (i + 1)).length < 1000000 := by rw [List.length_drop, HN.out]; omega
                          have HDL := Lib.hid hdl
                          clear h6 hbc6 hown6 hgr6 hb6 c0 c1 c2 d0 d1 d2 hdl
                          by_cases hcap : i + 1 = vc
                          · have hni : n = i + 1 := by omega
                            have hd0 : l2.drop (i + 1) = [] := List.drop_of_length_le (by rw [HN.out]; omega)
                            have HD0 := Lib.hid hd0
                            clear hoc hd0
                            subst hcap
                            subst hni
                            go_wp2_with (at_builtin; refine wpList_appE H6.out HS6.out HT1.out rfl (.tmp 58) (.tmp 62) rfl (by simp [Act.eval]) (by simp [Act.eval]) (EdR.none_left (g := g)) (by decide) ?_; intro v7 w7 hown7 hgr7 hb7)
                            have h7 : OwnE w7 wc.heap.size v7 (l2.take i ++ l2.drop (i + 1)) := by rw [HD0.out]; exact hown7
                            have hb7w : Below wA.heap.size wA w7 := HB6.out.trans (hb7.mono (Nat.le_trans HBC.out.size (Nat.le_refl _)))
                            have H7 := Lib.hid h7
                            have HZ7 := Lib.hid (HZ.out.keep hb7w)
                            have HB7 := Lib.hid (HB.out.trans (hb7w.mono hbsz))
                            clear h7 hb7w hown7 hgr7 hb7
                            go_roundg 0
                            case rel => exact .inr ⟨j + 1, _, _, _, by go_num, rfl, rfl, by omega, H7, HSM, HZ7, HB7⟩
                            case measure => omega
                          · have hcapI : ¬ ((i : Int) + 1 = vc) := by omega
                            have HR2 := Lib.hid (hoc.drop HN.out hv2 hv1 (i := i + 1) hlt)
                            clear hoc
                            go_wp2_with (at_builtin; refine wpList_appE H6.out HS6.out HT1.out rfl (.tmp 58) (.tmp 62) rfl (by simp [Act.eval]) (by simp [Act.eval]) HR2.out HDL.out ?_; intro v7 w7 hown7 hgr7 hb7)
                            have h7 : OwnE w7 wc.heap.size v7 (l2.take i ++ l2.drop (i + 1)) := hown7
                            have hb7w : Below wA.heap.size wA w7 := HB6.out.trans (hb7.mono (Nat.le_trans HBC.out.size (Nat.le_refl _)))
                            have H7 := Lib.hid h7
                            have HZ7 := Lib.hid (HZ.out.keep hb7w)
                            have HB7 := Lib.hid (HB.out.trans (hb7w.mono hbsz))
                            clear h7 hb7w hown7 hgr7 hb7
                            go_roundg 0
                            case rel => exact .inr ⟨j + 1, _, _, _, by go_num, rfl, rfl, by omega, H7, HSM, HZ7, HB7⟩
                            case measure => omega
                        · have h3I : ¬ ((e3 : Int) = f3) := by omega
                          have HJ := Lib.hid (joined_any wc b0 (.slice (some ⟨g, 0, none⟩) n vc) l2 e3 f3 (World.ownsRow.keep HO.out HBC.out) (by rw [HN.out]; exact hn9))
                          have HSM := Lib.hid (HI.out.tos HE.out HF.out rfl rfl h3)
                          go_wp2_with (go_at_call 111; refine HJ.out.mono ?_; rintro e w7 ⟨v7, rfl, hown7, hb7⟩; have H7 := Lib.hid hown7; have HB7W := Lib.hid hb7; clear hown7 hb7)
                          have hb7w : Below wA.heap.size wA w7 := HBC.out.trans (HB7W.out.mono HBC.out.size)
                          have HZ7 := Lib.hid (HZ.out.keep hb7w)
                          have HB7 := Lib.hid (HB.out.trans (hb7w.mono hbsz))
                          clear hb7w
                          go_roundg 0
                          case rel => exact .inr ⟨j + 1, _, _, _, by go_num, rfl, rfl, by omega, H7, HSM, HZ7, HB7⟩
                          case measure => omega
                      · have h1I : ¬ ((e1 : Int) = f1) := by omega
                        by_cases h3 : e3 = f3
                        · subst h3
                          have HJ := Lib.hid (joined_any wc b0 (.slice (some ⟨g, 0, none⟩) n vc) l2 e1 f1 (World.ownsRow.keep HO.out HBC.out) (by rw [HN.out]; exact hn9))
                          have HSM := Lib.hid (HI.out.froms HE.out HF.out rfl rfl h1)
                          go_wp2_with (go_at_call 111; refine HJ.out.mono ?_; rintro e w7 ⟨v7, rfl, hown7, hb7⟩; have H7 := Lib.hid hown7; have HB7W := Lib.hid hb7; clear hown7 hb7)
                          have hb7w : Below wA.heap.size wA w7 := HBC.out.trans (HB7W.out.mono HBC.out.size)
                          have HZ7 := Lib.hid (HZ.out.keep hb7w)
                          have HB7 := Lib.hid (HB.out.trans (hb7w.mono hbsz))
                          clear hb7w
                          go_roundg 0
                          case rel => exact .inr ⟨j + 1, _, _, _, by go_num, rfl, rfl, by omega, H7, HSM, HZ7, HB7⟩
                          case measure => omega
                        · have h3I : ¬ ((e3 : Int) = f3) := by omega
                          have G1 := Lib.hid (HAP.out.step HF.out (fun _ => ⟨h1, h3⟩))
                          go_wp2_with fail
                          go_roundg (n - j)
                          case rel => exact .inl ⟨j + 1, by go_num, rfl, rfl, by omega, HBC, G1, Lib.hid (by omega)⟩
                          case measure => omega
                    · have hI : ¬ ((m : Int) = p) := by omega
                      have G1 := Lib.hid (HAP.out.step HF.out (fun h => absurd h hmp))
                      have HGJ2 := HGJ.out
                      go_wp2_with fail
                      go_roundg (n - j)
                      case rel => exact .inl ⟨j + 1, by go_num, rfl, rfl, by omega, HBC, G1, Lib.hid (by omega)⟩
                      case measure => omega
                · obtain rfl : j = i := by omega
                  have G1 := Lib.hid (HDI.out.step HE.out HAP.out)
                  have HGI2 := HGI.out
                  go_wp2_with fail
                  go_roundg (n - j)
                  case rel => exact .inl ⟨j + 1, by go_num, rfl, rfl, by omega, HBW, G1, Lib.hid (by omega)⟩
                  case measure => omega
              · have HGI2 := HGI.out
                by_cases hlj : j < i
                all_goals
                  go_wp2_with fail
                  go_roundg 0
                  case rel => exact .inr ⟨i + 1, _, _, _, by go_num, rfl, rfl, by omega, HO3, HS3, HZ3, HB3⟩
                  case measure => omega
          · obtain rfl : i = n := by omega
            have hdet := HDI.out
            rw [List.take_of_length_le (by rw [HN.out]; exact Nat.le_refl _)] at hdet
            have HDET := Lib.hid hdet
            have HOW : Hid (OwnE wr b0 (.slice va i vc) l2) := Lib.hid (World.ownsRow.keep HO.out HBW.out)
            have HZW := Lib.hid (HZ.out.keep HBW.out)
            have HBB := Lib.hid (HB.out.trans (HBW.out.mono hbsz))
            have HLW : Hid (l2.length < 100000) := Lib.hid (by rw [HN.out]; exact hn9)
            have HGG := HG2.out
            clear hdet
            go_wp2_with fail
            go_roundg (2 * (sumE l2 + l2.length))
            case rel => exact ⟨false, b0, l2, _, rfl, rfl, HOW, HI, Lib.hid (fun _ => HDET.out), Lib.hid (by simp), HLW, HZW, HBB⟩
            case measure => omega
        · obtain ⟨n3, hn3⟩ : ∃ n3, l3.length = n3 := ⟨_, rfl⟩
          have h9 : OwnK wr b1 102 3 lw n3 (edL l3) := by rw [← hn3]; exact HO3.out
          obtain ⟨a3, c3, rfl, hw1, hw2, -⟩ := row_shape h9
          have HLW : Hid (l3.length < 100000) := Lib.hid (by have := HS3.out.len; have := HN.out; omega)
          have HGG : 2 * (sumE l3 + l3.length) + 1 < gA := by have := HS3.out.less; have := HG2.out; omega
          have HI3 := Lib.hid HS3.out.inv
          clear h9
          by_cases hli : i < n3
          all_goals
            go_wp2_with fail
            go_roundg (2 * (sumE l3 + l3.length) + 1)
            case rel => exact ⟨true, b1, l3, _, rfl, rfl, HO3, HI3, Lib.hid (by simp), Lib.hid (by simp), HLW, HZ3, HB3⟩
            case measure => omega
end Go.Proofs.Ytlooclpfoeakgaa

/- The reference's graph of many words. -/
namespace Go.Proofs.Ytlooclpfoeakgaa
open Go.RowKit

set_option maxRecDepth 100000 in
set_option maxHeartbeats 4000000 in
theorem rFoldN_of (HFD : FoldedSpecN) (k : Nat) (v : Value) (ss : List ByteArray) (w : World) (hv : Strs w v ss) (hk1 : 1 ≤ k) (hk4 : k ≤ 4) (hl : ss.length ≤ 200) (hw : ∀ s ∈ ss, isWord (bts s) = true ∧ s.size ≤ 100 ∧ fitW k (bts s) = true) :
    Calls Try.prog 17 #[.int .i64 k, v] w fun e w' => ∃ (rv : Value) (g : List (List Int)), e = .returned (.agg #[.int .i64 k, rv]) ∧ IsGraphN k (setR ss) g ∧ RowsAt w' w.heap.size rv g (fun _ => True) ∧ Below w.heap.size w w' := by
  obtain ⟨a0, m, cap, rfl, HN, hn1, hn2⟩ := hv.open
  have hm12 : m ≤ 200 := by rw [HN.out] at hl; exact hl
  have hzb := Blk.new w 32 zeroG
  have hb0 : Below w.heap.size w (w.alloc (.cells zeroG.toArray 32)) := (Below.refl _ _).alloc (Nat.le_refl _) _
  have HV := Lib.hid hv
  have HW := Lib.hid hw
  have HZ : Hid (Blk (w.alloc (.cells zeroG.toArray 32)) w.heap.size 32 zeroG) := Lib.hid hzb
  have HB : Hid (Below w.heap.size w (w.alloc (.cells zeroG.toArray 32))) := Lib.hid hb0
  have HP : Hid (EPre k 1 (setR ss) (fun _ => []) []) := Lib.hid ⟨fun e he => (by cases he), rfl, fun e he => (by cases he)⟩
  have HO : Hid (OwnE (w.alloc (.cells zeroG.toArray 32)) (w.heap.size + 1) (.slice none 0 0) []) := Lib.hid (OwnE.nil _ _)
  have HFD2 := Lib.hid HFD
  clear hv hw hzb hb0 hl HFD
  go_enter Try.func17, Try.ntmps17
  go_wp2_with fail
  go_loopw [7, 5, 6] (fun iv ov nv wr => ∃ (i n : Nat) (l : List Ed) (φ : Nat → List UInt8) (lw : Value), i ≤ m ∧ iv = .int .i64 i ∧ lw = ov ∧ nv = .int .i64 n ∧ Hid (OwnE wr (w.heap.size + 1) lw l) ∧ Hid (EPre k n (setR ss) φ l) ∧ Hid (∀ t s, t < i → ss[t]? = some s → Walk k l 0 (redW (bts s)) 0) ∧ Hid (1 ≤ n ∧ n ≤ 1 + 100 * i ∧ l.length ≤ 100 * i) ∧ Hid (Blk wr w.heap.size 32 zeroG) ∧ Hid (Below w.heap.size w wr)) (fun iv _ _ _ => m - (intOf iv).toNat)
  case atStart => exact ⟨0, 1, [], _, _, by omega, rfl, rfl, rfl, HO, HP, Lib.hid (fun t s h => by omega), Lib.hid (by simp), HZ, HB⟩
  case round =>
    clear HO HP HZ HB
    obtain ⟨i, n, l, φ, lw, hi, rfl, rfl, rfl, HO, HP, HD, HC, HZ, HB⟩ := hrel
    have hbsz := HB.out.size
    by_cases hlt : i < m
    · obtain ⟨b, o, s, rfl, hbl, hgs, hc0⟩ := HV.out.at_ hlt
      have hc1 := (HB.out.cell (p := ⟨b, o + i, none⟩) hbl).trans hc0
      obtain ⟨w1, w2, w3⟩ := HW.out s (List.mem_of_getElem? hgs.out)
      have hrd := rReduce_any s wr w1 (by omega)
      have hrl := redW_len (bts s)
      rw [bts_len] at hrl
      have hS : setR ss (redW (bts s)) := ⟨bts s, ⟨s, List.mem_of_getElem? hgs.out, rfl⟩, rfl⟩
      have hlet : ∀ c ∈ redW (bts s), letter c.toNat = true ∧ placeB c < 2 * k := fun c hc => ⟨List.all_eq_true.1 (show (bts s).all _ = true from w1) c (redW_sub hc), of_decide_eq_true (List.all_eq_true.1 w3 c (redW_sub hc))⟩
      obtain ⟨q, hq⟩ : ∃ q, redW (bts s) = q := ⟨_, rfl⟩
      rw [hq] at hrd hrl hS hlet
      obtain ⟨W, hWW⟩ : ∃ W, strB q = W := ⟨_, rfl⟩
      have hWb : bts W = q := by rw [← hWW]
      have hWs : W.size = q.length := by rw [← hWb, bts_len]
      rw [hWW] at hrd
      have HRD := Lib.hid hrd
      have HS := Lib.hid hS
      have HLET := Lib.hid hlet
      have HQ := Lib.hid hq
      have HGS := Lib.hid hgs.out
      have HWB := Lib.hid hWb
      have hW200 : W.size ≤ 100 := by omega
      have HWS := Lib.hid hWs
      clear hc0 w1 w3 hrd hS hlet hq hgs hWb hWW hrl hWs
      go_upto_region 9 with (go_at_call 66; refine HRD.out.mono ?_; rintro e w2 ⟨rfl, hb2⟩)
      have hO2 := World.ownsRow.keep HO.out hb2
      have hZ2 := HZ.out.keep hb2
      have hB2 := HB.out.trans (hb2.mono hbsz)
      have hc := HC.out
      have hph : φ 0 = [] := HP.out.zero
      have HO2 : Hid (OwnE w2 (w.heap.size + 1) lw l) := Lib.hid hO2
      have HZ2 := Lib.hid hZ2
      have HB2 := Lib.hid hB2
      have HW0 : Hid (Walk k l 0 (q.take 0) 0) := Lib.hid (Walk.nil 0)
      have HPH : Hid ((0 < q.length → φ 0 = q.take 0) ∧ (0 = q.length → (0 : Nat) = 0)) := Lib.hid ⟨fun _ => hph, fun _ => rfl⟩
      clear hO2 hZ2 hB2 hph hb2 HO HZ HB HRD
      go_wp2_with fail
      go_loopw [10, 5, 6, 9] (fun jv ov nv av wr => ∃ (j n2 a : Nat) (l2 : List Ed) (φ2 : Nat → List UInt8) (lw : Value), j ≤ W.size ∧ jv = .int .i64 j ∧ lw = ov ∧ nv = .int .i64 n2 ∧ av = .int .i64 a ∧ Hid (OwnE wr (w.heap.size + 1) lw l2) ∧ Hid (EPre k n2 (setR ss) φ2 l2) ∧ Hid (∀ t s, t < i → ss[t]? = some s → Walk k l2 0 (redW (bts s)) 0) ∧ Hid (1 ≤ n2 ∧ a < n2 ∧ n2 ≤ n + j ∧ l2.length ≤ l.length + j) ∧
        Hid (Walk k l2 0 (q.take j) a) ∧ Hid ((j < q.length → φ2 a = q.take j) ∧ (j = q.length → a = 0)) ∧ Hid (Blk wr w.heap.size 32 zeroG) ∧ Hid (Below w.heap.size w wr)) (fun jv _ _ _ _ => W.size - (intOf jv).toNat)
      case atStart => exact ⟨0, n, 0, l, φ, _, by omega, rfl, rfl, rfl, rfl, HO2, HP, HD, Lib.hid (by omega), HW0, Lib.hid ⟨fun h => HPH.out.1 h, fun _ => rfl⟩, HZ2, HB2⟩
      case round =>
        clear HO2 HP HD HW0 HPH HZ2 HB2
        obtain ⟨j, n2, a, l2, φ2, lw, hj, rfl, rfl, rfl, rfl, HO, HP, HD, HC2, HWK, HPH, HZ, HB⟩ := hrel
        have hbsz := HB.out.size
        by_cases hlj : j < W.size
        · have hcj := bts_get hlj
          rw [HWB.out] at hcj
          obtain ⟨hc1, hc2⟩ := HLET.out _ (List.mem_of_getElem? hcj)
          have htk := take_snoc hcj
          obtain ⟨c, hcc⟩ : ∃ c, W[j]'hlj = c := ⟨_, rfl⟩
          rw [hcc] at hcj hc1 hc2 htk
          obtain ⟨hu1, hu2⟩ := letter_u8 hc1
          have hc9 := HC2.out
          have hc8 := HC.out
          have hpa := HPH.out.1 (by rw [← HWS.out]; exact hlj)
          have hl9 : l2.length < 1000000 := by omega
          have HC1 := Lib.hid hc1
          have HCP := Lib.hid hc2
          have HTK := Lib.hid htk
          have HPA := Lib.hid hpa
          clear hc1 hc2 htk hpa hcj
          by_cases hlast : j + 1 = W.size
          · by_cases h97 : 97 ≤ c.toNat
            · have h97I : (97 : Int) ≤ (c.toNat : Int) := by omega
              have hwr0 := hu1 h97
              obtain ⟨y, hy⟩ : ∃ y, c.toNat - 97 = y := ⟨_, rfl⟩
              rw [hy] at hwr0
              have hy9 : y ≤ 200 := by have := c.toNat_lt; omega
              have hwr := hwr0
              have hwi : IntKind.i64.wrap (y : Int) = y := by rw [IntKind.wrap_i64]; omega
              have h65 := letter_lo HC1.out
              have hwm : ((c.toNat : Int) - 97) % 256 = y := by omega
              have hedw : edW c a 0 = (a, y, 0) := by unfold edW; rw [if_pos h97, hy]
              have hbase : w.heap.size + 1 ≤ (wr.alloc (.cells (I64s [(a : Int), (y : Int), (0 : Int)]).toArray 102)).heap.size := by simp; omega
              have HBS := Lib.hid hbase
              have HOA : Hid (OwnE (wr.alloc (.cells (I64s [(a : Int), (y : Int), (0 : Int)]).toArray 102)) (w.heap.size + 1) lw l2) := Lib.hid (World.ownsRow.keep HO.out ((Below.refl _ _).alloc (Nat.le_refl _) _))
              have HZA := Lib.hid (HZ.out.alloc (.cells (I64s [(a : Int), (y : Int), (0 : Int)]).toArray 102))
              have HBA := Lib.hid (HB.out.alloc hbsz (.cells (I64s [(a : Int), (y : Int), (0 : Int)]).toArray 102))
              have HED := Lib.hid hedw
              have hpre := HP.out.addZero (by omega) hc9.2.1 HC1.out HCP.out (by rw [HPA.out, HTK.out, List.take_of_length_le (by rw [← HWS.out]; omega)]; exact Gen.one HS.out)
              have hN2 : (1 ≤ n2 ∧ 0 < n2 ∧ n2 ≤ n + (j + 1) ∧ (l2 ++ [edW c a 0]).length ≤ l.length + (j + 1)) := by rw [List.length_append, List.length_singleton]; omega
              have hph : (j + 1 < q.length → φ2 0 = q.take (j + 1)) ∧ (j + 1 = q.length → (0 : Nat) = 0) := ⟨fun h => by have := HWS.out; omega, fun _ => rfl⟩
              have hlI : (W.size : Int) - 1 = (j : Int) := by omega
              have hwk := (HWK.out.more [edW c a 0]).snoc HC1.out HCP.out (edW_at HC1.out l2 a 0)
              rw [HTK.out] at hwk
              have HWK2 := Lib.hid hwk
              have HPRE := Lib.hid hpre
              have HN2 := Lib.hid hN2
              have HPH2 := Lib.hid hph
              have HD2 : Hid (∀ t s, t < i → ss[t]? = some s → Walk k (l2 ++ [edW c a 0]) 0 (redW (bts s)) 0) := Lib.hid (fun t u ht hu => (HD.out t u ht hu).more _)
              clear hbase h65 hy hwr0 hedw hpre hN2 hph hwk HO HZ HB HP HWK HPH HD hlast hu1 hu2
              go_wp2_with (at_builtin; refine wpList_appK Try.info102 rfl (by decide) (by decide) Try.underlying100 HOA.out (by omega) rfl (.tmp 41) (.tmp 50) rfl (by simp [Act.eval]) (by simp [Act.eval]) (Blk.new wr 102 (I64s [(a : Int), (y : Int), (0 : Int)])) rfl HBS.out _ rfl ?_; intro g6 cap6 w6 hown6 hgrow6 hat6 hlt6)
              have hlo := World.ownsRow.lt HOA.out
              have G1 : Hid (OwnE w6 (w.heap.size + 1) (.slice (some ⟨g6, 0, none⟩) (l2.length + 1) cap6) (l2 ++ [edW c a 0])) := Lib.hid (by rw [HED.out]; unfold OwnE; rw [edL_app, List.length_append]; exact hown6)
              have G2 := Lib.hid (HZA.out.grown hgrow6 (row_blk HOA.out HZA.out (by decide)))
              have G3 := Lib.hid (HBA.out.grown hgrow6 (by have := HBS.out; omega) (fun k e => by have := (hlo k e).1; omega))
              clear hlo hown6 hgrow6 hat6 hlt6 HOA HZA HBA HBS
              go_roundw
              case rel => exact ⟨j + 1, n2, 0, l2 ++ [edW c a 0], _, _, by omega, by go_num, rfl, rfl, rfl, G1, HPRE, HD2, HN2, HWK2, HPH2, G2, G3⟩
              case measure => simp [intOf]; omega
            · have h97I : ¬ (97 : Int) ≤ (c.toNat : Int) := by omega
              have hwr0 := hu2 h97
              obtain ⟨y, hy⟩ : ∃ y, c.toNat - 65 = y := ⟨_, rfl⟩
              rw [hy] at hwr0
              have hy9 : y ≤ 200 := by have := c.toNat_lt; omega
              have hwr := hwr0
              have hwi : IntKind.i64.wrap (y : Int) = y := by rw [IntKind.wrap_i64]; omega
              have h65 := letter_lo HC1.out
              have hwm : ((c.toNat : Int) - 65) % 256 = y := by omega
              have hedw : edW c a 0 = (0, y, a) := by unfold edW; rw [if_neg h97, hy]
              have hbase : w.heap.size + 1 ≤ (wr.alloc (.cells (I64s [(0 : Int), (y : Int), (a : Int)]).toArray 102)).heap.size := by simp; omega
              have HBS := Lib.hid hbase
              have HOA : Hid (OwnE (wr.alloc (.cells (I64s [(0 : Int), (y : Int), (a : Int)]).toArray 102)) (w.heap.size + 1) lw l2) := Lib.hid (World.ownsRow.keep HO.out ((Below.refl _ _).alloc (Nat.le_refl _) _))
              have HZA := Lib.hid (HZ.out.alloc (.cells (I64s [(0 : Int), (y : Int), (a : Int)]).toArray 102))
              have HBA := Lib.hid (HB.out.alloc hbsz (.cells (I64s [(0 : Int), (y : Int), (a : Int)]).toArray 102))
              have HED := Lib.hid hedw
              have hpre := HP.out.addZero (by omega) hc9.2.1 HC1.out HCP.out (by rw [HPA.out, HTK.out, List.take_of_length_le (by rw [← HWS.out]; omega)]; exact Gen.one HS.out)
              have hN2 : (1 ≤ n2 ∧ 0 < n2 ∧ n2 ≤ n + (j + 1) ∧ (l2 ++ [edW c a 0]).length ≤ l.length + (j + 1)) := by rw [List.length_append, List.length_singleton]; omega
              have hph : (j + 1 < q.length → φ2 0 = q.take (j + 1)) ∧ (j + 1 = q.length → (0 : Nat) = 0) := ⟨fun h => by have := HWS.out; omega, fun _ => rfl⟩
              have hlI : (W.size : Int) - 1 = (j : Int) := by omega
              have hwk := (HWK.out.more [edW c a 0]).snoc HC1.out HCP.out (edW_at HC1.out l2 a 0)
              rw [HTK.out] at hwk
              have HWK2 := Lib.hid hwk
              have HPRE := Lib.hid hpre
              have HN2 := Lib.hid hN2
              have HPH2 := Lib.hid hph
              have HD2 : Hid (∀ t s, t < i → ss[t]? = some s → Walk k (l2 ++ [edW c a 0]) 0 (redW (bts s)) 0) := Lib.hid (fun t u ht hu => (HD.out t u ht hu).more _)
              clear hbase h65 hy hwr0 hedw hpre hN2 hph hwk HO HZ HB HP HWK HPH HD hlast hu1 hu2
              go_wp2_with (at_builtin; refine wpList_appK Try.info102 rfl (by decide) (by decide) Try.underlying100 HOA.out (by omega) rfl (.tmp 52) (.tmp 61) rfl (by simp [Act.eval]) (by simp [Act.eval]) (Blk.new wr 102 (I64s [(0 : Int), (y : Int), (a : Int)])) rfl HBS.out _ rfl ?_; intro g6 cap6 w6 hown6 hgrow6 hat6 hlt6)
              have hlo := World.ownsRow.lt HOA.out
              have G1 : Hid (OwnE w6 (w.heap.size + 1) (.slice (some ⟨g6, 0, none⟩) (l2.length + 1) cap6) (l2 ++ [edW c a 0])) := Lib.hid (by rw [HED.out]; unfold OwnE; rw [edL_app, List.length_append]; exact hown6)
              have G2 := Lib.hid (HZA.out.grown hgrow6 (row_blk HOA.out HZA.out (by decide)))
              have G3 := Lib.hid (HBA.out.grown hgrow6 (by have := HBS.out; omega) (fun k e => by have := (hlo k e).1; omega))
              clear hlo hown6 hgrow6 hat6 hlt6 HOA HZA HBA HBS
              go_roundw
              case rel => exact ⟨j + 1, n2, 0, l2 ++ [edW c a 0], _, _, by omega, by go_num, rfl, rfl, rfl, G1, HPRE, HD2, HN2, HWK2, HPH2, G2, G3⟩
              case measure => simp [intOf]; omega
          · by_cases h97 : 97 ≤ c.toNat
            · have h97I : (97 : Int) ≤ (c.toNat : Int) := by omega
              have hwr0 := hu1 h97
              obtain ⟨y, hy⟩ : ∃ y, c.toNat - 97 = y := ⟨_, rfl⟩
              rw [hy] at hwr0
              have hy9 : y ≤ 200 := by have := c.toNat_lt; omega
              have hwr := hwr0
              have hwi : IntKind.i64.wrap (y : Int) = y := by rw [IntKind.wrap_i64]; omega
              have h65 := letter_lo HC1.out
              have hwm : ((c.toNat : Int) - 97) % 256 = y := by omega
              have hedw : edW c a n2 = (a, y, n2) := by unfold edW; rw [if_pos h97, hy]
              have hbase : w.heap.size + 1 ≤ (wr.alloc (.cells (I64s [(a : Int), (y : Int), (n2 : Int)]).toArray 102)).heap.size := by simp; omega
              have HBS := Lib.hid hbase
              have HOA : Hid (OwnE (wr.alloc (.cells (I64s [(a : Int), (y : Int), (n2 : Int)]).toArray 102)) (w.heap.size + 1) lw l2) := Lib.hid (World.ownsRow.keep HO.out ((Below.refl _ _).alloc (Nat.le_refl _) _))
              have HZA := Lib.hid (HZ.out.alloc (.cells (I64s [(a : Int), (y : Int), (n2 : Int)]).toArray 102))
              have HBA := Lib.hid (HB.out.alloc hbsz (.cells (I64s [(a : Int), (y : Int), (n2 : Int)]).toArray 102))
              have HED := Lib.hid hedw
              have hpre := HP.out.addNew (by omega) hc9.2.1 HC1.out HCP.out
              have hN2 : (1 ≤ n2 + 1 ∧ n2 < n2 + 1 ∧ n2 + 1 ≤ n + (j + 1) ∧ (l2 ++ [edW c a n2]).length ≤ l.length + (j + 1)) := by rw [List.length_append, List.length_singleton]; omega
              have hph : (j + 1 < q.length → (fun v => if v = n2 then φ2 a ++ [c] else φ2 v) n2 = q.take (j + 1)) ∧ (j + 1 = q.length → n2 = 0) := ⟨fun _ => by show (if n2 = n2 then _ else _) = _; rw [if_pos rfl, HPA.out, HTK.out], fun h => by have := HWS.out; omega⟩
              have hlI : ¬ ((j : Int) = (W.size : Int) - 1) := by omega
              have hwk := (HWK.out.more [edW c a n2]).snoc HC1.out HCP.out (edW_at HC1.out l2 a n2)
              rw [HTK.out] at hwk
              have HWK2 := Lib.hid hwk
              have HPRE := Lib.hid hpre
              have HN2 := Lib.hid hN2
              have HPH2 := Lib.hid hph
              have HD2 : Hid (∀ t s, t < i → ss[t]? = some s → Walk k (l2 ++ [edW c a n2]) 0 (redW (bts s)) 0) := Lib.hid (fun t u ht hu => (HD.out t u ht hu).more _)
              clear hbase h65 hy hwr0 hedw hpre hN2 hph hwk HO HZ HB HP HWK HPH HD hlast hu1 hu2
              go_wp2_with (at_builtin; refine wpList_appK Try.info102 rfl (by decide) (by decide) Try.underlying100 HOA.out (by omega) rfl (.tmp 41) (.tmp 50) rfl (by simp [Act.eval]) (by simp [Act.eval]) (Blk.new wr 102 (I64s [(a : Int), (y : Int), (n2 : Int)])) rfl HBS.out _ rfl ?_; intro g6 cap6 w6 hown6 hgrow6 hat6 hlt6)
              have hlo := World.ownsRow.lt HOA.out
              have G1 : Hid (OwnE w6 (w.heap.size + 1) (.slice (some ⟨g6, 0, none⟩) (l2.length + 1) cap6) (l2 ++ [edW c a n2])) := Lib.hid (by rw [HED.out]; unfold OwnE; rw [edL_app, List.length_append]; exact hown6)
              have G2 := Lib.hid (HZA.out.grown hgrow6 (row_blk HOA.out HZA.out (by decide)))
              have G3 := Lib.hid (HBA.out.grown hgrow6 (by have := HBS.out; omega) (fun k e => by have := (hlo k e).1; omega))
              clear hlo hown6 hgrow6 hat6 hlt6 HOA HZA HBA HBS
              go_roundw
              case rel => exact ⟨j + 1, n2 + 1, n2, l2 ++ [edW c a n2], _, _, by omega, by go_num, rfl, by go_num, rfl, G1, HPRE, HD2, HN2, HWK2, HPH2, G2, G3⟩
              case measure => simp [intOf]; omega
            · have h97I : ¬ (97 : Int) ≤ (c.toNat : Int) := by omega
              have hwr0 := hu2 h97
              obtain ⟨y, hy⟩ : ∃ y, c.toNat - 65 = y := ⟨_, rfl⟩
              rw [hy] at hwr0
              have hy9 : y ≤ 200 := by have := c.toNat_lt; omega
              have hwr := hwr0
              have hwi : IntKind.i64.wrap (y : Int) = y := by rw [IntKind.wrap_i64]; omega
              have h65 := letter_lo HC1.out
              have hwm : ((c.toNat : Int) - 65) % 256 = y := by omega
              have hedw : edW c a n2 = (n2, y, a) := by unfold edW; rw [if_neg h97, hy]
              have hbase : w.heap.size + 1 ≤ (wr.alloc (.cells (I64s [(n2 : Int), (y : Int), (a : Int)]).toArray 102)).heap.size := by simp; omega
              have HBS := Lib.hid hbase
              have HOA : Hid (OwnE (wr.alloc (.cells (I64s [(n2 : Int), (y : Int), (a : Int)]).toArray 102)) (w.heap.size + 1) lw l2) := Lib.hid (World.ownsRow.keep HO.out ((Below.refl _ _).alloc (Nat.le_refl _) _))
              have HZA := Lib.hid (HZ.out.alloc (.cells (I64s [(n2 : Int), (y : Int), (a : Int)]).toArray 102))
              have HBA := Lib.hid (HB.out.alloc hbsz (.cells (I64s [(n2 : Int), (y : Int), (a : Int)]).toArray 102))
              have HED := Lib.hid hedw
              have hpre := HP.out.addNew (by omega) hc9.2.1 HC1.out HCP.out
              have hN2 : (1 ≤ n2 + 1 ∧ n2 < n2 + 1 ∧ n2 + 1 ≤ n + (j + 1) ∧ (l2 ++ [edW c a n2]).length ≤ l.length + (j + 1)) := by rw [List.length_append, List.length_singleton]; omega
              have hph : (j + 1 < q.length → (fun v => if v = n2 then φ2 a ++ [c] else φ2 v) n2 = q.take (j + 1)) ∧ (j + 1 = q.length → n2 = 0) := ⟨fun _ => by show (if n2 = n2 then _ else _) = _; rw [if_pos rfl, HPA.out, HTK.out], fun h => by have := HWS.out; omega⟩
              have hlI : ¬ ((j : Int) = (W.size : Int) - 1) := by omega
              have hwk := (HWK.out.more [edW c a n2]).snoc HC1.out HCP.out (edW_at HC1.out l2 a n2)
              rw [HTK.out] at hwk
              have HWK2 := Lib.hid hwk
              have HPRE := Lib.hid hpre
              have HN2 := Lib.hid hN2
              have HPH2 := Lib.hid hph
              have HD2 : Hid (∀ t s, t < i → ss[t]? = some s → Walk k (l2 ++ [edW c a n2]) 0 (redW (bts s)) 0) := Lib.hid (fun t u ht hu => (HD.out t u ht hu).more _)
              clear hbase h65 hy hwr0 hedw hpre hN2 hph hwk HO HZ HB HP HWK HPH HD hlast hu1 hu2
              go_wp2_with (at_builtin; refine wpList_appK Try.info102 rfl (by decide) (by decide) Try.underlying100 HOA.out (by omega) rfl (.tmp 52) (.tmp 61) rfl (by simp [Act.eval]) (by simp [Act.eval]) (Blk.new wr 102 (I64s [(n2 : Int), (y : Int), (a : Int)])) rfl HBS.out _ rfl ?_; intro g6 cap6 w6 hown6 hgrow6 hat6 hlt6)
              have hlo := World.ownsRow.lt HOA.out
              have G1 : Hid (OwnE w6 (w.heap.size + 1) (.slice (some ⟨g6, 0, none⟩) (l2.length + 1) cap6) (l2 ++ [edW c a n2])) := Lib.hid (by rw [HED.out]; unfold OwnE; rw [edL_app, List.length_append]; exact hown6)
              have G2 := Lib.hid (HZA.out.grown hgrow6 (row_blk HOA.out HZA.out (by decide)))
              have G3 := Lib.hid (HBA.out.grown hgrow6 (by have := HBS.out; omega) (fun k e => by have := (hlo k e).1; omega))
              clear hlo hown6 hgrow6 hat6 hlt6 HOA HZA HBA HBS
              go_roundw
              case rel => exact ⟨j + 1, n2 + 1, n2, l2 ++ [edW c a n2], _, _, by omega, by go_num, rfl, by go_num, rfl, G1, HPRE, HD2, HN2, HWK2, HPH2, G2, G3⟩
              case measure => simp [intOf]; omega
        · obtain rfl : j = W.size := by omega
          have ha0 := HPH.out.2 HWS.out
          have hwk := HWK.out
          rw [ha0, List.take_of_length_le (by rw [HWS.out]; exact Nat.le_refl _)] at hwk
          have hc9 := HC2.out
          have hc8 := HC.out
          have G1 : Hid (∀ t s, t < i + 1 → ss[t]? = some s → Walk k l2 0 (redW (bts s)) 0) := Lib.hid (fun t u ht hu => by
            by_cases e : t = i
            · subst e
              rw [HGS.out] at hu
              rw [← Option.some.inj hu, HQ.out]; exact hwk
            · exact HD.out t u (by omega) hu)
          have G2 : Hid (1 ≤ n2 ∧ n2 ≤ 1 + 100 * (i + 1) ∧ l2.length ≤ 100 * (i + 1)) := Lib.hid (by omega)
          clear ha0 hwk
          go_wp2_with fail
          go_roundw
          case rel => exact ⟨i + 1, n2, l2, φ2, _, by omega, by go_num, rfl, rfl, HO, HP, G1, G2, HZ, HB⟩
          case measure => simp [intOf]; omega
    · obtain rfl : i = m := by omega
      have hc8 := HC.out
      have hall : ∀ x, setR ss x → Walk k l 0 x 0 := fun x hx => by
        obtain ⟨y, ⟨s, hs, rfl⟩, rfl⟩ := hx
        obtain ⟨t, ht, rfl⟩ := List.mem_iff_getElem.1 hs
        exact HD.out t _ (by rw [HN.out] at ht; exact ht) (List.getElem?_eq_getElem ht)
      have hfd := HFD2.out wr k (w.heap.size + 1) lw l (setR ss) φ hk1 hk4 HO.out (HP.out.inv (by omega) hall) (by omega)
      have HFF := Lib.hid hfd
      clear hfd hall
      go_wp2_with (first
        | (go_at_call 67; refine HFF.out.mono ?_; rintro e w6 ⟨rv, g, rfl, hg, hrows, hb6⟩; have HX6 := Lib.hid (HZ.out.keep hb6); have HRV := Lib.hid (rows_one hrows k); have HROWS := Lib.hid hrows; have HB6 := Lib.hid (HB.out.trans (hb6.mono hbsz)); have HG := Lib.hid hg; clear hrows hb6 hg)
        | (with_reducible show wpList _ _ _ (Oper.mk _ (Op.store 32 _ _) _ _ _ _ :: _) _ _; (refine wpList_storeB (vs := [.int .i64 k, rv]) HX6.out Try.size32 rfl rfl HRV.out rfl _ _ rfl rfl rfl ?_)))
      have hr1 := HX6.out.set 0 (.int .i64 k)
      have hrow := ((HROWS.out.mono hbsz).other HX6.out (by decide) (by decide) 0 (.int .i64 k)).other hr1 (by decide) (by decide) 1 rv
      exact bodyPost_ret (ret17 (M := [.int .i64 k, rv]) rfl rfl (hr1.set 1 rv)) rfl ⟨rv, g, rfl, HG.out, hrow, below_setCells (Nat.le_refl _) [.int .i64 k, rv] 0 HB6.out⟩
end Go.Proofs.Ytlooclpfoeakgaa

/- The iterator of the edges of any rows, and rows that are put into a folder: contracts. -/
namespace Go.Proofs.Ytlooclpfoeakgaa
open Go.RowKit Go.Shelf
attribute [local go_sem] Oper.semAt_some

/-- rows that may be a graph's: no more is asked of them -/
structure RowG (k : Nat) (g : List (List Int)) : Prop where
  k1 : 1 ≤ k
  k4 : k ≤ 4
  n1 : 1 ≤ g.length
  n6 : g.length ≤ 20000
  row : ∀ r ∈ g, r.length = 2 * k ∧ ∀ x ∈ r, -1 ≤ x ∧ x < g.length
theorem GoodG.rowG {k : Nat} {g : List (List Int)} (h : GoodG k g) : RowG k g := ⟨h.k1, h.k4, h.n1, by have := h.n5; omega, h.row⟩
theorem RowG.bounds {k : Nat} {g : List (List Int)} (hg : RowG k g) {v p u : Nat} (h : nxT g v p = some u) : v < g.length ∧ p < 2 * k ∧ u < g.length := by
  obtain ⟨r, h1, h2⟩ := nxT_row' h
  have h3 := hg.row r (List.mem_of_getElem? h1)
  have h4 := (List.getElem?_eq_some_iff.1 h1).1
  have h5 := (List.getElem?_eq_some_iff.1 h2).1
  have h6 := (h3.2 _ (List.mem_of_getElem? h2)).2
  exact ⟨h4, by omega, by omega⟩


set_option maxRecDepth 100000 in
set_option maxHeartbeats 8000000 in
theorem edges1R_in (n : Nat) (hn : 1 ≤ n) (l Bs k : Nat) (rv : Value) (g : List (List Int)) (w0 : World) (hg : RowG k g) (hr0 : RowsR w0 rv g) (J Jx : List (EdG k g) → World → Prop)
    (hY : ∀ pre (x : EdG k g) W, J pre W → pre.length < 100000 → YieldAt Fence.wide (n - 1) Try.prog l #[.agg #[.int .i64 (x.1.1 : Int), .int .i64 (x.1.2.1 : Int)], .int .i64 (x.1.2.2 : Int)] W fun e W' =>
      (e = .returned (.bool true) ∧ J (pre ++ [x]) W' ∧ Below w0.heap.size W W') ∨ (e = .returned (.bool false) ∧ Jx (pre ++ [x]) W'))
    (W : World) (hx0 : Blk W Bs 25 [.int .i64 k, rv]) (hb0 : Below w0.heap.size w0 W) (h0 : J [] W) :
    CallsIn Fence.wide n Try.prog 113 #[.func (.yield l) #[] #[], .pointer (some ⟨Bs, 0, none⟩)] W fun e W' => (∃ v, e = .returned v) ∧
      ((∃ ys : List (EdG k g), ys.map (·.1) = edgesTo k g g.length 0 ∧ J ys W') ∨ (∃ pre, Jx pre W')) := by
  obtain ⟨m, hm⟩ : ∃ m, g.length = m := ⟨_, rfl⟩
  obtain ⟨va, vc, rfl, hv1, hv2⟩ := hr0.shape hm
  have hrow := hg.row
  have hn1 := hg.n1
  have hn5 := hg.n6
  have hk4 := hg.k4
  have hk1 := hg.k1
  rw [hm] at hn1 hn5
  obtain ⟨K, hK⟩ : ∃ K, 2 * k = K := ⟨_, rfl⟩
  rw [hK] at hrow
  have HM := Lib.hid hm
  have HY := Lib.hid hY
  have HBW := Lib.hid hb0
  have HROW := Lib.hid hrow
  have c1 := hx0.cell (j := 1) rfl
  have HR0 := Lib.hid hr0
  have hb9 : m * k ≤ 20000 * 4 := Nat.mul_le_mul hn5 hk4
  clear hm hY hb0 hx0 hrow hr0
  refine callsIn_of_wp Try.func113 rfl trivial ?_ rfl
  simp only [Try.ntmps113, List.size_toArray, List.length_cons, List.length_nil, Nat.reduceAdd, Nat.reduceSub, Array.replicate_succ, Array.replicate_zero, List.push_toArray, List.append_toArray, List.nil_append, List.cons_append]
  refine wpIn_wide.2 ?_
  go_wp2_with fail
  clear c1
  go_loopw [9] (fun iv wr => ∃ (i : Nat) (ys : List (EdG k g)), i ≤ m ∧ iv = .int .i64 i ∧ ys.map (·.1) = edgesTo k g i 0 ∧ Hid (Below w0.heap.size w0 wr) ∧ J ys wr) (fun iv _ => m - (intOf iv).toNat)
  case atStart => exact ⟨0, [], by omega, rfl, rfl, HBW, h0⟩
  case round =>
    clear h0 HBW
    obtain ⟨i, ys, hi, rfl, hys, HBW, hJi⟩ := hrel
    by_cases hlt : i < m
    · have hbw := HBW.out
      obtain ⟨r, hr⟩ : ∃ r, g[i]? = some r := ⟨_, List.getElem?_eq_getElem (by rw [HM.out]; exact hlt)⟩
      obtain ⟨b1, v1, rfl, d0, e1⟩ := HR0.out.at_ (Below.refl _ _) hr
      have d1 := (hbw.cell (p := ⟨b1, i, none⟩) (cell_lt d0)).trans d0
      obtain ⟨hl1, hl2⟩ := HROW.out r (List.mem_of_getElem? hr)
      obtain ⟨a2, c2, rfl, q1, q2⟩ := e1.shape hl1
      have i0 : (0 : Int) ≤ i := by omega
      have i1 : (i : Int) < m := by omega
      have HR1 := Lib.hid hr
      have HL1 := Lib.hid hl1
      have HL2 := Lib.hid hl2
      have HE1 := Lib.hid e1
      have hik : i * k + k ≤ 80000 := by
        have := Nat.mul_le_mul (show i + 1 ≤ 20000 by omega) hk4
        rw [Nat.succ_mul] at this
        omega
      have HIK := Lib.hid hik
      have HYS := Lib.hid hys
      clear hr hl1 hl2 e1 d0 hbw hik hys
      go_wp2_with fail
      clear d1
      go_loopw [5] (fun jv wr => ∃ (j p : Nat) (ys : List (EdG k g)), j ≤ k ∧ Hid (p = 2 * j) ∧ jv = .int .i64 p ∧ Hid (ys.map (·.1) = edgesTo k g i j) ∧ Hid (Below w0.heap.size w0 wr) ∧ J ys wr) (fun jv _ => K - (intOf jv).toNat)
      case atStart => exact ⟨0, 0, ys, by omega, Lib.hid rfl, rfl, HYS, HBW, hJi⟩
      case round =>
        clear HYS HBW hJi ys
        obtain ⟨j, p, ys, hj, HP, rfl, HYS, HBW, hJi⟩ := hrel
        have hp := HP.out
        by_cases hlj : j < k
        · have hpK : p < K := by omega
          have hbw := HBW.out
          obtain ⟨x, hx⟩ : ∃ x, r[p]? = some x := ⟨_, List.getElem?_eq_getElem (by rw [HL1.out]; exact hpK)⟩
          obtain ⟨b2, rfl, d2⟩ := HE1.out.at_ hbw hx
          obtain ⟨hx1, hx2⟩ := HL2.out x (List.mem_of_getElem? hx)
          have p0 : (0 : Int) ≤ p := by omega
          have p1 : (p : Int) < K := by omega
          have hsc := edges_step k g i j
          rw [← hp] at hsc
          by_cases hx0 : 0 ≤ x
          · obtain ⟨t, rfl⟩ : ∃ t : Nat, x = t := ⟨x.toNat, by omega⟩
            have hnx : nxT g i p = some t := nxT_of HR1.out hx
            have hea : edgeAt g i p = [(i, p, t)] := by unfold edgeAt; rw [hnx]
            rw [hea] at hsc
            have hxx : EdgeOk k g (i, p, t) := ⟨by show i < g.length; rw [HM.out]; exact hlt, by show p < 2 * k; omega, by show p % 2 = 0; omega, by show t < g.length; omega, hnx⟩
            have hlen : ys.length < 100000 := by
              have h1 := congrArg List.length HYS.out
              rw [List.length_map] at h1
              have h2 := edges_len k g i j
              have := HIK.out
              omega
            obtain ⟨fn, tmps, assign, body, hy, hR⟩ := HY.out ys ⟨(i, p, t), hxx⟩ wr hJi hlen
            have G1 : Hid ((ys ++ [(⟨(i, p, t), hxx⟩ : EdG k g)]).map (·.1) = edgesTo k g i (j + 1)) := Lib.hid (by rw [List.map_append, HYS.out, hsc]; rfl)
            have HR := Lib.hid hR
            have hp2 : IntKind.i64.wrap ((p : Int) + 2) = ((p + 2 : Nat) : Int) := by rw [IntKind.wrap_i64]; omega
            have G2 : Hid (p + 2 = 2 * (j + 1)) := Lib.hid (by omega)
            clear hR hJi hsc hea hnx hx HYS hlen hp
            go_upto_region 6 with (fail)
            refine (wpIn_wide (n := n)).1 ?_
            gi_wp2
            refine HR.out.mono ?_
            rintro e W3 (⟨rfl, hJ3, hb3⟩ | ⟨rfl, hJx3⟩)
            · have HB3 := Lib.hid (HBW.out.trans hb3)
              clear HR hy hb3
              gi_wp2
              go_wp2_with fail
              go_roundw
              case rel => exact ⟨j + 1, p + 2, _, by omega, G2, by go_num, G1, HB3, hJ3⟩
              case measure => simp [intOf]; omega
            · gi_wp2
              go_wp2_with fail
              refine bodyPost_ret (results_none rfl _ _ _) rfl ?_
              exact ⟨⟨_, rfl⟩, .inr ⟨_, hJx3⟩⟩
          · have hnx : nxT g i p = none := by
              cases hnx : nxT g i p with
              | none => rfl
              | some u =>
                obtain ⟨r3, h3, h4⟩ := nxT_row hnx
                rw [HR1.out] at h3
                rw [← Option.some.inj h3, hx] at h4
                have := Option.some.inj h4
                omega
            have hea : edgeAt g i p = [] := by unfold edgeAt; rw [hnx]
            rw [hea, List.append_nil] at hsc
            have G1 : Hid (ys.map (·.1) = edgesTo k g i (j + 1)) := Lib.hid (by rw [hsc]; exact HYS.out)
            have G2 : Hid (p + 2 = 2 * (j + 1)) := Lib.hid (by omega)
            have hp2 : IntKind.i64.wrap ((p : Int) + 2) = ((p + 2 : Nat) : Int) := by rw [IntKind.wrap_i64]; omega
            clear hsc hea hnx hx HYS hp
            go_wp2_with fail
            go_roundw
            case rel => exact ⟨j + 1, p + 2, ys, by omega, G2, by go_num, G1, HBW, hJi⟩
            case measure => simp [intOf]; omega
        · obtain rfl : j = k := by omega
          have hys := HYS.out
          rw [edges_next] at hys
          have HYS2 := Lib.hid hys
          have hpK : ¬ (p : Int) < K := by omega
          clear hys HYS hp
          go_wp2_with fail
          go_roundw
          case rel => exact ⟨i + 1, ys, by omega, by go_num, HYS2.out, HBW, hJi⟩
          case measure => simp [intOf]; omega
    · obtain rfl : i = m := by omega
      have hfin : ys.map (·.1) = edgesTo k g g.length 0 := by rw [HM.out]; exact hys
      go_wp2_with fail
      go_end0
      exact ⟨⟨_, rfl⟩, .inl ⟨ys, hfin, hJi⟩⟩
theorem edgesR_stops (n : Nat) (hn : 1 ≤ n) (Bs k : Nat) (rv : Value) (g : List (List Int)) (w0 w : World) (hg : RowG k g) (hr0 : RowsR w0 rv g) (hx0 : Blk w Bs 25 [.int .i64 k, rv]) (hb0 : Below w0.heap.size w0 w) :
    SeqStopsK Fence.wide n Try.prog 113 #[.pointer (some ⟨Bs, 0, none⟩)] (fun x : EdG k g => #[.agg #[.int .i64 (x.1.1 : Int), .int .i64 (x.1.2.1 : Int)], .int .i64 (x.1.2.2 : Int)]) (fun A C => Below w0.heap.size A C)
      (fun ys => ys.map (·.1) = edgesTo k g g.length 0) (fun _ => True) 100000 w :=
  fun l J Jx W hW _ _ hY h0 => by
    refine (edges1R_in n hn l Bs k rv g w0 hg hr0 J Jx hY W (hx0.keep hW) (hb0.trans (hW.mono hb0.size)) h0).mono ?_
    rintro e W' ⟨hv, ⟨ys, hys, h⟩ | ⟨pre, h⟩⟩
    · exact ⟨hv, .inl ⟨ys, hys, h⟩⟩
    · exact ⟨hv, .inr ⟨pre, trivial, h⟩⟩
end Go.Proofs.Ytlooclpfoeakgaa

/- Rows that are put into a folder: what lies in memory. -/
namespace Go.Proofs.Ytlooclpfoeakgaa
open Go.RowKit Go.Shelf

/-- the vertex of the folder that a row's vertex becomes -/
def atC (n0 start v : Nat) : Nat := if v = 0 then start else n0 + v - 1
def atL (n0 start m : Nat) : List Int := (List.range m).map fun v => (atC n0 start v : Int)
theorem atL_len (n0 start m : Nat) : (atL n0 start m).length = m := by simp [atL]
theorem atL_succ (n0 start m : Nat) : atL n0 start (m + 1) = atL n0 start m ++ [(atC n0 start m : Int)] := by
  unfold atL; rw [List.range_succ, List.map_append]; rfl
theorem atL_get {n0 start m v : Nat} (h : v < m) : (atL n0 start m)[v]? = some (atC n0 start v : Int) := by
  unfold atL; rw [List.getElem?_map, List.getElem?_range h]; rfl
def addN (x : FS) : Nat → FS
  | 0 => x
  | i + 1 => addF (addN x i)
theorem addN_n (x : FS) : ∀ i, (addN x i).n = x.n + i
  | 0 => rfl
  | i + 1 => by show (addN x i).n + 1 = _; rw [addN_n x i]; omega
theorem addN_R (x : FS) : ∀ i, (addN x i).R = x.R
  | 0 => rfl
  | i + 1 => addN_R x i
theorem addN_todo (x : FS) : ∀ i, (addN x i).todo = x.todo
  | 0 => rfl
  | i + 1 => addN_todo x i
theorem addN_inv {k : Nat} {S : List UInt8 → Prop} {φ : Nat → List UInt8} {E : List (Nat × Nat × Nat)} {x : FS} (h : Inv k S φ E x) : ∀ i, Inv k S φ E (addN x i)
  | 0 => h
  | i + 1 => inv_add (addN_inv h i)

/-! ### what a folder's memory keeps when other blocks turn -/
theorem FM.turn {w w6 : World} {base g k : Nat} {x : FS} {up : Nat → Nat} {uv hv tv : Value} (h : FM w base g k x up uv hv tv) {row : Option Nat} (hg : w.grownBy w6 row) (h1 : row ≠ some g) (hu : ∀ b, row = some b → uv.ownBlock ≠ some b) (hh : ∀ b, row = some b → hv.ownBlock ≠ some b) (ht : ∀ b, row = some b → tv.ownBlock ≠ some b) : FM w6 base g k x up uv hv tv := by
  have key : ∀ {v : Value}, (∀ b, row = some b → v.ownBlock ≠ some b) → v.ownBlock = none ∨ v.ownBlock ≠ row := fun {v} hx => by
    cases hv : v.ownBlock with
    | none => exact .inl rfl
    | some c => exact .inr fun e => hx c e.symm hv
  exact ⟨h.blk.grown hg (fun e => h1 e.symm), h.lt, World.ownsRow.kept h.ups hg (key hu), World.ownsRow.kept h.hass hg (key hh), World.ownsRow.kept h.todos hg (key ht)⟩
/-- a block of another kind than a folder's -/
theorem FM.frmBlk {w w' : World} {base g k : Nat} {x : FS} {up : Nat → Nat} {uv hv tv uv' hv' tv' : Value} (h : FM w base g k x up uv hv tv) (hf : Frm w w' g uv hv tv uv' hv' tv') {b e : Nat} {vs : List Value} (hb : Blk w b e vs) (h1 : e ≠ 149) (h2 : e ≠ 3) (h3 : e ≠ 152) (h4 : e ≠ 70) : Blk w' b e vs := by
  refine (hf.block b hb.lt (fun e2 => ?_) (row_blk h.ups hb (fun e2 => h2 e2.symm)) (row_blk h.hass hb (fun e2 => h3 e2.symm)) (row_blk h.todos hb (fun e2 => h4 e2.symm))).trans hb
  have h5 := h.blk
  rw [e2] at hb
  unfold Blk at h5 hb
  rw [h5] at hb
  simp at hb
  exact h1 hb.2.symm
/-- the copier's memory -/
structure CL (W : World) (w : World) (B base g k fb gb ab : Nat) (kv rv : Value) (x : FS) (up : Nat → Nat) (uv hv tv uv0 hv0 tv0 lw : Value) (A : List Int) : Prop where
  fm : FM W base g k x up uv hv tv
  frm : Frm w W g uv0 hv0 tv0 uv hv tv
  box : Blk W ab 54 [lw]
  own : Own W B 3 lw A
  ne : ∀ b, lw.ownBlock = some b → uv.ownBlock ≠ some b
  fbox : Blk W fb 91 [.pointer (some ⟨g, 0, none⟩)]
  gbox : Blk W gb 25 [kv, rv]
  hB : w.heap.size ≤ B
  hab : w.heap.size ≤ ab
section
variable {W W' w : World} {B base g k fb gb ab : Nat} {kv rv : Value} {x x' : FS} {up up' : Nat → Nat} {uv hv tv uv0 hv0 tv0 uv' hv' tv' lw lw' : Value} {A A' : List Int}
theorem CL.keep (h : CL W w B base g k fb gb ab kv rv x up uv hv tv uv0 hv0 tv0 lw A) (hb : Below W.heap.size W W') : CL W' w B base g k fb gb ab kv rv x up uv hv tv uv0 hv0 tv0 lw A :=
  ⟨h.fm.keep hb, h.frm.trans (Frm.of_below hb g uv hv tv), h.box.keep hb, World.ownsRow.keep h.own hb, h.ne, h.fbox.keep hb, h.gbox.keep hb, h.hB, h.hab⟩
/-- the folder has turned -/
theorem CL.folder (h : CL W w B base g k fb gb ab kv rv x up uv hv tv uv0 hv0 tv0 lw A) (hf : Frm W W' g uv hv tv uv' hv' tv') (hm : FM W' base g k x' up' uv' hv' tv') : CL W' w B base g k fb gb ab kv rv x' up' uv' hv' tv' uv0 hv0 tv0 lw A := by
  refine ⟨hm, h.frm.trans hf, h.fm.frmBlk hf h.box (by decide) (by decide) (by decide) (by decide), row_congr h.own fun b hb => ?_, fun b hb e => ?_, h.fm.frmBlk hf h.fbox (by decide) (by decide) (by decide) (by decide), h.fm.frmBlk hf h.gbox (by decide) (by decide) (by decide) (by decide), h.hB, h.hab⟩
  · have hlt := (World.ownsRow.lt h.own b hb).2
    refine hf.block b hlt (fun e => row_blk h.own h.fm.blk (by decide) (by rw [hb, e])) (fun e => h.ne b hb e.symm) (fun e => ?_) (fun e => ?_)
    · rcases row_ne h.own h.fm.hass (by decide) with h1 | h1
      · rw [hb] at h1; cases h1
      · exact h1 (by rw [hb, e])
    · rcases row_ne h.own h.fm.todos (by decide) with h1 | h1
      · rw [hb] at h1; cases h1
      · exact h1 (by rw [hb, e])
  · rcases hf.nu b e with h1 | h1
    · exact h.ne b hb h1
    · have := (World.ownsRow.lt h.own b hb).2; omega
/-- a number is appended to the vertices -/
theorem CL.app (h : CL W w B base g k fb gb ab kv rv x up uv hv tv uv0 hv0 tv0 lw A) {z : Int} (ho : Own W' B 3 lw' (A ++ [z])) (hg : W.grownBy W' lw.ownBlock) (hat : ∀ b, lw'.ownBlock = some b → lw.ownBlock = some b ∨ W.heap.size ≤ b) : CL (W'.setCell ⟨ab, 0, none⟩ lw') w B base g k fb gb ab kv rv x up uv hv tv uv0 hv0 tv0 lw' (A ++ [z]) := by
  have hfm : FM W' base g k x up uv hv tv := by
    refine h.fm.turn hg (fun e => row_blk h.own h.fm.blk (by decide) e.symm) (fun b hb => h.ne b hb) (fun b hb e => ?_) (fun b hb e => ?_)
    · rcases row_ne h.own h.fm.hass (by decide) with h1 | h1
      · rw [hb] at h1; cases h1
      · exact h1 (by rw [hb, e])
    · rcases row_ne h.own h.fm.todos (by decide) with h1 | h1
      · rw [hb] at h1; cases h1
      · exact h1 (by rw [hb, e])
  have hbox := h.box.grown hg (row_blk h.own h.box (by decide))
  have hfb := h.fbox.grown hg (row_blk h.own h.fbox (by decide))
  have hgb := h.gbox.grown hg (row_blk h.own h.gbox (by decide))
  have hfr : Frm w W' g uv0 hv0 tv0 uv hv tv := h.frm.grow hg (fun r hr => .inr (.inr (.inr (by have := (World.ownsRow.lt h.own r hr).1; have := h.hB; omega))))
  have hlt := h.fm.ups
  have hgs := grownBy_setCell' W' ab lw'
  refine ⟨hfm.turn hgs (fun e => ?_) (fun b hb e => ?_) (fun b hb e => ?_) (fun b hb e => ?_), hfr.set ⟨ab, 0, none⟩ lw' (.inr (.inr (.inr (.inr h.hab)))), hbox.set 0 lw', World.ownsRow.kept ho hgs ?_, fun b hb e => ?_, hfb.other (a := ⟨ab, 0, none⟩) (fun e => ?_) lw', hgb.other (a := ⟨ab, 0, none⟩) (fun e => ?_) lw', h.hB, h.hab⟩
  · have h1 := hfm.blk
    rw [← Option.some.inj e] at h1
    unfold Blk at h1 hbox
    rw [h1] at hbox
    simp at hbox
  · exact row_blk hfm.ups hbox (by decide) (by rw [hb, e])
  · exact row_blk hfm.hass hbox (by decide) (by rw [hb, e])
  · exact row_blk hfm.todos hbox (by decide) (by rw [hb, e])
  · cases hv : lw'.ownBlock with
    | none => exact .inl rfl
    | some c => exact .inr fun e => row_blk ho hbox (by decide) (by rw [hv, e])
  · rcases hat b hb with h1 | h1
    · exact h.ne b h1 e
    · have := (World.ownsRow.lt h.fm.ups b e).2; omega
  · have e : fb = ab := e
    rw [e] at hfb
    unfold Blk at hfb hbox
    rw [hfb] at hbox
    simp at hbox
  · have e : gb = ab := e
    rw [e] at hgb
    unfold Blk at hgb hbox
    rw [hgb] at hbox
    simp at hbox
/-- a block that is no cells has turned -/
theorem CL.other (h : CL W w B base g k fb gb ab kv rv x up uv hv tv uv0 hv0 tv0 lw A) {row : Option Nat} (hg : W.grownBy W' row) (hr : ∀ r, row = some r → w.heap.size ≤ r ∧ ∃ o : Obj, W.heap[r]? = some o ∧ o.isCells = false) : CL W' w B base g k fb gb ab kv rv x up uv hv tv uv0 hv0 tv0 lw A := by
  have hr2 : ∀ r, row = some r → ∃ o : Obj, W.heap[r]? = some o ∧ o.isCells = false := fun r e => (hr r e).2
  have key : ∀ {e s n : Nat} {v : Value} {xs : List Value} {bs : Nat}, W.ownsRow bs e s v n xs → ∀ b, row = some b → v.ownBlock ≠ some b := fun ho b hb e => by
    obtain ⟨_, o, ho', hc⟩ := own_block_cells ho e
    obtain ⟨o', ho2, hc2⟩ := hr2 b hb
    rw [ho'] at ho2
    cases ho2
    rw [hc] at hc2
    cases hc2
  refine ⟨h.fm.turn hg (fun e => ?_) (key h.fm.ups) (key h.fm.hass) (key h.fm.todos), h.frm.grow hg (fun r e => .inr (.inr (.inr (hr r e).1))), h.box.ownQ hg hr2, World.ownsRow.kept h.own hg ?_, h.ne, h.fbox.ownQ hg hr2, h.gbox.ownQ hg hr2, h.hB, h.hab⟩
  · obtain ⟨o', ho2, hc2⟩ := hr2 g e
    have h5 := h.fm.blk
    unfold Blk at h5
    rw [h5] at ho2
    cases ho2
    cases hc2
  · cases hv : lw.ownBlock with
    | none => exact .inl rfl
    | some c => exact .inr fun e => key h.own c e.symm hv
theorem FM.others (h : FM W base g k x up uv hv tv) (hf : Frm W W' g uv hv tv uv' hv' tv') : KeepsOthers W W' := by
  refine ⟨hf.size, fun b o hb hc => ?_⟩
  have key : ∀ {e s n : Nat} {v : Value} {xs : List Value} {bs : Nat}, W.ownsRow bs e s v n xs → some b ≠ v.ownBlock := fun ho e => by
    obtain ⟨_, o', ho', hc'⟩ := own_block_cells ho e.symm
    rw [hb] at ho'
    cases ho'
    rw [hc] at hc'
    cases hc'
  refine (hf.block b (Array.getElem?_eq_some_iff.1 hb).1 (fun e => ?_) (key h.ups) (key h.hass) (key h.todos)).trans hb
  have h5 := h.blk
  unfold Blk at h5
  rw [← e, hb] at h5
  cases h5
  cases hc
end
end Go.Proofs.Ytlooclpfoeakgaa

/- A group turned by a word, and two groups joined. Plain laws. -/
namespace Go.Proofs.Ytlooclpfoeakgaa
open Go.RowKit

theorem way_run {k : Nat} {g : List (List Int)} (hg : GoodG k g) : ∀ (n v : Nat), v ≤ n → v < g.length → runS (stG k g) 0 (wayW k g v) = some v := by
  intro n
  induction n with
  | zero => intro v h _; obtain rfl : v = 0 := by omega
            rw [way_zero]; rfl
  | succ n ih =>
    intro v h hv
    by_cases h0 : v = 0
    · subst h0; rw [way_zero]; rfl
    · obtain ⟨f, p, h1, h2, hp, h3⟩ := tree_first hg hv h0
      rw [way_step hg hv h0 h1]
      refine run_app_some (ih f (by omega) (by omega)) ?_
      rw [run_one]
      show stepL k (nxT g) f (letP p) = _
      rw [stepL_place (by have := hg.k4; omega) _ _ hp]
      exact h3.1
theorem way_loop {k : Nat} {g : List (List Int)} (hg : GoodG k g) {v p u : Nat} (h : nxT g v p = some u) : runS (stG k g) 0 (wayW k g v ++ [letP p] ++ invL (wayW k g u)) = some 0 := by
  obtain ⟨h1, h2, h3⟩ := nxT_bounds hg h
  refine run_app_some (run_app_some (way_run hg _ v (Nat.le_refl _) h1) ?_) (run_inv hg.foldd (way_run hg _ u (Nat.le_refl _) h3))
  rw [run_one]
  show stepL k (nxT g) v (letP p) = _
  rw [stepL_place (by have := hg.k4; omega) _ _ h2]
  exact h
theorem fitW_invL {k : Nat} (hk : k ≤ 26) {l : List UInt8} (hw : isWord l = true) (h : fitW k l = true) : fitW k (invL l) = true := by
  unfold fitW at *
  rw [List.all_eq_true] at *
  intro x hx
  unfold invL at hx
  obtain ⟨y, hy, rfl⟩ := List.mem_map.1 (List.mem_reverse.1 hx)
  have hl : letter y.toNat = true := List.all_eq_true.1 (show l.all _ = true from hw) y hy
  rw [place_inv y hl]
  exact decide_eq_true (xor_one_lt k _ hk (of_decide_eq_true (h y hy)))
/-- what runs in a graph runs in its copy -/
theorem copy_run {k : Nat} {S : List UInt8 → Prop} {ψ : Nat → List UInt8} {F : List (Nat × Nat × Nat)} {y : FS} (hk : k ≤ 26) (hI : Inv k S ψ F y) (h0 : y.todo = []) {g : List (List Int)} (hf : FoldP k (nxT g)) (n0 start : Nat)
    (hE : ∀ v p u, nxT g v p = some u → p % 2 = 0 → (atC n0 start v, p, atC n0 start u) ∈ F) : ∀ (l : List UInt8) (v u : Nat), runS (stG k g) v l = some u → runS (stepL k (nxF y)) (y.R (atC n0 start v)) l = some (y.R (atC n0 start u))
  | [], v, u, h => by cases h; rfl
  | c :: l, v, u, h => by
    obtain ⟨x, h1, h2⟩ := run_cons h
    obtain ⟨a1, a2, a3, -⟩ := stG_some h1
    refine run_app_some (a := [c]) ?_ (copy_run hk hI h0 hf n0 start hE l x u h2)
    rw [run_one]
    unfold stepL
    rw [if_pos ⟨a1, a2⟩]
    by_cases he : placeB c % 2 = 0
    · exact settled_need hI h0 (hE v _ x a3 he)
    · have h3 := hf v _ x a2 a3
      have h4 := settled_need hI h0 (hE x _ v h3 (xor_even _ (by omega) (by omega)))
      have h5 := settled_fold hI h0 _ _ _ (settled_bound hI h4).2 h4
      rwa [xor_xor _ (by omega)] at h5
/-- the graph that a folder makes -/
theorem graph_made {k : Nat} {S : List UInt8 → Prop} {φ : Nat → List UInt8} {E : List (Nat × Nat × Nat)} {y : FS} {s0 : Nat} {G : Nat → Bool} (hk : k ≤ 26) (hI : Inv k S φ E y) (h0 : y.todo = []) (hs : s0 < y.n) (hn : y.n ≤ 5000) (hφ : φ s0 = [])
    (hp : Peel k (nxF y) (y.R s0) G) (he : NoEnds k (nxG (nxF y) G) (y.R s0)) (hS : ∀ a, S a → runS (stepL k (nxF y)) (y.R s0) a = some (y.R s0)) : IsGraph k S (numN (nxG (nxF y) G) (List.range (2 * k)) 5000 0 [y.R s0] []) := by
  have hgo := graph_of (N := y.n) hk (settled_fold hI h0) (hI.lt s0 hs) (fun v p u h => (settled_bound hI h).1) hp he hS (fun g hg => settled_sound hI hs hφ hg)
  refine ⟨_, _, hgo, ⟨by have := hI.lt s0 hs; omega, fun v p u h => ?_⟩, rfl⟩
  have := settled_bound hI (nxG_some.1 h).1
  exact ⟨by omega, this.2⟩
/-- the loops of a graph, turned by a word -/
def conjL (k : Nat) (g : List (List Int)) (w : List UInt8) (a : List UInt8) : Prop := ∃ l, runS (stG k g) 0 l = some 0 ∧ a = w ++ l ++ invL w
theorem conj_edge {k : Nat} {g : List (List Int)} (hg : GoodG k g) (w : List UInt8) {v p u : Nat} (h : nxT g v p = some u) : Gen (conjL k g w) (w ++ wayW k g v ++ [letP p] ++ invL (w ++ wayW k g u)) := by
  refine Gen.one ⟨_, way_loop hg h, ?_⟩
  rw [invL_app]
  simp [List.append_assoc]
/-- the words of the basis make all loops -/
theorem basis_gen {k : Nat} {g : List (List Int)} (hg : GoodG k g) {l : List UInt8} (h : runS (stG k g) 0 l = some 0) : Gen (fun a => a ∈ basisW k g) l := by
  refine .eqv (expr_word hg h) ?_
  obtain ⟨x, hx⟩ : ∃ x, exprQ k g 0 l = x := ⟨_, rfl⟩
  rw [hx]
  have hone : ∀ n : Int, Gen (fun a => a ∈ basisW k g) (genW (basisW k g) n) := fun n => by
    have hd : ∀ i : Nat, Gen (fun a => a ∈ basisW k g) ((basisW k g).getD i []) := fun i => by
      rw [List.getD_eq_getElem?_getD]
      cases hi : (basisW k g)[i]? with
      | none => exact .nil
      | some y => exact Gen.one (List.mem_of_getElem? hi)
    unfold genW
    split
    · exact hd _
    · split
      · exact (hd _).back
      · exact .nil
  clear hx h
  induction x with
  | nil => exact .nil
  | cons n x ih => exact (hone n).prod ih
/-- turned words make the turned group -/
theorem gen_conj {k : Nat} {g : List (List Int)} (hg : GoodG k g) {v w : List UInt8} (hvw : Eqv v w) {a : List UInt8} : Gen (conjL k g w) a ↔ Gen (fun a => ∃ b ∈ basisW k g, a = v ++ b ++ invL v) a := by
  constructor
  · refine Gen.mono fun a ha => ?_
    obtain ⟨l, hl, rfl⟩ := ha
    refine .eqv ((hvw.app (Eqv.refl l)).app hvw.inv) ?_
    have h1 := basis_gen hg hl
    have key : ∀ {l : List UInt8}, Gen (fun a => a ∈ basisW k g) l → Gen (fun a => ∃ b ∈ basisW k g, a = v ++ b ++ invL v) (v ++ l ++ invL v) := by
      intro l h
      have hmid : ∀ x y : List UInt8, Eqv (v ++ x ++ invL v ++ (v ++ y ++ invL v)) (v ++ (x ++ y) ++ invL v) := fun x y => by
        have e := (((Eqv.refl (v ++ x)).app (Eqv.inv_left v)).app (Eqv.refl (y ++ invL v)))
        simpa [List.append_assoc] using e
      induction h with
      | nil => rw [List.append_nil]; exact Gen.refl_ _ v
      | mul h1 _ ih => exact .eqv (hmid _ _) ((Gen.one ⟨_, h1, rfl⟩).prod ih)
      | inv h1 _ ih =>
        refine .eqv (hmid _ _) (Gen.prod ?_ ih)
        have := (Gen.one (S := fun a => ∃ b ∈ basisW k g, a = v ++ b ++ invL v) ⟨_, h1, rfl⟩).back
        rw [invL_app, invL_app, invL_inv] at this
        rwa [List.append_assoc]
      | eqv h1 _ ih => exact .eqv (((Eqv.refl v).app h1).app (Eqv.refl _)) ih
    exact key h1
  · refine Gen.mono fun a ha => ?_
    obtain ⟨b, hb, rfl⟩ := ha
    exact .eqv (((hvw.symm).app (Eqv.refl b)).app hvw.symm.inv) (Gen.one ⟨b, (word_run hg b hb).1, rfl⟩)
/-- the loops of two graphs -/
def bothL (k : Nat) (g h : List (List Int)) (a : List UInt8) : Prop := runS (stG k g) 0 a = some 0 ∨ runS (stG k h) 0 a = some 0
theorem gen_both {k : Nat} {g h : List (List Int)} (hg : GoodG k g) (hh : GoodG k h) {a : List UInt8} : Gen (bothL k g h) a ↔ Gen (fun a => a ∈ basisW k g ++ basisW k h) a := by
  constructor
  · refine Gen.mono fun a ha => ?_
    rcases ha with ha | ha
    · exact Gen.mono (fun b hb => Gen.one (List.mem_append_left _ hb)) (basis_gen hg ha)
    · exact Gen.mono (fun b hb => Gen.one (List.mem_append_right _ hb)) (basis_gen hh ha)
  · refine Gen.mono fun a ha => ?_
    rcases List.mem_append.1 ha with ha | ha
    · exact Gen.one (.inl (word_run hg a ha).1)
    · exact Gen.one (.inr (word_run hh a ha).1)
end Go.Proofs.Ytlooclpfoeakgaa
