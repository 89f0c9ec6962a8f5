/- The iterator of the subsets: its contract. -/
import Derived.RangeFuncNested
import Derived.RangeFuncBound
import Derived.RangeFuncCalls
import Derived.RangeFuncLeaves
import Derived.RangeFuncBox
import Derived.Shelf.Abstract
import Derived.Shelf.RegionOpenPlain
import Derived.WalkKit
import Derived.OwnWalkIn
import Derived.TacticsInMore
import Derived.LoopNIn
import Derived.LoopIn
import Derived.Test.YtjdmmgaddbleeaaGreatProg
import Derived.Test.YtjdmmgaddbleeaaGreatMA
import Derived.Test.YtjdmmgaddbleeaaGreatMD
import Derived.Test.YtjdmmgaddbleeaaGreatShelf
import Derived.Lib.Bytealg
import Derived.Shelf.AbstractIn
import Derived.Test.YtjdmmgaddbleeaaGreatMC
namespace Go.Proofs.YtjdmmgaddbleeaaGreat
open Go.RowKit Go.Shelf
attribute [local go_sem] Oper.semAt_some

section
variable {F : Fence} {n : Nat} {P : Program} {w : World} {ops : Array Oper} {rest : List Oper} {o : Oper} {a : Act} {Q : Exit → Act → World → Prop}
theorem wpListIn_loadB (hF : ∀ f, F.fn f) {g : Nat} {e : TypeId} {vs : List Value} (h : Blk w g e vs) {ty : TypeId} {k : Nat} (hi : (P.info? ty).map (·.size) = some k) (hn : vs.length = k)
    {d : TypeDesc} (hu : P.underlying ty = some d) (hd : (match d with | .struct _ | .array _ _ => true | _ => false) = true)
    (hgd : o.guard = none) (x : Operand) (ho : o.op = .load ty x) (hx : a.eval x = .pointer (some ⟨g, 0, none⟩))
    (hK : wpListIn F n P ops Q rest (a.put o.dst (.agg vs.toArray)) w) : wpListIn F n P ops Q (o :: rest) a w :=
  wpListIn_plain hgd fun _ hK' => wpIn_of_calm hF (by rw [ho]; rfl) (wp_load_row ty x ho g hx e vs.toArray (0, 0) d h hu hd (by rw [hi]; simp [hn]) (hK' _ _ hK))
end

/-- the letters that bits name, of the first j -/
def subTo (A : List UInt8) (bits j : Nat) : List UInt8 := ((List.range j).filter fun k => bits.testBit k).map fun k => A[k]?.getD 0
theorem subTo_succ (A : List UInt8) (bits j : Nat) : subTo A bits (j + 1) = subTo A bits j ++ if bits.testBit j = true then [A[j]?.getD 0] else [] := by
  unfold subTo
  rw [List.range_succ, List.filter_append, List.map_append]
  congr 1
  cases h : bits.testBit j <;> simp [h]
theorem subTo_all (A : List UInt8) (bits : Nat) : subTo A bits A.length = subS A bits := rfl
theorem marks_unset (f : Nat → Bool) (j : Nat) (h : f j = false) : (marksL f).set j (.bool false) = marksL f := by
  apply List.ext_getElem?
  intro i
  by_cases hj : j = i
  · subst hj
    by_cases hi : j < 26
    · rw [List.getElem?_set_self (by rw [marks_len]; exact hi), marks_get hi, h]
    · rw [List.getElem?_eq_none (by rw [List.length_set, marks_len]; omega), List.getElem?_eq_none (by rw [marks_len]; omega)]
  · rw [List.getElem?_set_ne hj]
theorem subTo_step {A : List UInt8} (hA : Rise A) (hs : ∀ c ∈ A, smallB c) (bits j : Nat) {c : UInt8} (hj : A[j]? = some c) :
    (marksL (marksOf (subTo A bits j))).set (nailB c) (.bool (bits.testBit j)) = marksL (marksOf (subTo A bits (j + 1))) := by
  have hc := hs c (List.mem_of_getElem? hj)
  obtain ⟨_, e2⟩ := let_nail c hc
  rw [subTo_succ, hj]
  cases h : bits.testBit j
  · rw [marks_unset]
    · simp
    · rw [Bool.eq_false_iff]
      intro hm
      obtain ⟨d, hd, e⟩ := mem_marks.1 hm
      unfold subTo at hd
      obtain ⟨k, hk, rfl⟩ := List.mem_map.1 hd
      rw [List.mem_filter, List.mem_range] at hk
      obtain ⟨hjl, _⟩ := List.getElem?_eq_some_iff.1 hj
      have hkA : A[k]? = some (A[k]?.getD 0) := by rw [List.getElem?_eq_getElem (by omega)]; rfl
      have hlt := rise_at hA hkA hj hk.1
      rw [u8_lt] at hlt
      have := hc.1
      omega
  · rw [marks_set, if_pos rfl, Option.getD_some, marksOf_snoc _ _ hc.1, e2]

theorem bit_i64 (k j : Nat) (hk : k < 1000000000) : (bits .and .i64 ((k : Int) / 2 ^ j) 1 == 1) = k.testBit j := by
  have e1 : ((k : Int) / 2 ^ j) = ((k / 2 ^ j : Nat) : Int) := by push_cast; rfl
  have hle : k / 2 ^ j ≤ k := Nat.div_le_self _ _
  rw [e1]
  generalize hq : k / 2 ^ j = q at *
  have h1 : (BitVec.ofInt 64 (q : Int)).toNat = q := by
    rw [BitVec.ofInt_natCast, BitVec.toNat_ofNat]; exact Nat.mod_eq_of_lt (by omega)
  have e2 : bits .and .i64 (q : Int) 1 = ((q % 2 : Nat) : Int) := by
    show IntKind.i64.wrap ((BitVec.ofInt 64 (q : Int) &&& BitVec.ofInt 64 1).toNat : Int) = _
    rw [BitVec.toNat_and, h1, show (BitVec.ofInt 64 1).toNat = 1 by decide, Nat.and_one_is_mod, IntKind.wrap_i64]
    omega
  rw [e2, Nat.testBit_eq_decide_div_mod_eq, hq, Bool.eq_iff_iff]
  simp
  omega

set_option maxRecDepth 100000 in
set_option maxHeartbeats 2000000 in
theorem subs1_in (n : Nat) (hn : 1 ≤ n) (l Bs : Nat) (f : Nat → Bool) (J Jx : List Nat → World → Prop)
    (hY : ∀ pre x W, J pre W → pre.length < 2 ^ (strN f).length → YieldAt Fence.wide (n - 1) Tryz.prog l #[nailsV (marksOf (subS (strN f) x))] W fun e W' =>
      (e = .returned (.bool true) ∧ J (pre ++ [x]) W' ∧ True) ∨ (e = .returned (.bool false) ∧ Jx (pre ++ [x]) W'))
    (hJ : ∀ s W W', J s W → Below W.heap.size W W' → J s W')
    (W : World) (hS : Blk W Bs 45 (marksL f)) (h0 : J [] W) :
    CallsIn Fence.wide n Tryz.prog 69 #[.func (.yield l) #[] #[], .pointer (some ⟨Bs, 0, none⟩)] W fun e W' => (∃ v, e = .returned v) ∧
      ((∃ ys, ys = List.range (2 ^ (strN f).length) ∧ J ys W') ∨ (∃ pre, Jx pre W')) := by
  have hst := String_any f W
  have hlen := strN_len f
  have hM := marks_len f
  have hri := strN_rise f
  have hsm : ∀ c ∈ strN f, smallB c := fun c hc => (mem_strN.1 hc).1
  unfold nailsV at hst
  generalize hMM : marksL f = M at *
  generalize hA : strN f = A at *
  obtain ⟨s, hs⟩ : ∃ s, strB A = s := ⟨_, rfl⟩
  have hsb : bts s = A := by rw [← hs]
  have hsz : A.length = s.size := by rw [← hs]; rfl
  rw [hs] at hst
  rw [hsz] at hY hlen ⊢
  obtain ⟨N, hN⟩ : ∃ N, 2 ^ s.size = N := ⟨_, rfl⟩
  have hNle : N ≤ 67108864 := by
    have := Nat.pow_le_pow_right (show 2 > 0 by omega) hlen
    omega
  have hw64 : wrap64 (2 ^ s.size) = (N : Int) := by
    have : ((2 : Int) ^ s.size) = ((2 ^ s.size : Nat) : Int) := by push_cast; rfl
    rw [this, hN]
    unfold wrap64
    omega
  rw [hN] at hY ⊢
  have HST := Lib.hid hst
  have HSB := Lib.hid hsb
  have HSZ := Lib.hid hsz
  have HM := Lib.hid hM
  have HS := Lib.hid hS
  have HN := Lib.hid hN
  have HY := Lib.hid hY
  have HJ := Lib.hid hJ
  have HRI := Lib.hid hri
  have HSM := Lib.hid hsm
  clear hst hsz hM hS hMM hA hs hY hJ hsb hri hsm hN
  refine callsIn_of_wp Tryz.func69 rfl trivial ?_ rfl
  simp only [Tryz.ntmps69, List.size_toArray, List.length_cons, List.length_nil, Nat.reduceAdd, Nat.reduceSub, Array.replicate_succ, Array.replicate_zero, List.push_toArray, List.append_toArray, List.nil_append, List.cons_append]
  refine wpIn_wide.2 ?_
  go_wp2_with (first
    | (with_reducible show wpList _ _ _ (Oper.mk _ (Op.load 45 _) _ _ _ _ :: _) _ _; (refine wpList_loadB HS.out Tryz.size45 HM.out Tryz.underlying45 rfl rfl _ rfl rfl ?_))
    | (go_at_call 48; refine HST.out.mono ?_; rintro e w1 ⟨rfl, hu1⟩))
  have hJ1 := HJ.out _ _ _ h0 hu1.below
  simp only [hw64]
  clear h0 hu1 hw64
  go_loopw [13] (fun iv wr => ∃ k : Nat, k ≤ N ∧ iv = .int .i64 k ∧ J (List.range k) wr) (fun iv _ => N - (intOf iv).toNat)
  case atStart => exact ⟨0, by omega, rfl, by simpa using hJ1⟩
  case round =>
    clear hJ1
    obtain ⟨k, hk, rfl, hJk⟩ := hrel
    obtain ⟨w2, rfl⟩ : ∃ w2, w2 = wr := ⟨_, rfl⟩
    by_cases hlt : k < N
    · have hb0 := Blk.new w2 45 (marksL fun _ => false)
      have hz := zero_marks
      have hB0 : Below w2.heap.size w2 (w2.alloc (.cells (marksL fun _ => false).toArray 45)) := (Below.refl _ _).alloc (Nat.le_refl _) _
      have HB0 := Lib.hid hb0
      have HBB0 := Lib.hid hB0
      clear hb0 hz hB0
      go_wp2_with fail
      go_loopw [18] (fun jv wx => ∃ j : Nat, j ≤ s.size ∧ jv = .int .i64 j ∧ Hid (Blk wx w2.heap.size 45 (marksL (marksOf (subTo A k j)))) ∧ Hid (Below w2.heap.size w2 wx)) (fun jv _ => s.size - (intOf jv).toNat)
      case atStart => exact ⟨0, by omega, rfl, HB0, HBB0⟩
      case round =>
        clear HB0 HBB0
        obtain ⟨j, hj, rfl, HB, HBB⟩ := hrel
        by_cases hlt2 : j < s.size
        · have hjA : A[j]? = some (s[j]'hlt2) := by rw [← HSB.out]; exact bts_get hlt2
          have hsmc := HSM.out _ (List.mem_of_getElem? hjA)
          have hlet : letter ((s[j]'hlt2).toNat : Int) = true := by unfold letter; have := hsmc.1; have := hsmc.2; simp; omega
          have hno := fun W => nailOf_any (s[j]'hlt2) W hlet
          have hn26 := nail_lt hlet
          have hcell := HB.out.cell (marks_get (f := marksOf (subTo A k j)) hn26)
          have hfree := HB.out.free (nailB (s[j]'hlt2))
          have hst := subTo_step HRI.out HSM.out k j hjA
          have HNO := Lib.hid hno
          have HST := Lib.hid hst
          clear hno hst hjA hsmc hlet
          go_wp2_with (go_at_call 33; refine (HNO.out _).mono ?_; rintro e w3 ⟨rfl, rfl⟩)
          have e3 := bit_i64 k j (by omega)
          rw [e3]
          have hset := HB.out.set (nailB (s[j]'hlt2)) (.bool (k.testBit j))
          rw [HST.out] at hset
          refine ⟨⟨j + 1, by omega, by go_num, hset, HBB.out.setCell (p := ⟨w2.heap.size, nailB (s[j]'hlt2), none⟩) (Nat.le_refl _) _⟩, ?_⟩
          simp [intOf]; omega
        · obtain rfl : j = s.size := by omega
          rw [← HSZ.out, subTo_all] at HB
          have hJ2 := HJ.out _ _ _ hJk HBB.out
          have hMlen := marks_len (marksOf (subS A k))
          obtain ⟨fn, tmps, assign, body, hy, hR⟩ := HY.out (List.range k) k wr hJ2 (by rw [List.length_range]; exact hlt)
          unfold nailsV at hy
          generalize marksL (marksOf (subS A k)) = M2 at *
          have HML := Lib.hid hMlen
          have HR := Lib.hid hR
          clear hMlen hR hJ2 hJk
          go_upto_region 10 with (fail)
          refine (wpIn_wide (n := n)).1 ?_
          gi_wp2_with ((with_reducible show wpListIn _ _ _ _ _ (Oper.mk _ (Op.load 45 _) _ _ _ _ :: _) _ _); refine wpListIn_loadB (fun _ => trivial) HB.out Tryz.size45 HML.out Tryz.underlying45 rfl rfl _ rfl rfl ?_)
          refine HR.out.mono ?_
          rintro e W3 (⟨rfl, hJ3, _⟩ | ⟨rfl, hJx3⟩)
          · have hJ4 : J (List.range (k + 1)) W3 := by rw [List.range_succ]; exact hJ3
            clear hJ3 HR hy HB
            gi_wp2
            go_wp2_with fail
            go_roundw
            case rel => exact ⟨k + 1, by omega, by go_num, hJ4⟩
            case measure => simp [intOf]; omega
          · gi_wp2
            go_wp2_with fail
            refine bodyPost_ret (results_none rfl _ _ _) rfl ?_
            exact ⟨⟨_, rfl⟩, .inr ⟨_, hJx3⟩⟩
    · obtain rfl : k = N := by omega
      go_wp2_with fail
      go_end0
      exact ⟨⟨_, rfl⟩, .inl ⟨_, rfl, hJk⟩⟩

theorem subs_stops (n : Nat) (hn : 1 ≤ n) (Bs : Nat) (f : Nat → Bool) (w : World) (hS : Blk w Bs 45 (marksL f)) :
    SeqStopsK Fence.wide n Tryz.prog 69 #[.pointer (some ⟨Bs, 0, none⟩)] (fun x : Nat => #[nailsV (marksOf (subS (strN f) x))]) (fun _ _ => True) (fun ys => ys = List.range (2 ^ (strN f).length)) (fun _ => True) (2 ^ (strN f).length) w :=
  fun l J Jx W hW hJ _ hY h0 => by
    refine (subs1_in n hn l Bs f J Jx hY ?_ W (hS.below hW hS.lt) h0).mono ?_
    · intro s A B hs hb
      exact hJ s A B none hs ⟨hb.os, hb.tape, hb.output, hb.size, fun k hk _ => hb.block k hk⟩ (fun r e => by cases e)
    · rintro e W' ⟨hv, ⟨ys, hys, h⟩ | ⟨pre, h⟩⟩
      · exact ⟨hv, .inl ⟨ys, hys, h⟩⟩
      · exact ⟨hv, .inr ⟨pre, trivial, h⟩⟩

set_option maxHeartbeats 1000000 in
theorem subsets_plain (f : Nat → Bool) (w : World) :
    Calls Tryz.prog 52 #[nailsV f] w fun e w' => e = .returned (.func (.func 69) #[] #[.pointer (some ⟨w.heap.size, 0, none⟩)]) ∧ w' = w.alloc (.cells (marksL f).toArray 45) := by
  unfold nailsV
  generalize marksL f = M
  go_enter Tryz.func52, Tryz.ntmps52
  go_wp2_with fail
  go_ret
  exact ⟨rfl, rfl⟩
end Go.Proofs.YtjdmmgaddbleeaaGreat

/- Slices of sets of nails: how they lie; ContainsFunc; the closure of least: the walks. -/
namespace Go.Proofs.YtjdmmgaddbleeaaGreat
open Go.RowKit Go.Shelf

abbrev NS := Nat → Bool
/-- the cells of some sets, one behind the other -/
def flatN (fs : List NS) : List Value := (fs.map marksL).flatten
theorem flatN_len (fs : List NS) : (flatN fs).length = fs.length * 26 := by
  induction fs with
  | nil => rfl
  | cons f fs ih =>
    have : flatN (f :: fs) = marksL f ++ flatN fs := rfl
    rw [this, List.length_append, ih, marks_len, List.length_cons]
    omega
theorem flatN_snoc (fs : List NS) (f : NS) : flatN (fs ++ [f]) = flatN fs ++ marksL f := by
  unfold flatN; simp
theorem flatN_get : ∀ {fs : List NS} {j : Nat} {f : NS}, fs[j]? = some f → ∀ i, i < 26 → (flatN fs)[j * 26 + i]? = some (.bool (f i))
  | [], j, f, h, i, hi => by simp at h
  | g :: fs, 0, f, h, i, hi => by
    simp at h; subst h
    have : flatN (g :: fs) = marksL g ++ flatN fs := rfl
    rw [this, List.getElem?_append_left (by rw [marks_len]; omega), Nat.zero_mul, Nat.zero_add, marks_get hi]
  | g :: fs, j + 1, f, h, i, hi => by
    have : flatN (g :: fs) = marksL g ++ flatN fs := rfl
    rw [this, List.getElem?_append_right (by rw [marks_len]; omega), marks_len, show (j + 1) * 26 + i - 26 = j * 26 + i by omega]
    exact flatN_get (by simpa using h) i hi

/-- the slice v holds the sets fs, in a block from base on -/
def SetsAt (w : World) (base : Nat) (v : Value) (fs : List NS) : Prop :=
  (v = .slice none 0 0 ∧ fs = []) ∨ ∃ g cap, v = .slice (some ⟨g, 0, none⟩) fs.length cap ∧ base ≤ g ∧ g < w.heap.size ∧ fs.length ≤ cap ∧ cap ≤ maxLen ∧
    ∀ (j : Nat) (f : NS), fs[j]? = some f → ∀ i, i < 26 → w.cell? ⟨g, j * 26 + i, none⟩ = some (.bool (f i)) ∧ w.frozen? ⟨g, j * 26 + i, none⟩ = false
theorem SetsAt.keep {w w' : World} {base : Nat} {v : Value} {fs : List NS} (h : SetsAt w base v fs) (hb : Below w.heap.size w w') : SetsAt w' base v fs := by
  rcases h with h | ⟨g, cap, h1, h2, h3, h4, h5, h6⟩
  · exact .inl h
  · exact .inr ⟨g, cap, h1, h2, Nat.lt_of_lt_of_le h3 hb.size, h4, h5, fun j f hj i hi => ⟨(hb.cell (p := ⟨g, j * 26 + i, none⟩) h3).trans (h6 j f hj i hi).1, (hb.frozen (p := ⟨g, j * 26 + i, none⟩) h3).trans (h6 j f hj i hi).2⟩⟩
theorem SetsAt.shape {w : World} {base : Nat} {v : Value} {fs : List NS} (h : SetsAt w base v fs) {n : Nat} (hn : fs.length = n) : ∃ a c, v = .slice a n c ∧ n ≤ c ∧ c ≤ 9223372036854775807 := by
  subst hn
  rcases h with ⟨rfl, rfl⟩ | ⟨g, cap, rfl, _, _, h4, h5, _⟩
  · exact ⟨_, _, rfl, by simp, by simp⟩
  · exact ⟨_, _, rfl, h4, by unfold maxLen at h5; omega⟩
theorem SetsAt.at_ {w : World} {base : Nat} {a : Option Addr} {n c : Nat} {fs : List NS} (h : SetsAt w base (.slice a n c) fs) {k : Nat} (hk : k < n) :
    ∃ g f, a = some ⟨g, 0, none⟩ ∧ Hid (fs[k]? = some f) ∧ w.rangeAt g (k * 26) (marksL f) := by
  rcases h with ⟨h, _⟩ | ⟨g, cap, h1, h2, h3, h4, h5, h6⟩
  · simp at h; omega
  · simp at h1
    obtain ⟨rfl, rfl, rfl⟩ := h1
    have e : fs[k]? = some fs[k] := List.getElem?_eq_getElem hk
    refine ⟨g, fs[k], rfl, e, fun j v hj => ?_⟩
    have hj26 : j < 26 := by
      rcases Nat.lt_or_ge j 26 with h | h
      · exact h
      · rw [List.getElem?_eq_none (by rw [marks_len]; exact h)] at hj; cases hj
    rw [marks_get hj26] at hj
    cases hj
    exact (h6 k _ e j hj26).1
/-- what a list of the call's own holds -/
abbrev OwnS (w : World) (base : Nat) (v : Value) (fs : List NS) : Prop := w.ownsRow base 45 26 v fs.length (flatN fs)
theorem OwnS.sets {w : World} {base : Nat} {v : Value} {fs : List NS} (h : OwnS w base v fs) : SetsAt w base v fs := by
  rcases id h.2 with ⟨rfl, hz⟩ | ⟨g, cap, cur, rfl, hb, hg, hn, hm, hc, ht⟩
  · exact .inl ⟨rfl, List.eq_nil_of_length_eq_zero hz⟩
  · refine .inr ⟨g, cap, rfl, hb, (Array.getElem?_eq_some_iff.1 hg).1, hn, hm, fun j f hj i hi => ⟨?_, frozen_of_row w g _ cur 45 hg⟩⟩
    obtain ⟨hjl, _⟩ := List.getElem?_eq_some_iff.1 hj
    rw [World.ownsRow.cellAt h (j * 26 + i) (by omega)]
    exact flatN_get hj i hi

theorem flat_oneCell (fs : List NS) : ∀ v ∈ flatN fs, v.oneCell' = true := by
  intro v hv
  unfold flatN at hv
  rw [List.mem_flatten] at hv
  obtain ⟨l, hl, hvl⟩ := hv
  obtain ⟨f, _, rfl⟩ := List.mem_map.1 hl
  exact marks_one f v hvl

/-- ContainsFunc over such a slice. -/
theorem containsF_some (p : NS → Bool) (g : Nat) (lb : Array Value) (eg : ∀ args w, (callFunc g args).run Tryz.prog w = .ok (.enter g args) w) (base : Nat) (v : Value) (fs : List NS) (w : World) (hv : SetsAt w base v fs) (h0 : fs ≠ [])
    (hp : PredBelow Tryz.prog g lb (fun x => nailsV x) p w) :
    Calls Tryz.prog 53 #[v, .func (.func g) #[] lb] w fun e w' => e = .returned (.bool (fs.any p)) ∧ Below w.heap.size w w' := by
  rcases hv with ⟨_, h⟩ | ⟨b, cap, rfl, h2, h3, h4, h5, h6⟩
  · exact absurd h h0
  have := Tryz.slices_ContainsFunc 26 Tryz.isAgg45 Tryz.sizeOf45 marksL marks_len p g lb eg b 0 fs.length cap fs w hp (Nat.le_refl _) (by unfold maxLen at h5; omega) h3 ?_
  · rwa [List.take_of_length_le (Nat.le_refl _)] at this
  · intro j hj i u hu
    have hi : i < 26 := by
      rcases Nat.lt_or_ge i 26 with h | h
      · exact h
      · rw [List.getElem?_eq_none (by rw [marks_len]; exact h)] at hu; cases hu
    have e : fs[j]? = some fs[j]! := by rw [List.getElem?_eq_getElem hj, List.getElem!_eq_getElem?_getD, List.getElem?_eq_getElem hj]; rfl
    rw [marks_get hi] at hu
    cases hu
    rw [Nat.zero_add]
    exact (h6 j _ e i hi).1
set_option maxHeartbeats 400000 in
theorem indexF_none (a : Option Addr) (c : Nat) (fv : Value) (w : World) : Calls Tryz.prog 70 #[.slice a 0 c, fv] w fun e w' => e = .returned (.int .i64 (-1)) ∧ w' = w := by
  go_enter Tryz.func70, Tryz.ntmps70
  go_wp2_with fail
  go_loop [8] (fun iv => iv = .int .i64 0) (fun _ => 0)
  case atStart => rfl
  case round =>
    subst hrel
    go_wp2_with fail
    go_ret
    exact ⟨rfl, rfl⟩
theorem containsF_none (a : Option Addr) (c : Nat) (fv : Value) (w : World) : Calls Tryz.prog 53 #[.slice a 0 c, fv] w fun e w' => e = .returned (.bool false) ∧ w' = w := by
  go_enter Tryz.func53, Tryz.ntmps53
  go_wp2_with (go_at_call 70; refine (indexF_none _ _ _ _).mono ?_; rintro e w1 ⟨rfl, rfl⟩)
  go_ret
  exact ⟨rfl, rfl⟩
theorem containsF_any (p : NS → Bool) (g : Nat) (lb : Array Value) (eg : ∀ args w, (callFunc g args).run Tryz.prog w = .ok (.enter g args) w) (base : Nat) (v : Value) (fs : List NS) (w : World) (hv : SetsAt w base v fs)
    (hp : PredBelow Tryz.prog g lb (fun x => nailsV x) p w) :
    Calls Tryz.prog 53 #[v, .func (.func g) #[] lb] w fun e w' => e = .returned (.bool (fs.any p)) ∧ Below w.heap.size w w' := by
  by_cases h0 : fs = []
  · subst h0
    obtain ⟨a, c, rfl, _, _⟩ := hv.shape (n := 0) rfl
    refine (containsF_none _ _ _ _).mono ?_
    rintro e w' ⟨rfl, rfl⟩
    exact ⟨rfl, Below.refl _ _⟩
  · exact containsF_some p g lb eg base v fs w hv h0 hp

/-- The closure of least: whether the set in the box contains a set. -/
theorem in_pred (Bx : Nat) (s : NS) (w : World) (hb : Blk w Bx 45 (marksL s)) : PredBelow Tryz.prog 54 #[.pointer (some ⟨Bx, 0, none⟩)] (fun x => nailsV x) (fun x => inM x s) w := by
  intro W x hB
  have hb2 := hb.below hB hb.lt
  have hin := fun W => in_any x s W
  show Calls Tryz.prog 54 #[nailsV x, .pointer (some ⟨Bx, 0, none⟩)] W fun e w' => e = .returned (.bool (inM x s)) ∧ Below w.heap.size w w'
  have hm1 := marks_len x
  have hm2 := marks_len s
  have hbx := Blk.new W 45 (marksL x)
  have hbs := hb2.alloc (.cells (marksL x).toArray 45)
  unfold nailsV at hin ⊢
  generalize marksL x = M at *
  generalize marksL s = N at *
  generalize inM x s = R at *
  have HIN := Lib.hid hin
  have HM1 := Lib.hid hm1
  have HM2 := Lib.hid hm2
  have HBX := Lib.hid hbx
  have HBS := Lib.hid hbs
  have HBB := Lib.hid hB
  clear hin hm1 hm2 hbx hbs hb2 hb hB
  go_enter Tryz.func54, Tryz.ntmps54
  go_wp2_with (first
    | ((with_reducible show wpList _ _ _ (Oper.mk _ (Op.load 45 (.tmp 2)) _ _ _ _ :: _) _ _); refine wpList_loadB HBX.out Tryz.size45 HM1.out Tryz.underlying45 rfl rfl _ rfl rfl ?_)
    | ((with_reducible show wpList _ _ _ (Oper.mk _ (Op.load 45 (.tmp 1)) _ _ _ _ :: _) _ _); refine wpList_loadB HBS.out Tryz.size45 HM2.out Tryz.underlying45 rfl rfl _ rfl rfl ?_)
    | (go_at_call 55; refine (HIN.out _).mono ?_; rintro e w1 ⟨rfl, hb1⟩))
  go_ret
  exact ⟨rfl, HBB.out.trans ((((Below.refl _ _).alloc (Nat.le_refl _) _).trans (hb1.mono (B' := W.heap.size) (by simp))).mono HBB.out.size)⟩
end Go.Proofs.YtjdmmgaddbleeaaGreat

/- The order of sets: the closure of sorted, and sorted: the walks. -/
namespace Go.Proofs.YtjdmmgaddbleeaaGreat
open Go.RowKit Go.Shelf

/-- what the closure keeps while it compares -/
def S89 (w : World) (g1 g2 : Nat) (M N : List Value) (wx : World) : Prop := wx.rangeAt g1 0 M ∧ wx.rangeAt g2 0 N ∧ Up w.heap.size w wx
theorem S89.draw {w : World} {g1 g2 : Nat} {M N : List Value} {wx : World} (h : S89 w g1 g2 M N wx) : S89 w g1 g2 M N wx.drew := ⟨h.1, h.2.1, h.2.2.drew⟩
theorem S89.keep {w : World} {g1 g2 : Nat} {M N : List Value} {wx wy : World} (h : S89 w g1 g2 M N wx) (hu : Up wx.heap.size wx wy) : S89 w g1 g2 M N wy :=
  ⟨range_keep h.1 hu.below, range_keep h.2.1 hu.below, h.2.2.trans (hu.mono h.2.2.below.size)⟩

abbrev cmpN (f g : NS) : Int := Lib.compareBytes (strN f) (strN g)
set_option maxRecDepth 100000 in
set_option maxHeartbeats 2000000 in
theorem cmp_any (f g : NS) (w : World) : Calls Tryz.prog 72 #[nailsV f, nailsV g] w fun e w' => e = .returned (.int .i64 (cmpN f g)) ∧ Up w.heap.size w w' := by
  have hf := fun W => String_any f W
  have hg := fun W => String_any g W
  have hc := fun W => Tryz.strings_Compare (strB (strN f)) (strB (strN g)) W
  have hm1 := marks_len f
  have hm2 := marks_len g
  have hS : S89 w w.heap.size (w.heap.size + 1) (marksL f) (marksL g) ((w.alloc (.cells (marksL f).toArray 45)).alloc (.cells (marksL g).toArray 45)) := by
    have h2 := Blk.new (w.alloc (.cells (marksL f).toArray 45)) 45 (marksL g)
    rw [World.size_alloc] at h2
    exact ⟨((Blk.new w 45 (marksL f)).alloc _).range, h2.range, ((Up.refl _ _).alloc (Nat.le_refl _) _).alloc (by simp) _⟩
  have hcc : Lib.compareBytes (strB (strN f)).data.toList (strB (strN g)).data.toList = cmpN f g := rfl
  rw [hcc] at hc
  unfold nailsV at hf hg ⊢
  generalize cmpN f g = R at *
  generalize marksL f = M at *
  generalize marksL g = N at *
  generalize strB (strN f) = s at *
  generalize strB (strN g) = t at *
  have HF := Lib.hid hf
  have HG := Lib.hid hg
  have HC := Lib.hid hc
  have HS := Lib.hid hS
  have hu := Tryz.underlying45
  have hi1 : (Tryz.prog.info? 45).map (·.size) = some M.length := by rw [Tryz.size45, hm1]
  have hi2 : (Tryz.prog.info? 45).map (·.size) = some N.length := by rw [Tryz.size45, hm2]
  have HI1 := Lib.hid hi1
  have HI2 := Lib.hid hi2
  clear hf hg hc hcc hm1 hm2 hS hi1 hi2 hu
  go_enter Tryz.func72, Tryz.ntmps72
  go_wp2_with fail
  obtain ⟨hS1, hS2, hS3⟩ := HS.out
  have hi1 := HI1.out
  have hi2 := HI2.out
  have hu := Tryz.underlying45
  clear HS
  clear hi1 hi2 hu
  refine wp_region_held_drew (S := S89 w w.heap.size (w.heap.size + 1) M N) (by kernel_rfl) (S89.draw ⟨hS1, hS2, hS3⟩) (fun hHeld => ?_)
  refine' wpAnyH_take (i := 0) (oi := _) (v := _) rfl (by kernel_rfl) (by kernel_rfl) (by kernel_rfl) (fun _ _ _ h => h) (yieldsIf_load_mid (by rfl) _ _ rfl _ _ rfl _ _ (fun _ h => h.1) Tryz.underlying45 rfl HI1.out) hHeld ?_
  simp only [Act.put]
  refine' wpAnyH_take (i := 2) (oi := _) (v := _) rfl (by kernel_rfl) (by kernel_rfl) (by kernel_rfl) (fun _ _ _ h => h) (yieldsIf_load_mid (by rfl) _ _ rfl _ _ rfl _ _ (fun _ h => h.2.1) Tryz.underlying45 rfl HI2.out) hHeld ?_
  simp only [Act.put]
  refine wpAnyH_ready (rs := [1]) (by kernel_rfl) (by simp) ?_
  refine AllReadyH.cons (o := _) rfl (fun K hK => ?_) AllReadyH.nil
  go_simp
  refine (HF.out _).mono ?_
  rintro e w1 ⟨rfl, hu1⟩
  refine hK.out _ _ (hHeld.keep hu1) (fun hHeld => ?_)
  clear hK K
  try simp only [Act.put, List.setIfInBounds_toArray, List.set_cons_zero, List.set_cons_succ]
  refine wpAnyH_ready (rs := [3]) (by kernel_rfl) (by simp) ?_
  refine AllReadyH.cons (o := _) rfl (fun K hK => ?_) AllReadyH.nil
  go_simp
  refine (HG.out _).mono ?_
  rintro e w2 ⟨rfl, hu2⟩
  refine hK.out _ _ (hHeld.keep hu2) (fun hHeld => ?_)
  clear hK K
  try simp only [Act.put, List.setIfInBounds_toArray, List.set_cons_zero, List.set_cons_succ]
  refine wpAnyH_ready (rs := [4]) (by kernel_rfl) (by simp) ?_
  refine AllReadyH.cons (o := _) rfl (fun K hK => ?_) AllReadyH.nil
  go_simp
  refine (HC.out _).mono ?_
  rintro e w3 ⟨rfl, rfl⟩
  refine hK.out _ _ hHeld (fun hHeld => ?_)
  clear hK K
  try simp only [Act.put, List.setIfInBounds_toArray, List.set_cons_zero, List.set_cons_succ]
  refine wpAnyH_ready (rs := [5]) (by kernel_rfl) (by simp) ?_
  refine AllReadyH.cons (o := _) rfl (fun K hK => ?_) AllReadyH.nil
  go_simp
  refine hK.out _ _ hHeld (fun hHeld => ?_)
  clear hK K
  try simp only [Act.put, List.setIfInBounds_toArray, List.set_cons_zero, List.set_cons_succ]
  refine wpAnyH_done (by kernel_rfl) ?_ _
  go_wp2
  go_ret
  exact ⟨rfl, hHeld.2.2⟩
end Go.Proofs.YtjdmmgaddbleeaaGreat

/- Plain laws of the order of strings. -/
namespace Go.Proofs.YtjdmmgaddbleeaaGreat
open Go.RowKit

/-- a string ahead of another one -/
def ltB : List UInt8 → List UInt8 → Bool
  | [], [] => false
  | [], _ :: _ => true
  | _ :: _, [] => false
  | a :: xs, b :: ys => if a < b then true else if b < a then false else ltB xs ys
theorem ltB_cmp : ∀ (a b : List UInt8), decide (Lib.compareBytes a b < 0) = ltB a b
  | [], [] => rfl
  | [], _ :: _ => rfl
  | _ :: _, [] => rfl
  | a :: xs, b :: ys => by
    rw [Lib.compareBytes, ltB]
    split
    · rfl
    · split
      · rfl
      · exact ltB_cmp xs ys
theorem ltB_irr : ∀ a, ltB a a = false
  | [] => rfl
  | a :: xs => by rw [ltB, if_neg (u8_irr a), if_neg (u8_irr a)]; exact ltB_irr xs
theorem u8_tri (a b : UInt8) : a < b ∨ a = b ∨ b < a := by
  simp only [u8_lt]
  rcases Nat.lt_trichotomy a.toNat b.toNat with h | h | h
  · exact .inl h
  · exact .inr (.inl (UInt8.toNat_inj.1 h))
  · exact .inr (.inr h)
theorem ltB_cons (a b : UInt8) (xs ys : List UInt8) : ltB (a :: xs) (b :: ys) = true ↔ a < b ∨ (a = b ∧ ltB xs ys = true) := by
  rw [ltB]
  rcases u8_tri a b with h | h | h
  · rw [if_pos h]; simp [h]
  · subst h; rw [if_neg (u8_irr a), if_neg (u8_irr a)]; simp
  · have h1 : ¬ a < b := by rw [u8_lt] at *; omega
    have h2 : a ≠ b := by rintro rfl; exact u8_irr a h
    rw [if_neg h1, if_pos h]; simp [h1, h2]
theorem ltB_tr : ∀ (a b c : List UInt8), ltB a b = true → ltB b c = true → ltB a c = true
  | [], [], _, h, _ => by simp [ltB] at h
  | [], _ :: _, [], _, h => by simp [ltB] at h
  | [], _ :: _, _ :: _, _, _ => rfl
  | _ :: _, [], _, h, _ => by simp [ltB] at h
  | _ :: _, _ :: _, [], _, h => by simp [ltB] at h
  | a :: xs, b :: ys, c :: zs, h1, h2 => by
    rw [ltB_cons] at *
    rcases h1 with h1 | ⟨rfl, h1⟩
    · rcases h2 with h2 | ⟨rfl, h2⟩
      · exact .inl (u8_tr _ _ _ h1 h2)
      · exact .inl h1
    · rcases h2 with h2 | ⟨rfl, h2⟩
      · exact .inl h2
      · exact .inr ⟨rfl, ltB_tr xs ys zs h1 h2⟩
theorem ltB_tri : ∀ (a b : List UInt8), ltB a b = true ∨ a = b ∨ ltB b a = true
  | [], [] => .inr (.inl rfl)
  | [], _ :: _ => .inl rfl
  | _ :: _, [] => .inr (.inr rfl)
  | a :: xs, b :: ys => by
    rw [ltB_cons, ltB_cons]
    rcases u8_tri a b with h | h | h
    · exact .inl (.inl h)
    · subst h
      rcases ltB_tri xs ys with h | h | h
      · exact .inl (.inr ⟨rfl, h⟩)
      · exact .inr (.inl (by rw [h]))
      · exact .inr (.inr (.inr ⟨rfl, h⟩))
    · exact .inr (.inr (.inl h))
theorem ltB_asym {a b : List UInt8} (h : ltB a b = true) : ltB b a = false := by
  rw [Bool.eq_false_iff]
  intro h2
  have := ltB_tr a b a h h2
  rw [ltB_irr] at this
  cases this
theorem ltB_ntr (a b c : List UInt8) (h1 : ltB a b = false) (h2 : ltB b c = false) : ltB a c = false := by
  rw [Bool.eq_false_iff] at *
  intro h
  rcases ltB_tri a b with h3 | h3 | h3
  · exact h1 h3
  · subst h3; exact h2 h
  · exact h2 (ltB_tr _ _ _ h3 h)

/-- strings in strict order -/
abbrev Asc (l : List (List UInt8)) : Prop := l.Pairwise fun a b => ltB a b = true
theorem asc_ext {l m : List (List UInt8)} (hl : Asc l) (hm : Asc m) (h : ∀ x, x ∈ l ↔ x ∈ m) : l = m :=
  pw_ext (fun a h => by rw [ltB_irr] at h; cases h) (fun a b c h1 h2 => ltB_tr a b c h1 h2) l m hl hm h
/-- no later one is ahead, and none stands twice: strict order -/
theorem asc_of {l : List (List UInt8)} (h : l.Pairwise fun a b => ltB b a = false) (hn : l.Nodup) : Asc l := by
  have h2 := h.and hn
  refine h2.imp ?_
  rintro a b ⟨h3, h4⟩
  rcases ltB_tri a b with h5 | h5 | h5
  · exact h5
  · exact absurd h5 h4
  · rw [h5] at h3; cases h3
end Go.Proofs.YtjdmmgaddbleeaaGreat

/- sorted: the walk. -/
namespace Go.Proofs.YtjdmmgaddbleeaaGreat
open Go.RowKit Go.Shelf Go.Sort

theorem cmpN_lt (f g : NS) : ltOf cmpN f g = ltB (strN f) (strN g) := ltB_cmp _ _
theorem cmpN_swo : SWO (ltOf cmpN) where
  irrefl x := by rw [cmpN_lt]; exact ltB_irr _
  trans x y z h1 h2 := by rw [cmpN_lt] at *; exact ltB_tr _ _ _ h1 h2
  ntrans x y z h1 h2 := by rw [cmpN_lt] at *; exact ltB_ntr _ _ _ h1 h2
theorem cmpN_lays (blk off size : Nat) (w : World) : CmpLays Tryz.prog 72 #[] marksL 26 cmpN blk off size w :=
  fun _ _ _ _ x y => ((cmp_any x y _).mono fun _ _ ⟨he, hu⟩ => ⟨he, hu.grow⟩ : Calls _ _ _ _ _)

/-- sets in the order of their strings -/
abbrev InOrder (fs : List NS) : Prop := fs.Pairwise fun f g => ltB (strN g) (strN f) = false

theorem below_sort {B blk off n : Nat} {d' : Array NS} {os : Array Obj} {w : World} (hB : B ≤ blk) (hB2 : B ≤ w.heap.size) : Below B w (sortWorldK marksL 26 w blk off n d' os) := by
  refine ⟨rfl, rfl, rfl, ?_, fun k hk => ?_⟩
  · simp [sortWorldK, grow, putRowK, putRow, mapBlock, Sort.ahead]
  · have e1 : (sortWorldK marksL 26 w blk off n d' os).heap[k]? = (putRowK marksL 26 (Sort.ahead w n) blk off d').heap[k]? :=
      heap_grow_old _ os (by simp [putRowK, putRow, mapBlock, Sort.ahead]; omega)
    rw [e1]
    show ((w.heap.modify blk _)[k]?) = _
    rw [Array.getElem?_modify]
    rw [if_neg (by omega)]

theorem grown_sort {blk off n : Nat} {d' : Array NS} {os : Array Obj} {w : World} : w.grownBy (sortWorldK marksL 26 w blk off n d' os) (some blk) := by
  have hb := below_sort (B := 0) (blk := blk) (off := off) (n := n) (d' := d') (os := os) (w := w) (Nat.zero_le _) (Nat.zero_le _)
  refine ⟨hb.os, hb.tape, hb.output, hb.size, fun k hk hne => ?_⟩
  have e1 : (sortWorldK marksL 26 w blk off n d' os).heap[k]? = (putRowK marksL 26 (Sort.ahead w n) blk off d').heap[k]? :=
    heap_grow_old _ os (by simp [putRowK, putRow, mapBlock, Sort.ahead]; omega)
  rw [e1]
  show ((w.heap.modify blk _)[k]?) = _
  rw [Array.getElem?_modify]
  rw [if_neg (by rintro rfl; exact hne rfl)]

set_option maxRecDepth 100000 in
set_option maxHeartbeats 400000 in
theorem sorted_any (base : Nat) (v : Value) (fs : List NS) (w : World) (hv : SetsAt w base v fs) (hl : fs.length ≤ 1000000000) :
    Calls Tryz.prog 56 #[v] w fun e w' => e = .returned v ∧ (∃ fs', fs'.Perm fs ∧ InOrder fs' ∧ SetsAt w' base v fs') ∧ w.grownBy w' v.ownBlock := by
  by_cases h0 : fs = []
  · subst h0
    obtain ⟨a, c, rfl, _, _⟩ := hv.shape (n := 0) rfl
    have hno := fun p cap fv w => Tryz.slices_SortFunc_none (α := NS) p cap fv w
    have HV := Lib.hid hv
    clear hv
    go_enter Tryz.func56, Tryz.ntmps56
    go_wp2_with (go_at_call 71; refine (hno _ _ _ _).mono ?_; rintro e w1 ⟨rfl, rfl⟩)
    go_ret
    exact ⟨rfl, ⟨[], List.Perm.refl _, List.Pairwise.nil, HV.out⟩, ⟨rfl, rfl, rfl, Nat.le_refl _, fun _ _ _ => rfl⟩⟩
  · rcases hv with ⟨_, h⟩ | ⟨b, cap, rfl, h2, h3, h4, h5, h6⟩
    · exact absurd h h0
    have hH : HoldsK marksL 26 w b 0 fs.toArray := by
      intro t ht
      have ht2 : t < fs.length * 26 := by simpa [flatK] using ht
      rw [get_flatK _ _ _ _ (by simpa using ht2)]
      have hj : t / 26 < fs.length := by omega
      have hi : t % 26 < 26 := by omega
      obtain ⟨h7, h8⟩ := h6 (t / 26) fs[t / 26] (List.getElem?_eq_getElem hj) (t % 26) hi
      rw [show t / 26 * 26 + t % 26 = t by omega] at h7 h8
      rw [Nat.zero_add, h7, h8]
      refine ⟨?_, rfl⟩
      have e1 : (fs.toArray)[t / 26]! = fs[t / 26] := by simp [hj]
      have e2 : (marksL fs[t / 26])[t % 26]! = .bool (fs[t / 26] (t % 26)) := by
        rw [List.getElem!_eq_getElem?_getD, marks_get hi]; rfl
      rw [e1, e2]; rfl
    have eg : ∀ args w, (callFunc 72 args).run Tryz.prog w = .ok (.enter 72 args) w := enters_of Tryz.func72 (by kernel_rfl) rfl
    have hcon := Tryz.slices_SortFunc 26 Tryz.isAgg45 Tryz.sizeOf45 marksL marks_len marks_one cmpN cmpN_swo 72 #[] b 0 cap fs.toArray w eg (cmpN_lays _ _ _ _) hH h3 (by simp; omega)
    have hsz : fs.toArray.size = fs.length := by simp
    rw [hsz] at hcon
    have hfin : ∀ d' n os, PermIn 0 fs.length fs.toArray d' → SortedIn (ltOf cmpN) 0 fs.length d' → ∃ fs', fs'.Perm fs ∧ InOrder fs' ∧ SetsAt (sortWorldK marksL 26 w b 0 n d' os) base (.slice (some ⟨b, 0, none⟩) fs.length cap) fs' := by
      intro d' n os hp hs
      obtain ⟨p1, p2, p3⟩ := hp
      have p1' : d'.size = fs.length := by simpa using p1
      refine ⟨d'.toList, ?_, ?_, ?_⟩
      · have e1 : d'.extract 0 fs.length = d' := by rw [← p1']; exact Array.extract_size
        have e2 : fs.toArray.extract 0 fs.length = fs.toArray := by
          have := Array.extract_size (xs := fs.toArray)
          rwa [List.size_toArray] at this
        rw [e1, e2] at p3
        simpa using p3
      · unfold InOrder
        rw [List.pairwise_iff_getElem]
        intro i j hi hj hij
        have := hs i j (by omega) hij (by simp at hj; omega)
        rw [cmpN_lt] at this
        have a1 : d'[i]! = d'.toList[i] := by simp at hi; simp [hi]
        have a2 : d'[j]! = d'.toList[j] := by simp at hj; simp [hj]
        rw [a1, a2] at this
        exact this
      · have hH2 : HoldsK marksL 26 (sortWorldK marksL 26 w b 0 n d' os) b 0 d' := by
          refine holdsK_grow _ _ _ _ _ _ _ ?_ (holdsK_putRowK _ _ _ _ _ fs.toArray _ (holdsK_ahead _ _ _ _ _ _ _ hH) (by simp [p1']))
          simp [putRowK, putRow, mapBlock, Sort.ahead]; exact h3
        refine .inr ⟨b, cap, by simp [p1'], h2, ?_, by simp [p1']; exact h4, h5, ?_⟩
        · have := (below_sort (B := b) (blk := b) (off := 0) (n := n) (d' := d') (os := os) (w := w) (Nat.le_refl _) (by omega)).size
          omega
        · intro j f hj i hi
          have hjs : j < d'.size := by
            obtain ⟨h, _⟩ := List.getElem?_eq_some_iff.1 hj
            simpa using h
          have := hH2.cell hjs hi
          rw [Nat.zero_add] at this
          have e1 : d'[j]! = f := by
            have hj2 : d'.toList[j]? = some d'[j]! := by simp [hjs]
            rw [hj2] at hj
            exact Option.some.inj hj
          have e2 : (marksL f)[i]! = .bool (f i) := by rw [List.getElem!_eq_getElem?_getD, marks_get hi]; rfl
          rw [e1, e2] at this
          exact this
    have hbel := fun n d' os => grown_sort (blk := b) (off := 0) (n := n) (d' := d') (os := os) (w := w)
    have HC := Lib.hid hcon
    have HF := Lib.hid hfin
    have HB := Lib.hid hbel
    clear hcon hfin hbel hH h6 hsz eg
    go_enter Tryz.func56, Tryz.ntmps56
    go_wp2_with (go_at_call 71; refine HC.out.mono ?_; rintro e w1 ⟨rfl, d', n, os, hp, hs, rfl⟩)
    go_ret
    exact ⟨rfl, HF.out _ _ _ hp hs, HB.out _ _ _⟩
end Go.Proofs.YtjdmmgaddbleeaaGreat

/- The least sets with a property: the walk. -/
namespace Go.Proofs.YtjdmmgaddbleeaaGreat
open Go.RowKit Go.Shelf
attribute [local go_sem] Oper.semAt_some

/-- the sets found, having seen some -/
def outOf (A : List UInt8) (p : List UInt8 → Bool) (pre : List Nat) : List Nat := pre.foldl (fun out x => if (!(out.any fun o => subL (subS A o) (subS A x)) && p (subS A x)) = true then out ++ [x] else out) []
theorem outOf_snoc (A : List UInt8) (p : List UInt8 → Bool) (pre : List Nat) (x : Nat) :
    outOf A p (pre ++ [x]) = if (!((outOf A p pre).any fun o => subL (subS A o) (subS A x)) && p (subS A x)) = true then outOf A p pre ++ [x] else outOf A p pre := by
  unfold outOf; rw [List.foldl_append]; rfl
theorem outOf_len (A : List UInt8) (p : List UInt8 → Bool) (pre : List Nat) : (outOf A p pre).length ≤ pre.length := by
  suffices H : ∀ (n : Nat) (pre : List Nat), pre.length = n → (outOf A p pre).length ≤ n from H _ _ rfl
  intro n
  induction n with
  | zero => intro pre h; obtain rfl := List.eq_nil_of_length_eq_zero h; simp [outOf]
  | succ n ih =>
    intro pre h
    rcases List.eq_nil_or_concat pre with rfl | ⟨l, x, rfl⟩
    · simp at h
    · rw [List.concat_eq_append] at *
      have := ih l (by simpa using h)
      rw [outOf_snoc]
      split
      · simp; omega
      · omega
abbrev setB (A : List UInt8) (x : Nat) : NS := marksOf (subS A x)
theorem strN_setB {A : List UInt8} (hA : Rise A) (hs : ∀ c ∈ A, smallB c) (x : Nat) : strN (setB A x) = subS A x :=
  strN_marks (isSet_zero.2 ⟨fun c hc => hs c (subS_mem hc), subS_rise hA x⟩)
theorem outOf_any {A : List UInt8} (hA : Rise A) (hs : ∀ c ∈ A, smallB c) (l : List Nat) (x : Nat) :
    (l.map (setB A)).any (fun f => inM f (setB A x)) = l.any fun o => subL (subS A o) (subS A x) := by
  rw [List.any_map]
  congr 1
  funext o
  show inM _ _ = _
  rw [inM_sub, strN_setB hA hs, strN_setB hA hs]

section
variable {F : Fence} {n : Nat} {P : Program} {w : World} {ops : Array Oper} {rest : List Oper} {o : Oper} {a : Act} {Q : Exit → Act → World → Prop}
theorem wpListIn_storeB (hF : ∀ f, F.fn f) {g : Nat} {e : TypeId} {us vs : List Value} (h : Blk w g e us) {ty : TypeId} {k : Nat} (hi : (P.info? ty).map (·.size) = some k) (hn : vs.length = k) (hl : us.length = vs.length)
    (h1 : ∀ v ∈ vs, v.oneCell' = true) (hgd : o.guard = none) (x y : Operand) (ho : o.op = .store ty x y) (hx : a.eval x = .pointer (some ⟨g, 0, none⟩)) (hy : a.eval y = .agg vs.toArray)
    (hK : wpListIn F n P ops Q rest (a.put o.dst undef) (w.setCells g 0 vs)) : wpListIn F n P ops Q (o :: rest) a w :=
  wpListIn_plain hgd fun _ hK' => wpIn_of_calm hF (by rw [ho]; rfl) (wp_store_mid ty x y ho g 0 vs.toArray hx hy (h.there (by simp [hl])) (by rw [hi]; simp [hn]) (all_oneCell_toArray h1) (hK' _ _ hK))
end
theorem wpListIn_loadW {F : Fence} {n : Nat} {P : Program} {w : World} {ops : Array Oper} {rest : List Oper} {o : Oper} {a : Act} {Q : Exit → Act → World → Prop} (hF : ∀ f, F.fn f) {g : Nat} {e : TypeId} {vs : List Value} (h : Blk w g e vs) {ty : TypeId} {k : Nat} (hi : (P.info? ty).map (·.size) = some k) (hn : vs.length = k)
    {d : TypeDesc} (hu : P.underlying ty = some d) (hd : (match d with | .struct _ | .array _ _ => true | _ => false) = true)
    (hw : Region.wanted o (yielded ops a.tmps) = true) (x : Operand) (ho : o.op = .load ty x) (hx : a.eval x = .pointer (some ⟨g, 0, none⟩))
    (hK : wpListIn F n P ops Q rest (a.put o.dst (.agg vs.toArray)) w) : wpListIn F n P ops Q (o :: rest) a w := by
  unfold wpListIn
  rw [if_pos hw]
  exact wpIn_of_calm hF (by rw [ho]; rfl) (wp_load_row ty x ho g hx e vs.toArray (0, 0) d h hu hd (by rw [hi]; simp [hn]) hK)
theorem Blk.own {W W' : World} {g : Nat} {e : TypeId} {vs : List Value} (h : Blk W g e vs) {row : Option Nat} (hg : W.grownBy W' row) (hr : ∀ r, row = some r → ∃ o : Obj, W.heap[r]? = some o ∧ o.isCells = false) : Blk W' g e vs := by
  refine h.grown hg (fun e => ?_)
  obtain ⟨o, ho, hc⟩ := hr g e.symm
  rw [h] at ho
  cases ho
  simp [Obj.isCells] at hc
theorem keeps_below {W W' : World} (h : Below W.heap.size W W') : KeepsOthers W W' := ⟨h.size, fun k _ hk _ => (h.block k (Array.getElem?_eq_some_iff.1 hk).1).trans hk⟩
theorem keeps_setCells (g : Nat) : ∀ (vs : List Value) (o : Nat) (W : World), KeepsOthers W (W.setCells g o vs)
  | [], _, W => KeepsOthers.refl W
  | v :: vs, o, W => (KeepsOthers.setCell W ⟨g, o, none⟩ v).trans (keeps_setCells g vs (o + 1) _)
theorem own_block_cells {w : World} {base : Nat} {e : TypeId} {size : Nat} {v : Value} {n : Nat} {xs : List Value} (h : w.ownsRow base e size v n xs) {g : Nat} (hg : v.ownBlock = some g) : base ≤ g ∧ ∃ o : Obj, w.heap[g]? = some o ∧ o.isCells = true := by
  rcases h.2 with ⟨rfl, _⟩ | ⟨g', cap, cur, rfl, hb, hgg, _⟩
  · cases hg
  · cases hg
    exact ⟨hb, _, hgg, rfl⟩
theorem keeps_own {W W' : World} {base : Nat} {e : TypeId} {size : Nat} {v : Value} {n : Nat} {xs : List Value} (h : W.ownsRow base e size v n xs) (hg : W.grownBy W' v.ownBlock) : KeepsOthers W W' :=
  KeepsOthers.of_grownBy hg fun _ _ hj ho => by
    obtain ⟨_, o', ho', hc⟩ := own_block_cells h hj
    rw [ho] at ho'; cases ho'; exact hc

theorem SetsAt.own {w w' : World} {base : Nat} {v : Value} {fs : List NS} (h : SetsAt w base v fs) {row : Option Nat} (hg : w.grownBy w' row) (hr : ∀ r, row = some r → ∃ o : Obj, w.heap[r]? = some o ∧ o.isCells = false) : SetsAt w' base v fs := by
  rcases h with h | ⟨g, cap, h1, h2, h3, h4, h5, h6⟩
  · exact .inl h
  · exact .inr ⟨g, cap, h1, h2, Nat.lt_of_lt_of_le h3 hg.size, h4, h5, fun j f hj i hi => ⟨cell_kept (h6 j f hj i hi).1 hg hr, by
      have hc := (h6 j f hj i hi).1
      have hne : some g ≠ row := fun e => by
        obtain ⟨o, ho, hc2⟩ := hr g e.symm
        obtain ⟨o', ho', hc'⟩ := cells_of_cell hc
        simp only at ho'
        rw [ho] at ho'; cases ho'; rw [hc2] at hc'; cases hc'
      rw [World.frozen?_of_block (a := ⟨g, j * 26 + i, none⟩) (hg.block g h3 hne)]
      exact (h6 j f hj i hi).2⟩⟩
theorem SetsAt.mono {w : World} {base base' : Nat} {v : Value} {fs : List NS} (h : SetsAt w base v fs) (hb : base' ≤ base) : SetsAt w base' v fs := by
  rcases h with h | ⟨g, cap, h1, h2, h3⟩
  · exact .inl h
  · exact .inr ⟨g, cap, h1, Nat.le_trans hb h2, h3⟩

/-- between two rounds of least: the boxes, and what has been found -/
structure LI (w : World) (A : List UInt8) (p : List UInt8 → Bool) (fv : Value) (pre : List Nat) (W : World) : Prop where
  out : ∃ v, Blk W (w.heap.size + 1 + 1) 64 [v] ∧ OwnS W (w.heap.size + 4) v ((outOf A p pre).map (setB A))
  fn : Blk W (w.heap.size + 1) 66 [fv]
  below : Below w.heap.size w W
  size : w.heap.size + 4 ≤ W.heap.size
theorem LI.own (w : World) (A : List UInt8) (p : List UInt8 → Bool) (fv : Value) (B : Nat) (hB : w.heap.size ≤ B) : OwnFrom B (LI w A p fv) := by
  intro pre W W' row h hg hr
  have hr2 : ∀ r, row = some r → ∃ o : Obj, W.heap[r]? = some o ∧ o.isCells = false := fun r e => (hr r e).2
  obtain ⟨⟨v, h1, h2⟩, h3, h4, h5⟩ := h
  refine ⟨⟨v, h1.own hg hr2, h2.kept hg ?_⟩, h3.own hg hr2, h4.grown hg (by omega) (fun k hk => by have := (hr k hk).1; omega), Nat.le_trans h5 hg.size⟩
  cases hv : v.ownBlock with
  | none => exact .inl rfl
  | some k =>
    refine .inr fun e => ?_
    obtain ⟨_, o, ho, hc⟩ := own_block_cells h2 hv
    obtain ⟨o', ho', hc'⟩ := hr2 k e.symm
    rw [ho] at ho'
    cases ho'
    rw [hc] at hc'
    cases hc'
theorem LI.keep {w : World} {A : List UInt8} {p : List UInt8 → Bool} {fv : Value} {pre : List Nat} {W W' : World} (h : LI w A p fv pre W) (hb : Below W.heap.size W W') : LI w A p fv pre W' := by
  obtain ⟨⟨v, h1, h2⟩, h3, h4, h5⟩ := h
  exact ⟨⟨v, h1.keep hb, World.ownsRow.keep h2 hb⟩, h3.keep hb, h4.trans (hb.mono (by omega)), Nat.le_trans h5 hb.size⟩
theorem LI.same {w : World} {A : List UInt8} {p : List UInt8 → Bool} {fv : Value} {pre pre' : List Nat} {W : World} (h : LI w A p fv pre W) (e : outOf A p pre' = outOf A p pre) : LI w A p fv pre' W := by
  obtain ⟨⟨v, h1, h2⟩, h3, h4, h5⟩ := h
  exact ⟨⟨v, h1, by rw [e]; exact h2⟩, h3, h4, h5⟩
theorem Tryz.info45 : (Tryz.prog.info? 45).map (fun i => (i.zero, i.size, i.bytes)) = some (some zeroV, 26, 26) := by kernel_rfl
theorem fold_set : ∀ (vs us pre : List Value), us.length = vs.length → (vs.zipIdx pre.length).foldl (fun cs x => cs.setIfInBounds x.snd x.fst) (pre ++ us).toArray = (pre ++ vs).toArray
  | [], us, pre, h => by
    obtain rfl : us = [] := List.eq_nil_of_length_eq_zero h
    rfl
  | v :: vs, [], pre, h => by simp at h
  | v :: vs, u :: us, pre, h => by
    rw [List.zipIdx_cons, List.foldl_cons]
    have h2 : (pre ++ u :: us).toArray.setIfInBounds pre.length v = ((pre ++ [v]) ++ us).toArray := by
      simp
    show (vs.zipIdx (pre.length + 1)).foldl _ ((pre ++ u :: us).toArray.setIfInBounds pre.length v) = _
    rw [h2]
    have := fold_set vs us (pre ++ [v]) (by simpa using h)
    rw [List.length_append, List.length_singleton] at this
    rw [this]
    simp
/-- where the loop's variable lies -/
def LA (w : World) (A : List UInt8) (M : List Value) (g : Nat) (cb : Array Value) (x : Nat) (a' : Act) (W : World) : Prop :=
  ∃ Bx, w.heap.size + 4 ≤ Bx ∧ Blk W Bx 45 (marksL (setB A x)) ∧ a' = { tmps := #[.agg M.toArray, .func (.func g) #[] cb, .pointer (some ⟨w.heap.size, 0, none⟩), .pointer (some ⟨w.heap.size + 1, 0, none⟩), .slice none 0 0,
    .pointer (some ⟨w.heap.size + 1 + 1, 0, none⟩), .pointer (some ⟨Bx, 0, none⟩), .agg M.toArray, .func (.func 69) #[] #[.pointer (some ⟨w.heap.size + 1 + 1 + 1, 0, none⟩)], .agg (marksL (setB A x)).toArray,
    undef, undef, undef, undef, undef, undef, undef, undef, undef, undef, undef, undef, undef, undef, undef], defers := [] }
theorem LA.own (w : World) (A : List UInt8) (M : List Value) (g : Nat) (cb : Array Value) (x : Nat) (a' : Act) (B : Nat) : OwnFrom B (fun (_ : Unit) W => LA w A M g cb x a' W) := by
  intro _ W W' row h hg hr
  obtain ⟨Bx, h1, h2, h3⟩ := h
  exact ⟨Bx, h1, h2.own hg (fun r e => (hr r e).2), h3⟩

/-- what least answers -/
def LeastAt (w : World) (A : List UInt8) (p : List UInt8 → Bool) (e : Ending) (w' : World) : Prop :=
  ∃ u fs, e = .returned u ∧ fs.Perm ((outOf A p (List.range (2 ^ A.length))).map (setB A)) ∧ InOrder fs ∧ SetsAt w' w.heap.size u fs ∧ Below w.heap.size w w'

abbrev zeroL : List Value := [.bool false, .bool false, .bool false, .bool false, .bool false, .bool false, .bool false, .bool false, .bool false, .bool false, .bool false, .bool false, .bool false, .bool false, .bool false, .bool false, .bool false, .bool false, .bool false, .bool false, .bool false, .bool false, .bool false, .bool false, .bool false, .bool false]

set_option maxRecDepth 100000 in
set_option maxHeartbeats 2000000 in
theorem least_any (f : NS) (g : Nat) (cb : Array Value) (p : List UInt8 → Bool) (w : World) (eg : ∀ args w, (callFunc g args).run Tryz.prog w = .ok (.enter g args) w)
    (hhas : ∀ W h, Below w.heap.size w W → Calls Tryz.prog g (#[nailsV h] ++ cb) W fun e w' => e = .returned (.bool (p (strN h))) ∧ Below W.heap.size W w') :
    Calls Tryz.prog 40 #[nailsV f, .func (.func g) #[] cb] w (LeastAt w (strN f) p) := by
  have hM := marks_len f
  have hb0 := Blk.new w 45 (marksL f)
  have hsub := fun W => subsets_plain f W
  have hri := strN_rise f
  have hsm : ∀ c ∈ strN f, smallB c := fun c hc => (mem_strN.1 hc).1
  have hlen := strN_len f
  have hstop := fun n hn W hS => subs_stops n hn (w.heap.size + 1 + 1 + 1) f W hS
  have hbs : Blk ((((w.alloc (.cells (marksL f).toArray 45)).alloc (.cells #[.func (.func g) #[] cb] 66)).alloc (.cells #[.slice none 0 0] 64)).alloc (.cells (marksL f).toArray 45)) (w.heap.size + 1 + 1 + 1) 45 (marksL f) := by
    have := Blk.new (((w.alloc (.cells (marksL f).toArray 45)).alloc (.cells #[.func (.func g) #[] cb] 66)).alloc (.cells #[.slice none 0 0] 64)) 45 (marksL f)
    rwa [World.size_alloc, World.size_alloc, World.size_alloc] at this
  have hLI : LI w (strN f) p (.func (.func g) #[] cb) [] ((((w.alloc (.cells (marksL f).toArray 45)).alloc (.cells #[.func (.func g) #[] cb] 66)).alloc (.cells #[.slice none 0 0] 64)).alloc (.cells (marksL f).toArray 45)) := by
    refine ⟨⟨.slice none 0 0, ?_, World.ownsRow_nil _ _ _ _⟩, ?_, ((((Below.refl _ _).alloc (Nat.le_refl _) _).alloc (by simp) _).alloc (by simp; omega) _).alloc (by simp; omega) _, by simp⟩
    · have := (Blk.new ((w.alloc (.cells (marksL f).toArray 45)).alloc (.cells #[.func (.func g) #[] cb] 66)) 64 [.slice none 0 0]).alloc (.cells (marksL f).toArray 45)
      rwa [World.size_alloc, World.size_alloc] at this
    · have := ((Blk.new (w.alloc (.cells (marksL f).toArray 45)) 66 [.func (.func g) #[] cb]).alloc (.cells #[.slice none 0 0] 64)).alloc (.cells (marksL f).toArray 45)
      rwa [World.size_alloc] at this
  unfold nailsV at hsub ⊢
  generalize marksL f = M at *
  generalize strN f = A at *
  have HRI := Lib.hid hri
  have HSM := Lib.hid hsm
  have HM := Lib.hid hM
  have HHAS := Lib.hid hhas
  have HSUB := Lib.hid hsub
  have HB0 := Lib.hid hb0
  have HST := Lib.hid hstop
  have HBS := Lib.hid hbs
  have HLI := Lib.hid hLI
  have HEG := Lib.hid eg
  clear hri hsm hM hhas hsub hb0 hstop hbs hLI eg
  refine (callsIn_wide (n := 6)).1 ?_
  refine callsIn_of_wp_marks Tryz.func40 rfl trivial ?_ rfl
  simp only [Tryz.ntmps40, List.size_toArray, List.length_cons, List.length_nil, Nat.reduceAdd, Nat.reduceSub, Array.replicate_succ, Array.replicate_zero, List.push_toArray, List.append_toArray, List.nil_append, List.cons_append]
  refine wpIn_wide.2 ?_
  go_wp2_with (first
    | ((with_reducible show wpList _ _ _ (Oper.mk _ (Op.load 45 _) _ _ _ _ :: _) _ _); refine wpList_loadB ((HB0.out.alloc _).alloc _) Tryz.size45 HM.out Tryz.underlying45 rfl rfl _ rfl rfl ?_)
    | (go_at_call 52; refine (HSUB.out _).mono ?_; rintro e w1 ⟨rfl, rfl⟩))
  refine (wpIn_wide (n := 6)).1 ?_
  refine wpIn_rangeFunc_ownH rfl (by omega) (gf := 69) (lb := #[.pointer (some ⟨w.heap.size + 1 + 1 + 1, 0, none⟩)]) rfl trivial (enters_of Tryz.func69 (by kernel_rfl) rfl)
    (HST.out 5 (by omega) _ HBS.out) (fun _ _ => trivial) (fun _ _ _ _ _ _ _ _ => trivial) (Below.refl _ _) (fun _ => rfl)
    (LI w A p (.func (.func g) #[] cb)) (fun _ _ _ => False) (LI.own _ _ _ _ _ (by simp; omega)) (fun _ _ _ _ _ h _ _ => h.elim) HLI.out (LA w A M g cb) (fun x a' => LA.own _ _ _ _ _ _ _ _) ?assign ?body ?done ?stop
  case stop => rintro D c pre W _ _ h _; exact h.elim
  case assign =>
    intro l pre x W K hi hK
    have hz := Blk.new W 45 zeroL
    have hml := marks_len (setB A x)
    have hm1 := marks_one (setB A x)
    have hll : zeroL.length = (marksL (setB A x)).length := by rw [hml]; rfl
    have hset := hz.setAll hll
    have hkf : KeepsOthers W ((W.alloc (.cells zeroL.toArray 45)).setCells W.heap.size 0 (marksL (setB A x))) := (KeepsOthers.alloc _ _).trans (keeps_setCells _ _ _ _)
    have hbel : Below W.heap.size W ((W.alloc (.cells zeroL.toArray 45)).setCells W.heap.size 0 (marksL (setB A x))) := below_setCells (Nat.le_refl _) _ _ ((Below.refl _ _).alloc (Nat.le_refl _) _)
    have hfin := hK _ _ (hkf.from _) trivial (hi.keep hbel) ⟨W.heap.size, hi.size, hset, rfl⟩
    unfold nailsV
    generalize marksL (setB A x) = M2 at *
    have HZ := Lib.hid hz
    have HML := Lib.hid hml
    have HM1 := Lib.hid hm1
    have HLL := Lib.hid hll
    have HFIN := Lib.hid hfin
    clear hz hml hm1 hll hset hkf hbel hfin hK hi
    gi_wp2_with ((with_reducible show wpListIn _ _ _ _ _ (Oper.mk _ (Op.store 45 _ _) _ _ _ _ :: _) _ _); refine wpListIn_storeB (vs := M2) (fun _ => trivial) HZ.out Tryz.size45 HML.out HLL.out HM1.out rfl _ _ rfl rfl rfl ?_)
    exact HFIN.out
  case body =>
    rintro l pre x a' W hl ⟨r, hr⟩ hI ⟨Bx, hBx, hbx, rfl⟩ hlt
    clear hr hl r
    have hko : Hid (KeepsOthers W W) := KeepsOthers.refl W
    obtain ⟨⟨v, hbv, hov⟩, hfn, hbel, hsz⟩ := id hI
    have hcon := containsF_any (fun f => inM f (setB A x)) 54 #[.pointer (some ⟨Bx, 0, none⟩)] (enters_of Tryz.func54 (by kernel_rfl) rfl) _ v _ W (OwnS.sets hov) (in_pred Bx (setB A x) W hbx)
    rw [outOf_any HRI.out HSM.out] at hcon
    have hsn := outOf_snoc A p pre x
    have hhs := fun W' hb => HHAS.out W' (setB A x) hb
    rw [strN_setB HRI.out HSM.out] at hhs
    have hml := marks_len (setB A x)
    have hm1 := marks_one (setB A x)
    have hlen2 := outOf_len A p pre
    have hN : 2 ^ A.length ≤ 67108864 := by have := Nat.pow_le_pow_right (show 2 > 0 by omega) hlen; omega
    have hlen3 : (outOf A p pre).length ≤ 67108864 := by omega
    clear hlen2 hN
    have hflat := flatN_snoc ((outOf A p pre).map (setB A)) (setB A x)
    unfold nailsV at hhs
    generalize marksL (setB A x) = M2 at *
    generalize hc : ((outOf A p pre).any fun o => subL (subS A o) (subS A x)) = c at *
    generalize hp : p (subS A x) = q at *
    have cv := hbv.cell (j := 0) rfl
    have HML := Lib.hid hml
    have HM1 := Lib.hid hm1
    have HCON := Lib.hid hcon
    have HSN := Lib.hid hsn
    have HHS := Lib.hid hhs
    have HFN := Lib.hid hfn
    have HBV := Lib.hid hbv
    have HOV := Lib.hid hov
    have HBX := Lib.hid hbx
    have HI := Lib.hid hI
    have HBEL := Lib.hid hbel
    have HFLAT := Lib.hid hflat
    clear hml hm1 hcon hsn hhs hfn hbv hov hbx hI hbel hc hp hflat
    cases c
    · gi_wp2_with (refine ⟨trivial, ?_⟩; gi_at_call 53; refine (CallsIn.inRound l (callsIn_wide.2 HCON.out)).mono ?_)
      rintro e w1 ⟨rfl, hb1⟩
      have cf := (HFN.out.keep hb1).cell (j := 0) rfl
      have hbx1 := Lib.hid (HBX.out.keep hb1)
      have heg := HEG.out
      have hhs := Lib.hid (HHS.out w1 (HBEL.out.trans (hb1.mono HBEL.out.size)))
      have HB1 := Lib.hid hb1
      clear hb1
      gi_wp2_with ((with_reducible show wpListIn _ _ _ _ _ (Oper.mk _ (Op.load 45 _) _ _ _ _ :: _) _ _); refine wpListIn_loadW (fun _ => trivial) hbx1.out Tryz.size45 HML.out Tryz.underlying45 rfl rfl _ rfl rfl ?_)
      refine ⟨trivial, ?_⟩
      refine (CallsIn.inRound l (callsIn_wide.2 hhs.out)).mono ?_
      rintro e w2 ⟨rfl, hb2⟩
      have hb12 := Lib.hid (HB1.out.trans (hb2.mono HB1.out.size))
      cases q
      · clear hb2
        gi_wp2
        exact ⟨(keeps_below hb12.out).from _, trivial, (HI.out.same (by rw [HSN.out]; rfl)).keep hb12.out⟩
      · have cv2 := ((HBV.out.keep hb12.out)).cell (j := 0) rfl
        have hbx2 := Lib.hid (HBX.out.keep hb12.out)
        have hbv2 := Lib.hid (HBV.out.keep hb12.out)
        have hov2 := Lib.hid (World.ownsRow.keep HOV.out hb12.out)
        have hsz2 := Nat.le_trans hsz hb12.out.size
        have hfold : List.foldl (fun (cs : Array Value) (x : Value × Nat) => cs.setIfInBounds x.snd x.fst) #[.bool false, .bool false, .bool false, .bool false, .bool false, .bool false, .bool false, .bool false, .bool false, .bool false, .bool false, .bool false, .bool false, .bool false, .bool false, .bool false, .bool false, .bool false, .bool false, .bool false, .bool false, .bool false, .bool false, .bool false, .bool false, .bool false] M2.zipIdx = M2.toArray :=
          fold_set M2 zeroL [] (by rw [HML.out]; rfl)
        have hml26 := HML.out
        obtain ⟨i0, hi, hz0, hz1, hz2⟩ := info_parts Tryz.info45
        have HI0 := Lib.hid hi
        have HZ0 := Lib.hid hz0
        have HZ1 := Lib.hid hz1
        have HZ2 := Lib.hid hz2
        clear hb2 heg cf cv hi hz0 hz1 hz2
        gi_wp2_with (first | (gi_at_builtin; refine wpListIn_append_own _ rfl _ _ 64 rfl (w.heap.size + 4) 45 i0 zeroV 26 26 Tryz.underlying64 HI0.out HZ0.out HZ1.out HZ2.out (by rfl) (by decide) _ _ _ rfl (World.ownsRow.alloc hov2.out _) ⟨w2.heap.size, 0, none⟩ 1 1 M2 rfl (by rw [HML.out]) ?c1 HM1.out ?c2 ?c3 ?c4 ?_) | ((with_reducible show wpListIn _ _ _ _ _ (Oper.mk _ (Op.load 45 _) _ _ _ _ :: _) _ _); refine wpListIn_loadB (fun _ => trivial) hbx2.out Tryz.size45 HML.out Tryz.underlying45 rfl rfl _ rfl rfl ?_))
        case c1 => intro j u hj; rw [Addr.add_mid]; exact (Blk.new w2 45 M2).range j u hj
        case c2 => unfold maxLen; simp; omega
        case c3 => simp; omega
        case c4 => simp; omega
        intro v3 w3 hown hgrow hne
        have hlv : v.ownBlock = none ∨ v.ownBlock ≠ some (w.heap.size + 1 + 1) := by
          cases hv : v.ownBlock with
          | none => exact .inl rfl
          | some k => exact .inr fun e => by have := (own_block_cells hov2.out hv).1; cases e; omega
        have hlv3 : v3.ownBlock = none ∨ v3.ownBlock ≠ some (w.heap.size + 1 + 1) := by
          cases hv : v3.ownBlock with
          | none => exact .inl rfl
          | some k => exact .inr fun e => by have := (own_block_cells hown hv).1; cases e; omega
        have hrow : some (w.heap.size + 1 + 1) ≠ v.ownBlock := by
          rcases hlv with h | h
          · rw [h]; simp
          · exact fun e => h e.symm
        have hrow1 : some (w.heap.size + 1) ≠ v.ownBlock := by
          cases hv : v.ownBlock with
          | none => simp
          | some k => exact fun e => by have := (own_block_cells hov2.out hv).1; cases e; omega
        have hko := (KeepsOthers.alloc w2 (.cells M2.toArray 45)).trans (keeps_own (World.ownsRow.alloc hov2.out _) hgrow)
        have hbv3 := (hbv2.out.alloc (.cells M2.toArray 45)).grown hgrow hrow
        have hfn3 := ((HFN.out.keep hb12.out).alloc (.cells M2.toArray 45)).grown hgrow hrow1
        have hbel3 : Below w.heap.size w w3 := ((HBEL.out.trans (hb12.out.mono HBEL.out.size)).alloc (by omega) _).grown hgrow (by simp; omega) (fun k hk => by have := (own_block_cells hov2.out hk).1; omega)
        have hs3 : w.heap.size + 4 ≤ w3.heap.size := by have := hgrow.size; simp at this; omega
        obtain ⟨g3, c3, rfl⟩ : ∃ g3 c3, v3 = .slice (some ⟨g3, 0, none⟩) ((outOf A p pre).length + 1) c3 := by
          rcases hown.2 with ⟨rfl, _⟩ | ⟨g3, cap, cur, hv, _⟩
          · exact absurd rfl hne
          · exact ⟨g3, cap, hv⟩
        have hfin : LI w A p (.func (.func g) #[] cb) (pre ++ [x]) (w3.setCell ⟨w.heap.size + 1 + 1, 0, none⟩ (.slice (some ⟨g3, 0, none⟩) ((outOf A p pre).length + 1) c3)) := by
          refine ⟨⟨_, hbv3.set 0 _, ?_⟩, hfn3.other (by simp) _, hbel3.setCell (p := ⟨w.heap.size + 1 + 1, 0, none⟩) (by simp; omega) _, by simpa using hs3⟩
          have e1 : (outOf A p (pre ++ [x])).map (setB A) = (outOf A p pre).map (setB A) ++ [setB A x] := by rw [HSN.out]; simp
          rw [e1]
          unfold OwnS
          rw [HFLAT.out, List.length_append, List.length_map, List.length_singleton]
          exact hown.kept ⟨rfl, rfl, rfl, by simp, fun k _ hk => heap_setCell_other w3 ⟨w.heap.size + 1 + 1, 0, none⟩ k _ (fun e => hk (by rw [e]))⟩ hlv3
        have cv3 := hbv3.cell (j := 0) rfl
        have fv3 := hbv3.free 0
        have HFIN := Lib.hid hfin
        have HKO := Lib.hid (((keeps_below hb12.out).trans hko).trans (KeepsOthers.setCell w3 ⟨w.heap.size + 1 + 1, 0, none⟩ (.slice (some ⟨g3, 0, none⟩) ((outOf A p pre).length + 1) c3)))
        clear hfin hko hown hgrow hne hlv hlv3 hrow hrow1 hbv3 hfn3 hbel3 hfold
        gi_wp2
        exact ⟨HKO.out.from _, trivial, HFIN.out⟩
    · gi_wp2_with (refine ⟨trivial, ?_⟩; gi_at_call 53; refine (CallsIn.inRound l (callsIn_wide.2 HCON.out)).mono ?_)
      rintro e w1 ⟨rfl, hb1⟩
      gi_wp2
      refine ⟨fun _ h => (by cases h), ?_⟩
      gi_wp2
      exact ⟨(keeps_below hb1).from _, trivial, (HI.out.same (by rw [HSN.out]; rfl)).keep hb1⟩
  case done =>
    rintro D xs W hD rfl ⟨⟨v, hbv, hov⟩, hfn, hbel, hsz⟩ hK
    have cv := hbv.cell (j := 0) rfl
    have hlen2 := outOf_len A p (List.range (2 ^ A.length))
    have hN : 2 ^ A.length ≤ 67108864 := by have := Nat.pow_le_pow_right (show 2 > 0 by omega) hlen; omega
    have hso := sorted_any (w.heap.size + 4) v _ W (OwnS.sets hov) (by rw [List.length_map]; rw [List.length_range] at hlen2; omega)
    have hfin : ∀ w1, (∃ fs', fs'.Perm ((outOf A p (List.range (2 ^ A.length))).map (setB A)) ∧ InOrder fs' ∧ SetsAt w1 (w.heap.size + 4) v fs') → W.grownBy w1 v.ownBlock →
        w1.heap[D]? = some (.deferred (some [])) ∧ LeastAt w A p (.returned v) (w1.putObj D (.deferred none)) := by
      rintro w1 ⟨fs', h1, h2, h3⟩ hg
      have hne : some D ≠ v.ownBlock := fun e => by
        obtain ⟨_, o, ho, hc⟩ := own_block_cells hov e.symm
        rw [hK] at ho; cases ho; cases hc
      have hD1 : w1.heap[D]? = some (.deferred (some [])) := (hg.block D (Array.getElem?_eq_some_iff.1 hK).1 hne).trans hK
      refine ⟨hD1, v, fs', rfl, h1, h2, (h3.mono (by omega)).own (grownBy_putObj' w1 D (.deferred none)) (fun r e => by cases e; exact ⟨_, hD1, rfl⟩), ?_⟩
      have hB1 : Below w.heap.size w w1 := hbel.grown hg (by omega) (fun k hk => by have := (own_block_cells hov hk).1; omega)
      exact hB1.trans (belowK_b (w := w) (Nat.le_refl _) w1 D _ _ (by simp at hD; omega) hD1 rfl rfl)
    have HSO := Lib.hid hso
    have HFIN := Lib.hid hfin
    clear hso hfin hov hbv hfn hbel hsz hlen2 hN hK hD
    go_wp2_with (go_at_call 56; refine HSO.out.mono ?_; rintro e w1 ⟨rfl, hs, hg⟩)
    obtain ⟨hK1, hfin⟩ := HFIN.out _ hs hg
    refine ⟨by simp, .inl ⟨_, _, rfl, run_takeDeferred hK1, ?_⟩⟩
    refine ⟨_, results_tmp rfl _ _ _, ?_⟩
    exact hfin
end Go.Proofs.YtjdmmgaddbleeaaGreat

/- Sets as strings: listed: the walk. -/
namespace Go.Proofs.YtjdmmgaddbleeaaGreat
open Go.RowKit

theorem Tryz.info9 : (Tryz.prog.info? 9).map (fun i => (i.zero, i.size, i.bytes)) = some (some (.string ⟨#[]⟩), 1, 16) := by kernel_rfl
/-- a list of strings of the call's own -/
abbrev OwnT (w : World) (base : Nat) (v : Value) (ss : List ByteArray) : Prop := w.ownsRow base 9 1 v ss.length (ss.map Value.string)
theorem OwnT.strs {w : World} {base : Nat} {v : Value} {ss : List ByteArray} (h : OwnT w base v ss) : Strs w v ss := by
  rcases id h.2 with ⟨rfl, hz⟩ | ⟨g, cap, cur, rfl, hb, hg, hn, hm, hc, ht⟩
  · obtain rfl : ss = [] := List.eq_nil_of_length_eq_zero hz
    exact ⟨_, _, rfl, ⟨by simp, by simp⟩, by simp⟩
  · refine ⟨_, cap, rfl, ⟨hn, by unfold maxLen at hm; omega⟩, fun _ => ⟨g, 0, rfl, (Array.getElem?_eq_some_iff.1 hg).1, fun j s hj => ?_⟩⟩
    obtain ⟨hjl, _⟩ := List.getElem?_eq_some_iff.1 hj
    rw [Nat.zero_add, World.ownsRow.cellAt h j (by omega), List.getElem?_map, hj]
    rfl
def strOf (f : NS) : ByteArray := strB (strN f)

/-- append of one string, which the walk has just laid in a new block. -/
theorem wpList_appT {w : World} {ops : Array Oper} {rest : List Oper} {o : Oper} {a : Act} {Q : Exit → Act → World → Prop}
    {t : TypeId} (ht : Tryz.prog.underlying t = some (.slice 9))
    {base : Nat} {v : Value} {ss : List ByteArray} (hown : OwnT w base v ss) (hb : base ≤ w.heap.size) (hl : ss.length < 1000000000)
    (hgd : o.guard = none) (s x : Operand) (ho : o.op = .call { callee := .builtin .append, args := #[s, x], argTypes := #[t, t] })
    {z : ByteArray} (hs : a.eval s = v) (hx : a.eval x = .slice (some ⟨w.heap.size, 0, none⟩) 1 1)
    (hK : ∀ v' w', OwnT w' base v' (ss ++ [z]) → w.grownBy w' v.ownBlock → Below base w w' → (∃ g c, v' = .slice (some ⟨g, 0, none⟩) (ss.length + 1) c) → wpList Tryz.prog ops Q rest (a.put o.dst v') w') :
    wpList Tryz.prog ops Q (o :: rest) a (w.alloc (.cells #[.string z] 9)) := by
  obtain ⟨i, h2, h3, h4, h5⟩ := info_parts Tryz.info9
  refine wpList_append_own _ hgd s x t ho base 9 i (.string ⟨#[]⟩) 1 16 ht h2 h3 h4 h5 rfl (by decide) v ss.length _ hs (World.ownsRow.alloc hown _) ⟨w.heap.size, 0, none⟩ 1 1 [.string z] hx rfl (cell_one_new _ _ _) ?_ ?_ ?_ ?_ ?_
  · intro u hu; simp at hu; subst hu; rfl
  · unfold maxLen; omega
  · omega
  · simp; omega
  · intro v' w1 hown1 hg1 _
    have hlt := World.ownsRow.lt hown
    have hb1 : Below base w w1 := by
      refine ((Below.refl base w).alloc hb _).grown hg1 (by simp; omega) ?_
      intro k hk
      exact (hlt k hk).1
    refine hK v' w1 (by simpa [OwnT] using hown1) ?_ hb1 ?_
    · refine ⟨hg1.os, hg1.tape, hg1.output, Nat.le_trans (by simp) hg1.size, fun k hk hne => ?_⟩
      rw [hg1.block k (by simp; omega) hne]
      exact Below.heap_alloc w _ k hk
    · rcases hown1.2 with ⟨_, h0⟩ | ⟨g, cap, cur, rfl, _⟩
      · omega
      · exact ⟨g, cap, rfl⟩

set_option maxRecDepth 100000 in
set_option maxHeartbeats 1000000 in
theorem listed_any (base : Nat) (v : Value) (fs : List NS) (w : World) (hv : SetsAt w base v fs) (hl : fs.length ≤ 1000000000) :
    Calls Tryz.prog 39 #[v] w fun e w' => ∃ u, e = .returned u ∧ Strs w' u (fs.map strOf) ∧ Below w.heap.size w w' := by
  obtain ⟨n, hn⟩ : ∃ n, fs.length = n := ⟨_, rfl⟩
  obtain ⟨a, c, rfl, hc1, hc2⟩ := hv.shape hn
  rw [hn] at hl
  have HN := Lib.hid hn
  have HV := Lib.hid hv
  clear hv hn
  go_enter Tryz.func39, Tryz.ntmps39
  go_wp2_with fail
  go_loopw [3, 8] (fun uv iv wr => ∃ k : Nat, k ≤ n ∧ iv = .int .i64 k ∧ Hid (OwnT wr w.heap.size uv ((fs.take k).map strOf)) ∧ Hid (Below w.heap.size w wr)) (fun _ iv _ => n - (intOf iv).toNat)
  case atStart => exact ⟨0, by omega, rfl, (show Hid (w.ownsRow w.heap.size 9 1 (.slice none 0 0) 0 []) from World.ownsRow_nil w w.heap.size 9 1), (show Hid _ from Below.refl _ _)⟩
  case round =>
    obtain ⟨k, hk, rfl, HO, HB⟩ := hrel
    by_cases hlt : k < n
    · obtain ⟨g, f, rfl, hf, hr0⟩ := HV.out.at_ hlt
      have hsets := HV.out.keep HB.out
      obtain ⟨g', f', hg', hf', hrg⟩ := hsets.at_ hlt
      obtain ⟨rfl, rfl⟩ : g = g' ∧ f = f' := by
        rw [hf'.out] at hf
        have h1 := hf.out
        simp at hg' h1
        exact ⟨hg', h1.symm⟩
      have hst := fun W => String_any f W
      have hml := marks_len f
      have hm1 := marks_one f
      have htk : (fs.take (k + 1)).map strOf = (fs.take k).map strOf ++ [strOf f] := by
        rw [List.take_add_one, hf.out]; simp
      have hlen : ((fs.take k).map strOf).length = k := by rw [List.length_map, List.length_take, HN.out]; omega
      unfold nailsV at hst
      have hss : strB (strN f) = strOf f := rfl
      rw [hss] at hst
      generalize strOf f = s at *
      generalize marksL f = M at *
      have HST := Lib.hid hst
      have HTK := Lib.hid htk
      have HLEN := Lib.hid hlen
      have HRG := Lib.hid hrg
      have HML := Lib.hid hml
      clear hst htk hlen hrg hml hg' hf' hf hr0 hsets hss
      have hbn := Blk.new wr 45 zeroL
      have hll : zeroL.length = M.length := by rw [HML.out]; rfl
      have hbs := hbn.setAll hll
      have hbel : Below wr.heap.size wr ((wr.alloc (.cells zeroL.toArray 45)).setCells wr.heap.size 0 M) := below_setCells (Nat.le_refl _) _ _ ((Below.refl _ _).alloc (Nat.le_refl _) _)
      have HM1 := Lib.hid hm1
      have HBN := Lib.hid hbn
      have HLL := Lib.hid hll
      have HBS := Lib.hid hbs
      have HBEL := Lib.hid hbel
      clear hbn hll hbs hbel hm1
      go_wp2_with (first
        | ((with_reducible show wpList _ _ _ (Oper.mk _ (Op.load 45 (.tmp 10)) _ _ _ _ :: _) _ _); refine wpList_load_mid rfl _ _ rfl g (k * 26) rfl M _ HRG.out Tryz.underlying45 rfl (by rw [Tryz.size45, HML.out]) ?_)
        | ((with_reducible show wpList _ _ _ (Oper.mk _ (Op.load 45 (.tmp 5)) _ _ _ _ :: _) _ _); refine wpList_loadB HBS.out Tryz.size45 HML.out Tryz.underlying45 rfl rfl _ rfl rfl ?_)
        | ((with_reducible show wpList _ _ _ (Oper.mk _ (Op.store 45 _ _) _ _ _ _ :: _) _ _); refine wpList_storeB (vs := M) HBN.out Tryz.size45 HML.out HLL.out HM1.out rfl _ _ rfl rfl rfl ?_)
        | (go_at_call 48; refine (HST.out _).mono ?_))
      rintro e w1 ⟨rfl, hu1⟩
      have hb01 := HBEL.out.trans (hu1.below.mono HBEL.out.size)
      have hown1 : OwnT w1 w.heap.size u3 ((fs.take k).map strOf) := World.ownsRow.keep HO.out hb01
      have hs1 : w.heap.size ≤ w1.heap.size := Nat.le_trans HB.out.size hb01.size
      have hB1 := HB.out.trans (hb01.mono HB.out.size)
      have HB1 := Lib.hid hB1
      have HOWN := Lib.hid hown1
      have hlen9 : ((fs.take k).map strOf).length < 1000000000 := by rw [HLEN.out]; omega
      have HL9 := Lib.hid hlen9
      clear hu1 hb01 hown1 hB1 hlen9
      go_wp2_with (at_builtin; refine wpList_appT Tryz.underlying36 HOWN.out hs1 HL9.out rfl _ _ rfl (z := s) rfl rfl ?_; intro v2 w2 hown2 hg2 hb2 hsh2)
      go_roundw
      case rel => exact ⟨k + 1, by omega, by go_num, by show OwnT _ _ _ _; rw [HTK.out]; exact hown2, HB1.out.trans hb2⟩
      case measure => simp [intOf]; omega
    · obtain rfl : k = n := by omega
      have hst := OwnT.strs HO.out
      rw [List.take_of_length_le (by rw [HN.out]; exact Nat.le_refl _)] at hst
      have HST := Lib.hid hst
      clear hst HO
      go_wp2_with fail
      go_ret
      exact ⟨_, rfl, HST.out, HB.out⟩
end Go.Proofs.YtjdmmgaddbleeaaGreat

/- Plain laws of the least sets: their list. -/
namespace Go.Proofs.YtjdmmgaddbleeaaGreat
open Go.RowKit

/-- a string put into an ordered list, once -/
def insS (s : List UInt8) : List (List UInt8) → List (List UInt8)
  | [] => [s]
  | a :: l => if ltB a s then a :: insS s l else if a = s then a :: l else s :: a :: l
theorem mem_insS {s x : List UInt8} : ∀ {l : List (List UInt8)}, x ∈ insS s l ↔ x = s ∨ x ∈ l
  | [] => by simp [insS]
  | a :: l => by
    rw [insS]
    split
    · rw [List.mem_cons, mem_insS, List.mem_cons]
      constructor
      · rintro (h | h | h)
        · exact .inr (.inl h)
        · exact .inl h
        · exact .inr (.inr h)
      · rintro (h | h | h)
        · exact .inr (.inl h)
        · exact .inl h
        · exact .inr (.inr h)
    · split
      · rename_i h; subst h; simp
      · simp
theorem asc_insS {s : List UInt8} : ∀ {l : List (List UInt8)}, Asc l → Asc (insS s l)
  | [], _ => by simp [insS]
  | a :: l, h => by
    have h' := List.pairwise_cons.1 h
    rw [insS]
    split
    · rename_i hlt
      refine List.pairwise_cons.2 ⟨fun b hb => ?_, asc_insS h'.2⟩
      rcases mem_insS.1 hb with rfl | hb
      · exact hlt
      · exact h'.1 b hb
    · split
      · exact h
      · rename_i h1 h2
        refine List.pairwise_cons.2 ⟨fun b hb => ?_, h⟩
        have hsa : ltB s a = true := by
          rcases ltB_tri s a with h3 | h3 | h3
          · exact h3
          · exact absurd h3.symm h2
          · exact absurd h3 h1
        rcases List.mem_cons.1 hb with rfl | hb
        · exact hsa
        · exact ltB_tr _ _ _ hsa (h'.1 b hb)
/-- the strings of a list, put into order -/
def sortS (l : List (List UInt8)) : List (List UInt8) := l.foldl (fun out s => insS s out) []
theorem sortS_snoc (l : List (List UInt8)) (s : List UInt8) : sortS (l ++ [s]) = insS s (sortS l) := by unfold sortS; rw [List.foldl_append]; rfl
theorem foldS : ∀ (l out : List (List UInt8)), Asc out → Asc (l.foldl (fun out s => insS s out) out) ∧ ∀ x, x ∈ l.foldl (fun out s => insS s out) out ↔ x ∈ l ∨ x ∈ out
  | [], out, h => ⟨h, by simp⟩
  | s :: l, out, h => by
    rw [List.foldl_cons]
    obtain ⟨h1, h2⟩ := foldS l (insS s out) (asc_insS h)
    refine ⟨h1, fun x => ?_⟩
    rw [h2, mem_insS, List.mem_cons]
    constructor
    · rintro (h | h | h)
      · exact .inl (.inr h)
      · exact .inl (.inl h)
      · exact .inr h
    · rintro ((h | h) | h)
      · exact .inr (.inl h)
      · exact .inl h
      · exact .inr (.inr h)
theorem sortS_asc (l : List (List UInt8)) : Asc (sortS l) := (foldS l [] List.Pairwise.nil).1
theorem mem_sortS {l : List (List UInt8)} {x : List UInt8} : x ∈ sortS l ↔ x ∈ l := by
  rw [sortS, (foldS l [] List.Pairwise.nil).2]; simp

/-- the least sets of letters of A with a property, in order -/
def leastS (A : List UInt8) (p : List UInt8 → Bool) : List (List UInt8) := sortS ((minsTo (fun b => p (subS A b)) (2 ^ A.length)).map (subS A))
theorem outOf_mins {A : List UInt8} (hA : Rise A) (p : List UInt8 → Bool) : ∀ (K : Nat), K ≤ 2 ^ A.length → outOf A p (List.range K) = minsTo (fun b => p (subS A b)) K
  | 0, _ => rfl
  | K + 1, h => by
    rw [List.range_succ, outOf_snoc, outOf_mins hA p K (by omega), minsTo_succ]
    have e : ((minsTo (fun b => p (subS A b)) K).any fun o => subL (subS A o) (subS A K)) = (minsTo (fun b => p (subS A b)) K).any fun x => bitIn x K := by
      have : ∀ (l : List Nat), (∀ x ∈ l, x < 2 ^ A.length) → (l.any fun o => subL (subS A o) (subS A K)) = l.any fun x => bitIn x K := by
        intro l
        induction l with
        | nil => intro _; rfl
        | cons x l ih =>
          intro hl
          rw [List.any_cons, List.any_cons, ih (fun y hy => hl y (List.mem_cons_of_mem _ hy)), subS_sub hA (hl x (by simp))]
      refine this _ fun x hx => ?_
      unfold minsTo at hx
      rw [List.mem_filter, List.mem_range] at hx
      omega
    rw [e]
    split <;> simp
theorem nodup_mins {A : List UInt8} (hA : Rise A) (p : Nat → Bool) : ((minsTo p (2 ^ A.length)).map (subS A)).Nodup := by
  unfold List.Nodup
  rw [List.pairwise_map]
  refine List.Pairwise.imp_of_mem ?_ ((range_pw _).filter _)
  intro a b ha hb hlt
  unfold minsTo at ha hb
  rw [List.mem_filter, List.mem_range] at ha hb
  intro e
  have := subS_inj hA ha.1 hb.1 e
  omega
/-- what least answers, as strings -/
theorem least_strs {A : List UInt8} (hA : Rise A) (hs : ∀ c ∈ A, smallB c) (p : List UInt8 → Bool) {fs : List NS}
    (hp : fs.Perm ((outOf A p (List.range (2 ^ A.length))).map (setB A))) (ho : InOrder fs) : fs.map strN = leastS A p := by
  have hp2 : (fs.map strN).Perm ((minsTo (fun b => p (subS A b)) (2 ^ A.length)).map (subS A)) := by
    have := hp.map strN
    rw [outOf_mins hA p _ (Nat.le_refl _), List.map_map] at this
    refine this.trans (List.Perm.of_eq ?_)
    apply List.map_congr_left
    intro b _
    exact strN_setB hA hs b
  refine asc_ext (asc_of ?_ ?_) (sortS_asc _) fun x => ?_
  · rw [List.pairwise_map]; exact ho
  · exact hp2.nodup_iff.2 (nodup_mins hA _)
  · unfold leastS; rw [mem_sortS]; exact hp2.mem_iff
theorem mem_leastS {A : List UInt8} (hA : Rise A) (p : List UInt8 → Bool) {t : List UInt8} : t ∈ leastS A p ↔ Rise t ∧ (∀ c ∈ t, c ∈ A) ∧ p t = true ∧ ∀ u, Rise u → (∀ c ∈ u, c ∈ t) → p u = true → u = t := by
  unfold leastS
  rw [mem_sortS, List.mem_map]
  constructor
  · rintro ⟨b, hb, rfl⟩
    unfold minsTo at hb
    rw [List.mem_filter, List.mem_range] at hb
    obtain ⟨h1, h2⟩ := minB_iff.1 hb.2
    refine ⟨subS_rise hA b, fun c hc => subS_mem hc, h1, fun u hu hc hpu => ?_⟩
    obtain ⟨d, hd, rfl⟩ := subS_onto hA hu (fun c h => subS_mem (hc c h))
    have h3 : bitIn d b = true := by rw [← subS_sub hA hd]; exact subL_iff.2 hc
    rw [h2 d h3 hpu]
  · rintro ⟨h1, h2, h3, h4⟩
    obtain ⟨b, hb, rfl⟩ := subS_onto hA h1 h2
    refine ⟨b, ?_, rfl⟩
    unfold minsTo
    rw [List.mem_filter, List.mem_range, minB_iff]
    refine ⟨hb, h3, fun c hc hpc => ?_⟩
    have hc2 : c < 2 ^ A.length := by have := bitIn_le hc; omega
    have := h4 (subS A c) (subS_rise hA c) (subL_iff.1 (by rw [subS_sub hA hc2]; exact hc)) hpc
    exact subS_inj hA hc2 hb this
end Go.Proofs.YtjdmmgaddbleeaaGreat

/- The falling sets: the closure, and Sets: the walks. -/
namespace Go.Proofs.YtjdmmgaddbleeaaGreat
open Go.RowKit

/-- whether a word falls with the nails of a string -/
def fallsP (l t : List UInt8) : Bool := (redL (marksOf t) l).isEmpty
theorem fallsP_str {l : List UInt8} (hw : isWord l = true) (h : NS) : fallsP l (strN h) = (redL h l).isEmpty := by
  unfold fallsP
  rw [redL_congr]
  intro c hc
  have := List.all_eq_true.1 hw c hc
  exact marks_strN (nail_lt (by simpa using this))

set_option maxRecDepth 100000 in
set_option maxHeartbeats 1000000 in
theorem fallC_any (h : NS) (s : ByteArray) (Bw : Nat) (w : World) (hbw : w.cell? ⟨Bw, 0, none⟩ = some (.string s)) (hlt : Bw < w.heap.size) (hw : isWord (bts s) = true) (hs : s.size < 100000000) :
    Calls Tryz.prog 41 #[nailsV h, .pointer (some ⟨Bw, 0, none⟩)] w fun e w' => e = .returned (.bool (redL h (bts s)).isEmpty) ∧ Below w.heap.size w w' := by
  have hre := reduce_one h s (w.alloc (.cells (marksL h).toArray 45)) hw hs
  rw [World.size_alloc] at hre
  have hM := marks_len h
  have hbx := Blk.new w 45 (marksL h)
  have hcw : (w.alloc (.cells (marksL h).toArray 45)).cell? ⟨Bw, 0, none⟩ = some (.string s) := (((Below.refl w.heap.size w).alloc (Nat.le_refl _) _).cell (p := ⟨Bw, 0, none⟩) hlt).trans hbw
  generalize redL h (bts s) = R at *
  unfold nailsV at hre ⊢
  generalize marksL h = M at *
  have HRE := Lib.hid hre
  have HM := Lib.hid hM
  have HBX := Lib.hid hbx
  clear hre hM hbx hbw hw
  go_enter Tryz.func41, Tryz.ntmps41
  go_wp2_with (first
    | ((with_reducible show wpList _ _ _ (Oper.mk _ (Op.load 45 _) _ _ _ _ :: _) _ _); refine wpList_loadB HBX.out Tryz.size45 HM.out Tryz.underlying45 rfl rfl _ rfl rfl ?_)
    | (go_at_call 23; refine HRE.out.mono ?_; rintro e w1 ⟨rfl, hb1⟩))
  go_ret
  exact ⟨rfl, ((Below.refl _ _).alloc (Nat.le_refl _) _).trans (hb1.mono (B' := w.heap.size) (by simp))⟩

/-- the nails of a word -/
def nailsOf (l : List UInt8) : NS := fun i => l.any fun c => nailB c == i
theorem nailsOf_snoc (l : List UInt8) (c : UInt8) : nailsOf (l ++ [c]) = orM (nailsOf l) (nailB c) := by
  funext i
  unfold nailsOf orM
  rw [List.any_append]
  congr 1
  simp only [List.any_cons, List.any_nil, Bool.or_false]
  rw [Bool.eq_iff_iff]
  simp
  omega
theorem nailsOf_nil : nailsOf [] = fun _ => false := by funext i; rfl
/-- the falling sets -/
def setsL (l : List UInt8) : List (List UInt8) := leastS (strN (nailsOf l)) (fallsP l)
def SetsPost (w : World) (l : List UInt8) (e : Ending) (w' : World) : Prop := ∃ u, e = .returned (.tuple #[u, .int .i64 0]) ∧ Strs w' u ((setsL l).map strB) ∧ Below w.heap.size w w'

theorem sets_fin (s : ByteArray) (w : World) {W : World} (hB : Below w.heap.size w W) (hbw : W.cell? ⟨w.heap.size, 0, none⟩ = some (.string s)) (hlt : w.heap.size < W.heap.size) (hw : isWord (bts s) = true) (hs : s.size < 100000000) :
    Calls Tryz.prog 40 #[nailsV (nailsOf (bts s)), .func (.func 41) #[] #[.pointer (some ⟨w.heap.size, 0, none⟩)]] W fun e w1 => ∃ u, e = .returned u ∧ Below w.heap.size w w1 ∧
      Calls Tryz.prog 39 #[u] w1 fun e w2 => ∃ u2, e = .returned u2 ∧ Strs w2 u2 ((setsL (bts s)).map strB) ∧ Below w.heap.size w w2 := by
  refine (least_any (nailsOf (bts s)) 41 #[.pointer (some ⟨w.heap.size, 0, none⟩)] (fallsP (bts s)) W (enters_of Tryz.func41 (by kernel_rfl) rfl) ?_).mono ?_
  · intro W' h hb
    rw [fallsP_str hw]
    exact fallC_any h s w.heap.size W' ((hb.cell (p := ⟨w.heap.size, 0, none⟩) hlt).trans hbw) (Nat.lt_of_lt_of_le hlt hb.size) hw hs
  · rintro e w1 ⟨u, fs, rfl, hp, ho, hS, hb1⟩
    have hB1 := hB.trans (hb1.mono hB.size)
    refine ⟨u, rfl, hB1, ?_⟩
    have hlen : fs.length ≤ 1000000000 := by
      have h1 := hp.length_eq
      rw [List.length_map] at h1
      have h2 := outOf_len (strN (nailsOf (bts s))) (fallsP (bts s)) (List.range (2 ^ (strN (nailsOf (bts s))).length))
      have h3 := Nat.pow_le_pow_right (show 2 > 0 by omega) (strN_len (nailsOf (bts s)))
      rw [List.length_range] at h2
      omega
    refine (listed_any _ u fs w1 hS hlen).mono ?_
    rintro e w2 ⟨u2, rfl, hst, hb2⟩
    refine ⟨u2, rfl, ?_, hB1.trans (hb2.mono hB1.size)⟩
    have e1 : fs.map strOf = (fs.map strN).map strB := by rw [List.map_map]; rfl
    rw [e1, least_strs (strN_rise _) (fun c hc => (mem_strN.1 hc).1) _ hp ho] at hst
    exact hst

set_option maxRecDepth 100000 in
set_option maxHeartbeats 1000000 in
theorem Sets_bad (s : ByteArray) (w : World) (hs : s.size ≤ 9223372036854775807) (h : wordErr s ≠ 0) :
    Calls Tryz.prog 28 #[.string s] w fun e w' => e = .returned (.tuple #[.slice none 0 0, .int .i64 (wordErr s)]) ∧ Below w.heap.size w w' := by
  have hck := check_any s (w.alloc (.cells #[.string s] 9)) hs
  have t0 : (wordErr s != 0) = true := by simpa using h
  generalize wordErr s = E at *
  have hcw : (w.alloc (.cells #[.string s] 9)).cell? ⟨w.heap.size, 0, none⟩ = some (.string s) := (Blk.new w 9 [.string s]).cell (j := 0) rfl
  have HCK := Lib.hid hck
  clear hck h
  go_enter Tryz.func28, Tryz.ntmps28
  go_wp2_with (go_at_call 5; refine HCK.out.mono ?_; rintro e w1 ⟨rfl, hb1⟩)
  go_ret2
  exact ⟨rfl, ((Below.refl _ _).alloc (Nat.le_refl _) _).trans (hb1.mono (B' := w.heap.size) (by simp))⟩

set_option maxRecDepth 100000 in
set_option maxHeartbeats 1000000 in
theorem Sets_any (s : ByteArray) (w : World) (h : wordErr s = 0) (hn : (strN (nailsOf (bts s))).length ≤ 10) :
    Calls Tryz.prog 28 #[.string s] w (SetsPost w (bts s)) := by
  obtain ⟨h1, h2⟩ := word_size h
  have hck := check_any s (w.alloc (.cells #[.string s] 9)) (by omega)
  rw [h] at hck
  have hfin : ∀ W, Below w.heap.size w W → W.cell? ⟨w.heap.size, 0, none⟩ = some (.string s) → w.heap.size < W.heap.size → _ := fun W a b c => sets_fin s w (W := W) a b c h1 (by omega)
  have hct := fun W => count_any (nailsOf (bts s)) W
  have hblk0 : Blk (w.alloc (.cells #[.string s] 9)) w.heap.size 9 [.string s] := Blk.new w 9 [.string s]
  have hn0 := nailsOf_nil
  have hM := marks_len (nailsOf (bts s))
  have HW := Lib.hid h1
  have HCK := Lib.hid hck
  have HFIN := Lib.hid hfin
  have HCT := Lib.hid hct
  have HBL0 := Lib.hid hblk0
  have HM := Lib.hid hM
  have hc0 := hblk0.cell (j := 0) rfl
  clear hck hfin hct hblk0 h h1 hM
  go_enter Tryz.func28, Tryz.ntmps28
  go_wp2_with (go_at_call 5; refine HCK.out.mono ?_)
  rintro e w1 ⟨rfl, hb1⟩
  have hbl1 := HBL0.out.keep hb1
  have hc1 := hbl1.cell (j := 0) rfl
  have hB1 : Below w.heap.size w w1 := ((Below.refl _ _).alloc (Nat.le_refl _) _).trans (hb1.mono (B' := w.heap.size) (by simp))
  have hs1 : w.heap.size + 1 ≤ w1.heap.size := by have := hb1.size; simpa using this
  have hz := Blk.new w1 45 zeroL
  have hz2 : zeroL = marksL (nailsOf ((bts s).take 0)) := by rw [List.take_zero, nailsOf_nil]; simp [marksL, List.range, List.range.loop]
  rw [hz2] at hz
  have hblz := hbl1.alloc (.cells (marksL (nailsOf ((bts s).take 0))).toArray 45)
  have hBz := hB1.alloc (by omega) (.cells (marksL (nailsOf ((bts s).take 0))).toArray 45)
  have hwz : w1.alloc (.cells zeroL.toArray 45) = w1.alloc (.cells (marksL (nailsOf ((bts s).take 0))).toArray 45) := by rw [hz2]
  obtain ⟨wz, hwzz⟩ : ∃ wz, w1.alloc (.cells (marksL (nailsOf ((bts s).take 0))).toArray 45) = wz := ⟨_, rfl⟩
  rw [hwzz] at hz hblz hBz hwz
  have HZ := Lib.hid hz
  have HBL := Lib.hid hblz
  have HBZ := Lib.hid hBz
  have HWZ := Lib.hid hwz
  obtain ⟨g5, hg5⟩ : ∃ g5, w1.heap.size = g5 := ⟨_, rfl⟩
  rw [hg5] at HZ
  have hg5' : w.heap.size < g5 := by omega
  clear hz hblz hBz hwz hwzz hz2 hb1 hbl1 hB1
  go_wp2_with fail
  go_loopw [14] (fun jv wx => ∃ j : Nat, j ≤ s.size ∧ jv = .int .i64 j ∧ Hid (Blk wx g5 45 (marksL (nailsOf ((bts s).take j)))) ∧ Hid (Blk wx w.heap.size 9 [.string s]) ∧ Hid (Below w.heap.size w wx)) (fun jv _ => s.size - (intOf jv).toNat)
  case atStart => exact ⟨0, by omega, rfl, by rw [HWZ.out]; exact HZ, by rw [HWZ.out]; exact HBL, by rw [HWZ.out]; exact HBZ⟩
  case round =>
    clear HZ HBL HBZ HWZ hc1 hs1
    obtain ⟨j, hj, rfl, HB, HBL, HBB⟩ := hrel
    have hcw := HBL.out.cell (j := 0) rfl
    by_cases hlt : j < s.size
    · have hlet := letter_at HW.out hlt
      have hno := fun W => nailOf_any (s[j]'hlt) W hlet
      have hn26 := nail_lt hlet
      have hcell := HB.out.cell (marks_get (f := nailsOf ((bts s).take j)) hn26)
      have hfree := HB.out.free (nailB (s[j]'hlt))
      have hset := HB.out.set (nailB (s[j]'hlt)) (.bool true)
      rw [marks_set, ← nailsOf_snoc, ← take_bts hlt] at hset
      have HNO := Lib.hid hno
      have HSET := Lib.hid hset
      clear hno hset hlet
      go_wp2_with (go_at_call 33; refine (HNO.out _).mono ?_; rintro e w3 ⟨rfl, rfl⟩)
      go_roundw
      case rel => exact ⟨j + 1, by omega, by go_num, HSET, HBL.out.other (by simp; omega) _, HBB.out.setCell (p := ⟨g5, nailB (s[j]'hlt), none⟩) (by simp; omega) _⟩
      case measure => simp [intOf]; omega
    · obtain rfl : j = s.size := by omega
      rw [List.take_of_length_le (by rw [bts_len]; exact Nat.le_refl _)] at HB
      generalize hl : (strN (nailsOf (bts s))).length = m at *
      have hgt : ¬ (10 : Int) < (m : Int) := by omega
      have hbl := HBL.out
      have hfin := HFIN.out
      have hct2 := HCT.out
      unfold nailsV at hct2 hfin
      clear HCT
      generalize hMM : marksL (nailsOf (bts s)) = M at *
      have HCT := Lib.hid hct2
      clear hct2
      go_wp2_with (first
        | ((with_reducible show wpList _ _ _ (Oper.mk _ (Op.load 45 _) _ _ _ _ :: _) _ _); refine wpList_loadB HB.out Tryz.size45 HM.out Tryz.underlying45 rfl rfl _ rfl rfl ?_)
        | (go_at_call 38; refine (HCT.out _).mono ?_))
      rintro e w4 rfl hu4
      have hB4 := HBB.out.trans (hu4.below.mono HBB.out.size)
      have hb4 := hbl.keep hu4.below
      have HB4 := Lib.hid (HB.out.keep hu4.below)
      have hfin2 := hfin w4 hB4 (hb4.cell (j := 0) rfl) (by have := hb4.lt; exact this)
      have HF := Lib.hid hfin2
      clear hfin2 hfin hb4 hbl hu4 hB4 hMM
      have hgt2 : decide ((10 : Int) < (m : Int)) = false := decide_eq_false (by omega)
      go_wp2_with (first
        | ((with_reducible show wpList _ _ _ (Oper.mk _ (Op.load 45 _) _ _ _ _ :: _) _ _); refine wpList_loadB HB4.out Tryz.size45 HM.out Tryz.underlying45 rfl rfl _ rfl rfl ?_)
        | (go_at_call 40; refine HF.out.mono ?_; rintro e w5 ⟨u, rfl, hb5, hc5⟩; have HC5 := Lib.hid hc5; clear hc5)
        | (go_at_call 39; refine HC5.out.mono ?_; rintro e w6 ⟨u2, rfl, hst6, hb6⟩))
      go_ret2
      exact ⟨u2, rfl, hst6, hb6⟩
end Go.Proofs.YtjdmmgaddbleeaaGreat

/- Sets of nails read from strings: the walk. -/
namespace Go.Proofs.YtjdmmgaddbleeaaGreat
open Go.RowKit

/-- append of one set, which the walk has just laid in a new block. -/
theorem wpList_appS {w : World} {ops : Array Oper} {rest : List Oper} {o : Oper} {a : Act} {Q : Exit → Act → World → Prop}
    {base : Nat} {v : Value} {fs : List NS} (hown : OwnS w base v fs) (hb : base ≤ w.heap.size) (hl : fs.length < 1000000000)
    (hgd : o.guard = none) (s x : Operand) (ho : o.op = .call { callee := .builtin .append, args := #[s, x], argTypes := #[64, 64] })
    {f : NS} {M : List Value} (hM : marksL f = M) (hs : a.eval s = v) {g' : Nat} (hx : a.eval x = .slice (some ⟨g', 0, none⟩) 1 1) (hg' : w.heap.size = g')
    (hK : ∀ v' w', OwnS w' base v' (fs ++ [f]) → w.grownBy w' v.ownBlock → Below base w w' → (∃ g c, v' = .slice (some ⟨g, 0, none⟩) (fs.length + 1) c) → wpList Tryz.prog ops Q rest (a.put o.dst v') w') :
    wpList Tryz.prog ops Q (o :: rest) a (w.alloc (.cells M.toArray 45)) := by
  subst hg'
  obtain ⟨i, h2, h3, h4, h5⟩ := info_parts Tryz.info45
  have hml : M.length = 26 := by rw [← hM, marks_len]
  have hm1 : ∀ v ∈ M, v.oneCell' = true := by rw [← hM]; exact marks_one f
  refine wpList_append_own _ hgd s x 64 ho base 45 i zeroV 26 26 Tryz.underlying64 h2 h3 h4 h5 (by rfl) (by decide) v fs.length _ hs (World.ownsRow.alloc hown _) ⟨w.heap.size, 0, none⟩ 1 1 M hx (by rw [hml]) ?_ hm1 ?_ ?_ ?_ ?_
  · intro j u hj; rw [Addr.add_mid]; exact (Blk.new w 45 M).range j u hj
  · unfold maxLen; omega
  · omega
  · simp; omega
  · intro v' w1 hown1 hg1 _
    have hlt := World.ownsRow.lt hown
    have hb1 : Below base w w1 := by
      refine ((Below.refl base w).alloc hb _).grown hg1 (by simp; omega) ?_
      intro k hk
      exact (hlt k hk).1
    have hown2 : OwnS w1 base v' (fs ++ [f]) := by
      unfold OwnS
      rw [flatN_snoc, hM, List.length_append, List.length_singleton]
      exact hown1
    refine hK v' w1 hown2 ?_ hb1 ?_
    · refine ⟨hg1.os, hg1.tape, hg1.output, Nat.le_trans (by simp) hg1.size, fun k hk hne => ?_⟩
      rw [hg1.block k (by simp; omega) hne]
      exact Below.heap_alloc w _ k hk
    · rcases hown1.2 with ⟨_, h0⟩ | ⟨g, cap, cur, rfl, _⟩
      · omega
      · exact ⟨g, cap, rfl⟩
theorem fold_zero {M : List Value} (h : M.length = 26) : List.foldl (fun (cs : Array Value) (x : Value × Nat) => cs.setIfInBounds x.snd x.fst) #[.bool false, .bool false, .bool false, .bool false, .bool false, .bool false, .bool false, .bool false, .bool false, .bool false, .bool false, .bool false, .bool false, .bool false, .bool false, .bool false, .bool false, .bool false, .bool false, .bool false, .bool false, .bool false, .bool false, .bool false, .bool false, .bool false] M.zipIdx = M.toArray :=
  fold_set M zeroL [] (by rw [h]; rfl)

abbrev markB (s : ByteArray) : NS := marksOf (bts s)
set_option maxRecDepth 100000 in
set_option maxHeartbeats 1000000 in
theorem read_any (v : Value) (ss : List ByteArray) (w : World) (hv : Strs w v ss) (hl : ss.length ≤ 100) (hset : ∀ s ∈ ss, isSet 0 (bts s) = true ∧ s.size ≤ 1000) :
    Calls Tryz.prog 42 #[v] w fun e w' => ∃ u, e = .returned (.tuple #[u, .int .i64 0]) ∧ OwnS w' w.heap.size u (ss.map markB) ∧ Below w.heap.size w w' := by
  obtain ⟨a, n, cap, rfl, HN, hn1, hn2⟩ := hv.open
  have hn : ¬ (100 : Int) < (n : Int) := by have := HN.out; omega
  have hnn : n ≤ 100 := by omega
  have HV := Lib.hid hv
  have HSET := Lib.hid hset
  clear hv hset hl
  go_enter Tryz.func42, Tryz.ntmps42
  go_wp2_with fail
  go_loopw [4, 14] (fun uv iv wr => ∃ k : Nat, k ≤ n ∧ iv = .int .i64 k ∧ Hid (OwnS wr w.heap.size uv ((ss.take k).map markB)) ∧ Hid (Below w.heap.size w wr)) (fun _ iv _ => n - (intOf iv).toNat)
  case atStart => exact ⟨0, by omega, rfl, (show Hid (w.ownsRow w.heap.size 45 26 (.slice none 0 0) 0 []) from World.ownsRow_nil w w.heap.size 45 26), (show Hid _ from Below.refl _ _)⟩
  case round =>
    obtain ⟨k, hk, rfl, HO, HB⟩ := hrel
    by_cases hlt : k < n
    · obtain ⟨b, o, s, rfl, hbl, hgs, hc0⟩ := HV.out.at_ hlt
      have hc1 := (HB.out.cell (p := ⟨b, o + k, none⟩) hbl).trans hc0
      obtain ⟨hs1, hs2⟩ := HSET.out s (List.mem_of_getElem? hgs.out)
      have hso := setOf_any s wr (by omega)
      rw [hs1, setV, hs1, if_pos rfl] at hso
      have htk : (ss.take (k + 1)).map markB = (ss.take k).map markB ++ [markB s] := by
        rw [List.take_add_one, hgs.out]; simp
      have hlen : ((ss.take k).map markB).length < 1000000000 := by rw [List.length_map, List.length_take]; omega
      have hml := marks_len (markB s)
      have hm1 := marks_one (markB s)
      unfold nailsV at hso
      generalize hMM : marksL (markB s) = M at *
      have HSO := Lib.hid hso
      have HTK := Lib.hid htk
      have HLEN := Lib.hid hlen
      have HM1 := Lib.hid hm1
      have HML := Lib.hid hml
      have HMM := Lib.hid hMM
      clear hso htk hlen hm1 hMM hc0 hs1 hs2
      go_wp2_with (go_at_call 22; refine HSO.out.mono ?_)
      rintro e w1 ⟨rfl, hb1⟩
      have hbn := Blk.new w1 45 zeroL
      have hll : zeroL.length = M.length := by rw [HML.out]; rfl
      have hbs := hbn.setAll hll
      have hbel : Below w1.heap.size w1 ((w1.alloc (.cells zeroL.toArray 45)).setCells w1.heap.size 0 M) := below_setCells (Nat.le_refl _) _ _ ((Below.refl _ _).alloc (Nat.le_refl _) _)
      have hbel2 := hb1.trans (hbel.mono hb1.size)
      have hown1 := World.ownsRow.keep HO.out hbel2
      have hsz := Nat.le_trans HB.out.size hbel2.size
      have hbw := HB.out.trans (hbel2.mono HB.out.size)
      have hfold := fold_zero HML.out
      have HBN := Lib.hid hbn
      have HLL := Lib.hid hll
      have HBS := Lib.hid hbs
      have HOWN := Lib.hid hown1
      have HBW := Lib.hid hbw
      have HSZ := Lib.hid hsz
      clear hbn hll hbs hbel hbel2 hown1 hsz hbw hb1
      go_wp2_with (first
        | ((with_reducible show wpList _ _ _ (Oper.mk _ (Op.load 45 (.tmp 7)) _ _ _ _ :: _) _ _); refine wpList_loadB HBS.out Tryz.size45 HML.out Tryz.underlying45 rfl rfl _ rfl rfl ?_)
        | ((with_reducible show wpList _ _ _ (Oper.mk _ (Op.store 45 _ _) _ _ _ _ :: _) _ _); refine wpList_storeB (vs := M) HBN.out Tryz.size45 HML.out HLL.out HM1.out rfl _ _ rfl rfl rfl ?_)
        | (at_builtin; refine wpList_appS HOWN.out HSZ.out HLEN.out rfl _ _ rfl HMM.out rfl rfl (by simp) ?_; intro v2 w2 hown2 hg2 hb2 hsh2))
      go_roundw
      case rel => exact ⟨k + 1, by omega, by go_num, by show OwnS _ _ _ _; rw [HTK.out]; exact hown2, HBW.out.trans hb2⟩
      case measure => simp [intOf]; omega
    · obtain rfl : k = n := by omega
      rw [List.take_of_length_le (by rw [HN.out]; exact Nat.le_refl _)] at HO
      go_wp2_with fail
      go_ret2
      exact ⟨_, rfl, HO.out, HB.out⟩
end Go.Proofs.YtjdmmgaddbleeaaGreat

/- All nails of some sets: many, and dual: the walks. -/
namespace Go.Proofs.YtjdmmgaddbleeaaGreat
open Go.RowKit

/-- the nails of any of some sets -/
def unionN (fs : List NS) : NS := fun i => fs.any fun f => f i
def halfN (h f : NS) (j : Nat) : NS := fun i => h i || (decide (i < j) && f i)
theorem marks_congr {f g : NS} (h : ∀ i, i < 26 → f i = g i) : marksL f = marksL g := by
  unfold marksL
  apply List.map_congr_left
  intro i hi
  rw [h i (by simpa using hi)]
theorem marks_put (h : NS) (j : Nat) (b : Bool) : (marksL h).set j (.bool b) = marksL fun i => if i = j then b else h i := by
  apply List.ext_getElem?
  intro i
  by_cases hi : i < 26
  · rw [marks_get hi]
    by_cases hj : j = i
    · subst hj; rw [List.getElem?_set_self (by rw [marks_len]; exact hi)]; simp
    · rw [List.getElem?_set_ne hj, marks_get hi]
      rw [if_neg (fun e => hj e.symm)]
  · rw [List.getElem?_eq_none (by rw [List.length_set, marks_len]; omega), List.getElem?_eq_none (by rw [marks_len]; omega)]
theorem marks_half (h f : NS) (j : Nat) (b : Bool) (hb : b = (h j || f j)) : (marksL (halfN h f j)).set j (.bool b) = marksL (halfN h f (j + 1)) := by
  rw [marks_put]
  apply marks_congr
  intro i _
  unfold halfN
  by_cases hi : i = j
  · subst hi; rw [if_pos rfl, hb]; simp
  · rw [if_neg hi]
    by_cases h2 : i < j
    · rw [decide_eq_true h2, decide_eq_true (by omega : i < j + 1)]
    · rw [decide_eq_false h2, decide_eq_false (by omega : ¬ i < j + 1)]
theorem half_zero (h f : NS) : marksL (halfN h f 0) = marksL h := by
  apply marks_congr; intro i _; unfold halfN; simp
theorem half_all (fs : List NS) {k : Nat} {f : NS} (hf : fs[k]? = some f) : marksL (halfN (unionN (fs.take k)) f 26) = marksL (unionN (fs.take (k + 1))) := by
  apply marks_congr
  intro i hi
  unfold halfN unionN
  rw [List.take_add_one, hf, List.any_append, decide_eq_true hi]
  simp
theorem half_at (h f : NS) (j : Nat) : halfN h f j j = h j := by unfold halfN; simp

set_option maxRecDepth 100000 in
set_option maxHeartbeats 2000000 in
theorem many_any (base : Nat) (v : Value) (fs : List NS) (w : World) (hv : SetsAt w base v fs) (hl : fs.length ≤ 1000000) :
    Calls Tryz.prog 43 #[v] w fun e w' => e = .returned (.bool (decide (10 < (strN (unionN fs)).length))) ∧ Below w.heap.size w w' := by
  obtain ⟨n, hn⟩ : ∃ n, fs.length = n := ⟨_, rfl⟩
  obtain ⟨a, c, rfl, hc1, hc2⟩ := hv.shape hn
  rw [hn] at hl
  obtain ⟨g3, hg3⟩ : ∃ g3, w.heap.size = g3 := ⟨_, rfl⟩
  have hz := Blk.new w 45 zeroL
  have hz2 : zeroL = marksL (unionN (fs.take 0)) := by rw [List.take_zero]; simp [marksL, unionN, List.range, List.range.loop]
  have hz3 : Blk (w.alloc (.cells zeroL.toArray 45)) g3 45 (marksL (unionN (fs.take 0))) := by rw [← hg3, ← hz2]; exact hz
  have HZ := Lib.hid hz3
  have HBZ := Lib.hid (show Below w.heap.size w (w.alloc (.cells zeroL.toArray 45)) from (Below.refl _ _).alloc (Nat.le_refl _) _)
  have hg3' : w.heap.size ≤ g3 := by omega
  clear hz hz2 hz3
  have HN := Lib.hid hn
  have HV := Lib.hid hv
  clear hv hn
  go_enter Tryz.func43, Tryz.ntmps43
  go_wp2_with fail
  go_loopw [10] (fun iv wr => ∃ k : Nat, k ≤ n ∧ iv = .int .i64 k ∧ Hid (Blk wr g3 45 (marksL (unionN (fs.take k)))) ∧ Hid (Below w.heap.size w wr) ∧ g3 < wr.heap.size) (fun iv _ => n - (intOf iv).toNat)
  case atStart => exact ⟨0, by omega, rfl, HZ, HBZ, by simp; omega⟩
  case round =>
    clear HZ HBZ
    obtain ⟨k, hk, rfl, HB, HBB, hg3⟩ := hrel
    obtain ⟨w2, rfl⟩ : ∃ w2, w2 = wr := ⟨_, rfl⟩
    by_cases hlt : k < n
    · have hsets := HV.out.keep HBB.out
      obtain ⟨g, f, rfl, hf, hrg⟩ := hsets.at_ hlt
      have hall := half_all fs hf.out
      have hix := fun j (h : j < 26) => marks_get (f := f) h
      have hml := marks_len f
      have hm1 := marks_one f
      rw [← half_zero _ f] at HB
      generalize unionN (fs.take k) = h at *
      have HIX := Lib.hid hix
      generalize marksL f = M at *
      have hbn := Blk.new w2 45 zeroL
      have hll : zeroL.length = M.length := by rw [hml]; rfl
      have hbs := hbn.setAll hll
      have hbel : Below w2.heap.size w2 ((w2.alloc (.cells zeroL.toArray 45)).setCells w2.heap.size 0 M) := below_setCells (Nat.le_refl _) _ _ ((Below.refl _ _).alloc (Nat.le_refl _) _)
      have hblk2 := Lib.hid (HB.out.keep hbel)
      have hbw := Lib.hid (HBB.out.trans (hbel.mono HBB.out.size))
      have HML := Lib.hid hml
      have HM1 := Lib.hid hm1
      have HALL := Lib.hid hall
      have HRG := Lib.hid hrg
      have HBN := Lib.hid hbn
      have HLL := Lib.hid hll
      have HBS := Lib.hid hbs
      clear hbn hll hbs hbel hall hix hml hm1 hsets hrg hf
      go_wp2_with (first
        | ((with_reducible show wpList _ _ _ (Oper.mk _ (Op.load 45 (.tmp 12)) _ _ _ _ :: _) _ _); refine wpList_load_mid rfl _ _ rfl g (k * 26) rfl M _ HRG.out Tryz.underlying45 rfl (by rw [Tryz.size45, HML.out]) ?_)
        | ((with_reducible show wpList _ _ _ (Oper.mk _ (Op.load 45 (.tmp 5)) _ _ _ _ :: _) _ _); refine wpList_loadB HBS.out Tryz.size45 HML.out Tryz.underlying45 rfl rfl _ rfl rfl ?_)
        | ((with_reducible show wpList _ _ _ (Oper.mk _ (Op.store 45 _ _) _ _ _ _ :: _) _ _); refine wpList_storeB (vs := M) HBN.out Tryz.size45 HML.out HLL.out HM1.out rfl _ _ rfl rfl rfl ?_))
      go_loopw [15] (fun jv wx => ∃ j : Nat, j ≤ 26 ∧ jv = .int .i64 j ∧ Hid (Blk wx g3 45 (marksL (halfN h f j))) ∧ Hid (Below w.heap.size w wx) ∧ g3 < wx.heap.size) (fun jv _ => 26 - (intOf jv).toNat)
      case atStart => exact ⟨0, by omega, rfl, hblk2, hbw, hblk2.out.lt⟩
      case round =>
        clear hblk2 hbw
        obtain ⟨j, hj, rfl, HB, HBB, hg3⟩ := hrel
        by_cases hlt2 : j < 26
        · have h1 := HIX.out j hlt2
          have hidx := idx67 hlt2 h1
          have hcell := HB.out.cell (marks_get (f := halfN h f j) hlt2)
          rw [half_at] at hcell
          have hfree := HB.out.free j
          have hset : ∀ b, b = (h j || f j) → Blk (wr.setCell ⟨g3, j, none⟩ (.bool b)) g3 45 (marksL (halfN h f (j + 1))) := fun b hb => by
            have := HB.out.set j (.bool b)
            rwa [marks_half h f j b hb] at this
          have HSET := Lib.hid hset
          generalize h j = x at *
          generalize f j = y at *
          clear hset h1
          cases x
          all_goals cases y
          all_goals go_wp2_with fail
          all_goals go_roundw
          all_goals first
            | (case rel => exact ⟨j + 1, by omega, by go_num, HSET.out _ rfl, HBB.out.setCell (p := ⟨g3, j, none⟩) (by simp; omega) _, by simpa using hg3⟩)
            | (case measure => simp [intOf]; omega)
        · obtain rfl : j = 26 := by omega
          rw [HALL.out] at HB
          go_wp2_with fail
          go_roundw
          case rel => exact ⟨k + 1, by omega, by go_num, HB, HBB, hg3⟩
          case measure => simp [intOf]; omega
    · obtain rfl : k = n := by omega
      rw [List.take_of_length_le (by rw [HN.out]; exact Nat.le_refl _)] at HB
      have hct := count_any (unionN fs) w2
      have hM := marks_len (unionN fs)
      generalize hr : decide (10 < (strN (unionN fs)).length) = r
      have hr2 : decide ((10 : Int) < ((strN (unionN fs)).length : Int)) = r := by rw [← hr, Bool.eq_iff_iff]; simp; omega
      unfold nailsV at hct
      generalize marksL (unionN fs) = M at *
      have HR := Lib.hid hr
      clear hr
      generalize (strN (unionN fs)).length = m at hct hr2
      have HCT := Lib.hid hct
      have HM := Lib.hid hM
      clear hct hM
      go_wp2_with (first
        | ((with_reducible show wpList _ _ _ (Oper.mk _ (Op.load 45 _) _ _ _ _ :: _) _ _); refine wpList_loadB HB.out Tryz.size45 HM.out Tryz.underlying45 rfl rfl _ rfl rfl ?_)
        | (go_at_call 38; refine HCT.out.mono ?_; rintro e w4 ⟨rfl, hu4⟩))
      go_ret
      exact ⟨by rw [HR.out]; rfl, HBB.out.trans (hu4.below.mono HBB.out.size)⟩
end Go.Proofs.YtjdmmgaddbleeaaGreat

/- The dual: the walk. -/
namespace Go.Proofs.YtjdmmgaddbleeaaGreat
open Go.RowKit

/-- whether a set meets all of some sets -/
def dualP (fs : List NS) (t : List UInt8) : Bool := fs.all fun x => meetM x (marksOf t)
theorem meet_str (x h : NS) : meetM x (marksOf (strN h)) = meetM x h := by
  unfold meetM
  have : ∀ (l : List Nat), (∀ i ∈ l, i < 26) → (l.any fun i => x i && marksOf (strN h) i) = l.any fun i => x i && h i := by
    intro l
    induction l with
    | nil => intro _; rfl
    | cons a l ih => intro hl; rw [List.any_cons, List.any_cons, ih (fun i hi => hl i (List.mem_cons_of_mem _ hi)), marks_strN (hl a (by simp))]
  exact this _ fun i hi => by simpa using hi

/-- The inner closure of dual: whether a set does not meet the one in the box. -/
theorem unmet_pred (Bx : Nat) (s : NS) (w : World) (hb : Blk w Bx 45 (marksL s)) : PredBelow Tryz.prog 59 #[.pointer (some ⟨Bx, 0, none⟩)] (fun x => nailsV x) (fun x => !meetM x s) w := by
  intro W x hB
  have hb2 := hb.below hB hb.lt
  have hin := fun W => meets_any x s W
  show Calls Tryz.prog 59 #[nailsV x, .pointer (some ⟨Bx, 0, none⟩)] W fun e w' => e = .returned (.bool (!meetM x s)) ∧ Below w.heap.size w w'
  have hm1 := marks_len x
  have hm2 := marks_len s
  have hbx := Blk.new W 45 (marksL x)
  have hbs := hb2.alloc (.cells (marksL x).toArray 45)
  unfold nailsV at hin ⊢
  generalize marksL x = M at *
  generalize marksL s = N at *
  generalize meetM x s = R at *
  have HIN := Lib.hid hin
  have HM1 := Lib.hid hm1
  have HM2 := Lib.hid hm2
  have HBX := Lib.hid hbx
  have HBS := Lib.hid hbs
  have HBB := Lib.hid hB
  clear hin hm1 hm2 hbx hbs hb2 hb hB
  go_enter Tryz.func59, Tryz.ntmps59
  go_wp2_with (first
    | ((with_reducible show wpList _ _ _ (Oper.mk _ (Op.load 45 (.tmp 2)) _ _ _ _ :: _) _ _); refine wpList_loadB HBX.out Tryz.size45 HM1.out Tryz.underlying45 rfl rfl _ rfl rfl ?_)
    | ((with_reducible show wpList _ _ _ (Oper.mk _ (Op.load 45 (.tmp 1)) _ _ _ _ :: _) _ _); refine wpList_loadB HBS.out Tryz.size45 HM2.out Tryz.underlying45 rfl rfl _ rfl rfl ?_)
    | (go_at_call 60; refine (HIN.out _).mono ?_; rintro e w1 ⟨rfl, hb1⟩))
  go_ret
  exact ⟨rfl, HBB.out.trans ((((Below.refl _ _).alloc (Nat.le_refl _) _).trans (hb1.mono (B' := W.heap.size) (by simp))).mono HBB.out.size)⟩

/-- The closure of dual: whether a set meets all. -/
theorem dualC_any (h : NS) (fs : List NS) (base Bl : Nat) (v : Value) (w : World) (hv : SetsAt w base v fs) (hb : Blk w Bl 64 [v]) :
    Calls Tryz.prog 58 #[nailsV h, .pointer (some ⟨Bl, 0, none⟩)] w fun e w' => e = .returned (.bool (dualP fs (strN h))) ∧ Below w.heap.size w w' := by
  have hal : Below w.heap.size w (w.alloc (.cells (marksL h).toArray 45)) := (Below.refl _ _).alloc (Nat.le_refl _) _
  have hcv := (hb.alloc (.cells (marksL h).toArray 45)).cell (j := 0) rfl
  have hcon := containsF_any (fun x => !meetM x h) 59 #[.pointer (some ⟨w.heap.size, 0, none⟩)] (enters_of Tryz.func59 (by kernel_rfl) rfl) base v fs _ (hv.keep hal) (unmet_pred w.heap.size h _ (Blk.new w 45 (marksL h)))
  have hr : (!(fs.any fun x => !meetM x h)) = dualP fs (strN h) := by
    unfold dualP
    rw [List.not_any_eq_all_not]
    congr 1
    funext x
    rw [meet_str, Bool.not_not]
  generalize dualP fs (strN h) = R at *
  generalize (fs.any fun x => !meetM x h) = T at *
  unfold nailsV
  generalize marksL h = M at *
  obtain ⟨a, c, rfl, _, _⟩ := hv.shape rfl
  have HC := Lib.hid hcon
  have HR := Lib.hid hr
  clear hcon hr hv hb hal
  go_enter Tryz.func58, Tryz.ntmps58
  go_wp2_with (go_at_call 53; refine HC.out.mono ?_; rintro e w1 ⟨rfl, hb1⟩)
  go_ret
  exact ⟨by rw [← HR.out]; rfl, ((Below.refl _ _).alloc (Nat.le_refl _) _).trans (hb1.mono (B' := w.heap.size) (by simp))⟩

/-- what dual answers -/
def DualPost (w : World) (fs : List NS) (e : Ending) (w' : World) : Prop :=
  ∃ u ds, e = .returned u ∧ ds.map strN = leastS (strN (unionN fs)) (dualP fs) ∧ ds.length ≤ 67108864 ∧ SetsAt w' w.heap.size u ds ∧ Below w.heap.size w w'
theorem dual_fin (fs : List NS) (base : Nat) (v : Value) (w W : World) (hB : Below w.heap.size w W) (hv : SetsAt w base v fs) (hb : Blk W w.heap.size 64 [v]) (_hlt : w.heap.size < W.heap.size) :
    Calls Tryz.prog 40 #[nailsV (unionN fs), .func (.func 58) #[] #[.pointer (some ⟨w.heap.size, 0, none⟩)]] W (DualPost w fs) := by
  refine (least_any (unionN fs) 58 #[.pointer (some ⟨w.heap.size, 0, none⟩)] (dualP fs) W (enters_of Tryz.func58 (by kernel_rfl) rfl) ?_).mono ?_
  · intro W' h hb2
    exact dualC_any h fs base w.heap.size v W' ((hv.keep hB).keep hb2) (hb.keep hb2)
  · rintro e w1 ⟨u, ds, rfl, hp, ho, hS, hb1⟩
    refine ⟨u, ds, rfl, least_strs (strN_rise _) (fun c hc => (mem_strN.1 hc).1) _ hp ho, ?_, hS.mono hB.size, hB.trans (hb1.mono hB.size)⟩
    have h1 := hp.length_eq
    rw [List.length_map] at h1
    have h2 := outOf_len (strN (unionN fs)) (dualP fs) (List.range (2 ^ (strN (unionN fs)).length))
    have h3 := Nat.pow_le_pow_right (show 2 > 0 by omega) (strN_len (unionN fs))
    rw [List.length_range] at h2
    omega

set_option maxRecDepth 100000 in
set_option maxHeartbeats 2000000 in
theorem dual_any (base : Nat) (v : Value) (fs : List NS) (w : World) (hv : SetsAt w base v fs) (hl : fs.length ≤ 1000000) :
    Calls Tryz.prog 45 #[v] w (DualPost w fs) := by
  obtain ⟨n, hn⟩ : ∃ n, fs.length = n := ⟨_, rfl⟩
  obtain ⟨a, c, rfl, hc1, hc2⟩ := hv.shape hn
  rw [hn] at hl
  obtain ⟨g3, hg3⟩ : ∃ g3, w.heap.size + 1 = g3 := ⟨_, rfl⟩
  have hz := Blk.new (w.alloc (.cells #[.slice a n c] 64)) 45 zeroL
  rw [World.size_alloc, hg3] at hz
  have hz2 : zeroL = marksL (unionN (fs.take 0)) := by rw [List.take_zero]; simp [marksL, unionN, List.range, List.range.loop]
  have hz3 : Blk ((w.alloc (.cells #[.slice a n c] 64)).alloc (.cells zeroL.toArray 45)) g3 45 (marksL (unionN (fs.take 0))) := by rw [← hz2]; exact hz
  have hv0 := (Blk.new w 64 [.slice a n c]).alloc (.cells zeroL.toArray 45)
  have HZ := Lib.hid hz3
  have HV0 := Lib.hid hv0
  have HBZ := Lib.hid (show Below w.heap.size w ((w.alloc (.cells #[.slice a n c] 64)).alloc (.cells zeroL.toArray 45)) from ((Below.refl _ _).alloc (Nat.le_refl _) _).alloc (by simp) _)
  have hg3' : w.heap.size < g3 := by omega
  have hc0 := hv0.cell (j := 0) rfl
  have hlen0 : (0 : Int) ≤ (n : Int) := by omega
  have HFIN := Lib.hid (fun W a b c => dual_fin fs base _ w W a hv b c)
  clear hz hz2 hz3 hv0
  have HN := Lib.hid hn
  have HV := Lib.hid hv
  clear hv hn
  go_enter Tryz.func45, Tryz.ntmps45
  go_wp2_with fail
  go_loopw [10] (fun iv wr => ∃ k : Nat, k ≤ n ∧ iv = .int .i64 k ∧ Hid (Blk wr g3 45 (marksL (unionN (fs.take k)))) ∧ Hid (Below w.heap.size w wr) ∧ g3 < wr.heap.size ∧ Hid (Blk wr w.heap.size 64 [.slice a n c])) (fun iv _ => n - (intOf iv).toNat)
  case atStart => exact ⟨0, by omega, rfl, HZ, HBZ, by simp; omega, HV0⟩
  case round =>
    clear HZ HBZ HV0 hc0
    obtain ⟨k, hk, rfl, HB, HBB, hg3, HBV⟩ := hrel
    obtain ⟨w2, rfl⟩ : ∃ w2, w2 = wr := ⟨_, rfl⟩
    by_cases hlt : k < n
    · have hsets := HV.out.keep HBB.out
      obtain ⟨g, f, rfl, hf, hrg⟩ := hsets.at_ hlt
      have hall := half_all fs hf.out
      have hix := fun j (h : j < 26) => marks_get (f := f) h
      have hml := marks_len f
      have hm1 := marks_one f
      rw [← half_zero _ f] at HB
      generalize unionN (fs.take k) = h at *
      have HIX := Lib.hid hix
      generalize marksL f = M at *
      have hbn := Blk.new w2 45 zeroL
      have hll : zeroL.length = M.length := by rw [hml]; rfl
      have hbs := hbn.setAll hll
      have hbel : Below w2.heap.size w2 ((w2.alloc (.cells zeroL.toArray 45)).setCells w2.heap.size 0 M) := below_setCells (Nat.le_refl _) _ _ ((Below.refl _ _).alloc (Nat.le_refl _) _)
      have hblk2 := Lib.hid (HB.out.keep hbel)
      have hbw := Lib.hid (HBB.out.trans (hbel.mono HBB.out.size))
      have hbv2 := Lib.hid (HBV.out.keep hbel)
      have HML := Lib.hid hml
      have HM1 := Lib.hid hm1
      have HALL := Lib.hid hall
      have HRG := Lib.hid hrg
      have HBN := Lib.hid hbn
      have HLL := Lib.hid hll
      have HBS := Lib.hid hbs
      clear hbn hll hbs hbel hall hix hml hm1 hsets hrg hf
      go_wp2_with (first
        | ((with_reducible show wpList _ _ _ (Oper.mk _ (Op.load 45 (.tmp 12)) _ _ _ _ :: _) _ _); refine wpList_load_mid rfl _ _ rfl g (k * 26) rfl M _ HRG.out Tryz.underlying45 rfl (by rw [Tryz.size45, HML.out]) ?_)
        | ((with_reducible show wpList _ _ _ (Oper.mk _ (Op.load 45 (.tmp 5)) _ _ _ _ :: _) _ _); refine wpList_loadB HBS.out Tryz.size45 HML.out Tryz.underlying45 rfl rfl _ rfl rfl ?_)
        | ((with_reducible show wpList _ _ _ (Oper.mk _ (Op.store 45 _ _) _ _ _ _ :: _) _ _); refine wpList_storeB (vs := M) HBN.out Tryz.size45 HML.out HLL.out HM1.out rfl _ _ rfl rfl rfl ?_))
      go_loopw [15] (fun jv wx => ∃ j : Nat, j ≤ 26 ∧ jv = .int .i64 j ∧ Hid (Blk wx g3 45 (marksL (halfN h f j))) ∧ Hid (Below w.heap.size w wx) ∧ g3 < wx.heap.size ∧ Hid (Blk wx w.heap.size 64 [.slice (some ⟨g, 0, none⟩) n c])) (fun jv _ => 26 - (intOf jv).toNat)
      case atStart => exact ⟨0, by omega, rfl, hblk2, hbw, hblk2.out.lt, hbv2⟩
      case round =>
        clear hblk2 hbw hbv2
        obtain ⟨j, hj, rfl, HB, HBB, hg3, HBV⟩ := hrel
        by_cases hlt2 : j < 26
        · have h1 := HIX.out j hlt2
          have hidx := idx67 hlt2 h1
          have hcell := HB.out.cell (marks_get (f := halfN h f j) hlt2)
          rw [half_at] at hcell
          have hfree := HB.out.free j
          have hset : ∀ b, b = (h j || f j) → Blk (wr.setCell ⟨g3, j, none⟩ (.bool b)) g3 45 (marksL (halfN h f (j + 1))) := fun b hb => by
            have := HB.out.set j (.bool b)
            rwa [marks_half h f j b hb] at this
          have HSET := Lib.hid hset
          generalize h j = x at *
          generalize f j = y at *
          clear hset h1
          cases x
          all_goals cases y
          all_goals go_wp2_with fail
          all_goals go_roundw
          all_goals first
            | (case rel => exact ⟨j + 1, by omega, by go_num, HSET.out _ rfl, HBB.out.setCell (p := ⟨g3, j, none⟩) (by simp; omega) _, by simpa using hg3, HBV.out.other (by simp; omega) _⟩)
            | (case measure => simp [intOf]; omega)
        · obtain rfl : j = 26 := by omega
          rw [HALL.out] at HB
          go_wp2_with fail
          go_roundw
          case rel => exact ⟨k + 1, by omega, by go_num, HB, HBB, hg3, HBV⟩
          case measure => simp [intOf]; omega
    · obtain rfl : k = n := by omega
      rw [List.take_of_length_le (by rw [HN.out]; exact Nat.le_refl _)] at HB
      have hfin := HFIN.out w2 HBB.out HBV.out HBV.out.lt
      have hM := marks_len (unionN fs)
      unfold nailsV at hfin
      generalize marksL (unionN fs) = M at *
      have HF := Lib.hid hfin
      have HM := Lib.hid hM
      clear hfin hM
      go_wp2_with (first
        | ((with_reducible show wpList _ _ _ (Oper.mk _ (Op.load 45 _) _ _ _ _ :: _) _ _); refine wpList_loadB HB.out Tryz.size45 HM.out Tryz.underlying45 rfl rfl _ rfl rfl ?_)
        | (go_at_call 40; refine HF.out.mono ?_; rintro e w4 ⟨u, ds, rfl, h1, h2, h3, h4⟩))
      go_ret
      exact ⟨u, ds, rfl, h1, h2, h3, h4⟩
end Go.Proofs.YtjdmmgaddbleeaaGreat
