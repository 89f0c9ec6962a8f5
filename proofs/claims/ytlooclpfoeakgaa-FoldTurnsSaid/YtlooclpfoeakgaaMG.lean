/- What the reference does with two edges that clash, and with what hangs loose. Plain laws. -/
import Derived.Test.YtlooclpfoeakgaaMF
import Derived.Test.YtlooclpfoeakgaaMD
import Derived.DeepKeys4
namespace Go.Proofs.Ytlooclpfoeakgaa

theorem EInv.fuse {k N : Nat} {S : List UInt8 → Prop} {φ : Nat → List UInt8} {l : List Ed} (h : EInv k N S φ l) {x y : Nat} (hxy : x ≠ y) (hx : x < N) (hy : y < N) (hG : Gen S (φ x ++ invL (φ y))) : EInv k N S φ (l.map (renE (max x y) (min x y))) := by
  rcases Nat.lt_or_gt_of_ne hxy with q | q
  · rw [show max x y = y by omega, show min x y = x by omega]
    exact h.ren (by omega) hx hG.flip
  · rw [show max x y = x by omega, show min x y = y by omega]
    exact h.ren (by omega) hy hG
theorem fuse_sum {l : List Ed} {x y : Nat} (hxy : x ≠ y) (h1 : ∃ e ∈ l, e.1 = x ∨ e.2.2 = x) (h2 : ∃ e ∈ l, e.1 = y ∨ e.2.2 = y) : sumE (l.map (renE (max x y) (min x y))) < sumE l := by
  refine (sumE_ren l (by omega)).2 ?_
  rcases Nat.lt_or_gt_of_ne hxy with q | q
  · rw [show max x y = y by omega]; exact h2
  · rw [show max x y = x by omega]; exact h1
theorem sumE_app (l m : List Ed) : sumE (l ++ m) = sumE l + sumE m := by simp [sumE]
theorem sumE_cons (e : Ed) (l : List Ed) : sumE (e :: l) = e.1 + e.2.2 + sumE l := by simp [sumE]
theorem off_eq (l : List Ed) (i : Nat) : l.take i ++ l.drop (i + 1) = l.eraseIdx i := (List.eraseIdx_eq_take_drop_succ l i).symm
theorem off_sum {l : List Ed} {i : Nat} {e : Ed} (h : l[i]? = some e) : sumE (l.eraseIdx i) ≤ sumE l ∧ (l.eraseIdx i).length + 1 = l.length := by
  obtain ⟨hi, rfl⟩ := List.getElem?_eq_some_iff.1 h
  constructor
  · have e0 : sumE l = sumE (l.take i) + sumE (l.drop i) := by rw [← sumE_app, List.take_append_drop]
    rw [List.drop_eq_getElem_cons hi, sumE_cons] at e0
    rw [← off_eq, sumE_app]
    omega
  · rw [List.length_eraseIdx_of_lt hi]; omega
theorem EInv.twice {k N : Nat} {S : List UInt8 → Prop} {φ : Nat → List UInt8} {l : List Ed} (h : EInv k N S φ l) {i j : Nat} {e : Ed} (hij : j < i) (hi : l[i]? = some e) (hj : l[j]? = some e) : EInv k N S φ (l.eraseIdx i) := by
  refine h.sub fun x => ⟨List.mem_of_mem_eraseIdx, fun hx => ?_⟩
  rw [List.mem_eraseIdx_iff_getElem?]
  obtain ⟨t, ht⟩ := List.mem_iff_getElem?.1 hx
  by_cases q : t = i
  · subst q
    rw [hi] at ht
    exact ⟨j, by omega, by rw [hj]; exact ht⟩
  · exact ⟨t, q, ht⟩
/-- the reference joins two edges' ends, or takes one of two like edges off -/
structure Smaller (k N : Nat) (S : List UInt8 → Prop) (φ : Nat → List UInt8) (l m : List Ed) : Prop where
  inv : EInv k N S φ m
  less : sumE m + m.length < sumE l + l.length
  len : m.length ≤ l.length
theorem EInv.off_ {k N : Nat} {S : List UInt8 → Prop} {φ : Nat → List UInt8} {l : List Ed} (h : EInv k N S φ l) {i j : Nat} {e f : Ed} (hij : j < i) (hi : l[i]? = some e) (hj : l[j]? = some f) (hef : e = f) : Smaller k N S φ l (l.take i ++ l.drop (i + 1)) := by
  subst hef
  have h1 := off_sum hi
  rw [off_eq]
  exact ⟨h.twice hij hi hj, by omega, by omega⟩
theorem EInv.tos {k N : Nat} {S : List UInt8 → Prop} {φ : Nat → List UInt8} {l : List Ed} (h : EInv k N S φ l) {i j : Nat} {e f : Ed} (hi : l[i]? = some e) (hj : l[j]? = some f) (h1 : e.2.1 = f.2.1) (h2 : e.1 = f.1) (h3 : e.2.2 ≠ f.2.2) : Smaller k N S φ l (l.map (renE (max e.2.2 f.2.2) (min e.2.2 f.2.2))) := by
  have m1 := List.mem_of_getElem? hi
  have m2 := List.mem_of_getElem? hj
  refine ⟨h.fuse h3 (h.low e m1).2.2 (h.low f m2).2.2 ((h.clash m1 m2 h1).1 h2), ?_, by simp⟩
  have := fuse_sum (l := l) h3 ⟨e, m1, .inr rfl⟩ ⟨f, m2, .inr rfl⟩
  simp only [List.length_map]
  omega
theorem EInv.froms {k N : Nat} {S : List UInt8 → Prop} {φ : Nat → List UInt8} {l : List Ed} (h : EInv k N S φ l) {i j : Nat} {e f : Ed} (hi : l[i]? = some e) (hj : l[j]? = some f) (h1 : e.2.1 = f.2.1) (h2 : e.2.2 = f.2.2) (h3 : e.1 ≠ f.1) : Smaller k N S φ l (l.map (renE (max e.1 f.1) (min e.1 f.1))) := by
  have m1 := List.mem_of_getElem? hi
  have m2 := List.mem_of_getElem? hj
  refine ⟨h.fuse h3 (h.low e m1).1 (h.low f m2).1 ((h.clash m1 m2 h1).2 h2), ?_, by simp⟩
  have := fuse_sum (l := l) h3 ⟨e, m1, .inl rfl⟩ ⟨f, m2, .inl rfl⟩
  simp only [List.length_map]
  omega
/-- no edge before j clashes with e -/
def Apart (l : List Ed) (e : Ed) (j : Nat) : Prop := ∀ t f, t < j → l[t]? = some f → e.2.1 = f.2.1 → e.1 ≠ f.1 ∧ e.2.2 ≠ f.2.2
theorem Apart.zero (l : List Ed) (e : Ed) : Apart l e 0 := fun t f h => by omega
theorem Apart.step {l : List Ed} {e f : Ed} {j : Nat} (h : Apart l e j) (hj : l[j]? = some f) (h1 : e.2.1 = f.2.1 → e.1 ≠ f.1 ∧ e.2.2 ≠ f.2.2) : Apart l e (j + 1) := by
  intro t g ht hg
  by_cases q : t = j
  · subst q
    rw [hj] at hg
    rw [← Option.some.inj hg]; exact h1
  · exact h t g (by omega) hg
theorem Det.step {l : List Ed} {i : Nat} {e : Ed} (h : Det (l.take i)) (hi : l[i]? = some e) (ha : Apart l e i) : Det (l.take (i + 1)) := by
  rw [List.take_add_one, hi]
  unfold Det
  rw [Option.toList_some, List.pairwise_append]
  refine ⟨h, by simp, fun f hf x hx => ?_⟩
  rw [List.mem_singleton] at hx
  subst hx
  obtain ⟨t, ht⟩ := List.mem_iff_getElem?.1 hf
  rw [List.getElem?_take] at ht
  split at ht
  · rename_i q
    intro h1
    have := ha t f q ht h1.symm
    exact ⟨fun e => this.1 e.symm, fun e => this.2 e.symm⟩
  · cases ht
/-- how often a vertex is named by the first edges, as the map has it -/
def manyD (l : List Ed) (v : Nat) : Option Int := if manyE l v = 0 then none else some (manyE l v : Int)
theorem manyD_get (l : List Ed) (v : Nat) : (manyD l v).getD 0 = (manyE l v : Int) := by
  unfold manyD
  split
  · rename_i h; rw [h]; rfl
  · rfl
theorem manyD_nil : manyD [] = fun _ => none := by
  funext v
  rfl
def oneMore (D : Nat → Option Int) (v : Nat) : Nat → Option Int := fun x => if x = v then some ((D v).getD 0 + 1) else D x
theorem manyD_some {l : List Ed} {v n : Nat} (h : manyE l v = n + 1) : manyD l v = some ((n : Int) + 1) := by
  unfold manyD
  rw [if_neg (by omega), h]
  rfl
theorem manyD_same {l m : List Ed} {v : Nat} (h : manyE l v = manyE m v) : manyD l v = manyD m v := by
  unfold manyD
  rw [h]
theorem manyD_snoc (l : List Ed) (e : Ed) : oneMore (oneMore (manyD l) e.1) e.2.2 = manyD (l ++ [e]) := by
  funext v
  have h1 := many_snoc e l v
  show (if v = e.2.2 then some (((if e.2.2 = e.1 then some ((manyD l e.1).getD 0 + 1) else manyD l e.2.2).getD 0) + 1) else if v = e.1 then some ((manyD l e.1).getD 0 + 1) else manyD l v) = _
  rw [manyD_get]
  by_cases q1 : e.2.2 = v <;> by_cases q2 : e.1 = v
  · rw [if_pos q1, if_pos q2] at h1
    rw [if_pos q1.symm, if_pos (q1.trans q2.symm), manyD_some h1, q2]
    rfl
  · rw [if_pos q1, if_neg q2] at h1
    rw [if_pos q1.symm, if_neg (fun h => q2 (h.symm.trans q1)), manyD_some h1, manyD_get, q1]
  · rw [if_neg q1, if_pos q2] at h1
    rw [if_neg (fun h => q1 h.symm), if_pos q2.symm, manyD_some h1, q2]
  · rw [if_neg q1, if_neg q2] at h1
    rw [if_neg (fun h => q1 h.symm), if_neg (fun h => q2 h.symm)]
    exact (manyD_same h1).symm
theorem many_le : ∀ (l : List Ed) (v : Nat), manyE l v ≤ 2 * l.length
  | [], _ => Nat.le_refl _
  | e :: l, v => by
    rw [many_cons, List.length_cons]
    have := many_le l v
    split <;> split <;> omega
/-- an edge of which an end hangs loose -/
def looseE (l : List Ed) (e : Ed) : Bool := (e.1 != 0 && decide (manyE l e.1 < 2)) || (e.2.2 != 0 && decide (manyE l e.2.2 < 2))
theorem EDone.loose {k N : Nat} (hk : k ≤ 26) {S : List UInt8 → Prop} {l : List Ed} (h : EDone k N S l) {i : Nat} {e : Ed} (hi : l[i]? = some e) (hl : looseE l e = true) : EDone k N S (l.take i ++ l.drop (i + 1)) := by
  obtain ⟨hil, rfl⟩ := List.getElem?_eq_some_iff.1 hi
  rw [off_eq]
  unfold looseE at hl
  simp only [Bool.or_eq_true, Bool.and_eq_true, bne_iff_ne, ne_eq, decide_eq_true_eq] at hl
  rcases hl with ⟨h1, h2⟩ | ⟨h1, h2⟩
  · exact h.off hk hil (.inl rfl) h1 h2
  · exact h.off hk hil (.inr rfl) h1 h2
theorem EDone.tight {k N : Nat} (hk : k ≤ 26) (hN : 0 < N) {S : List UInt8 → Prop} {l : List Ed} (h : EDone k N S l) (hl : ∀ t e, t < l.length → l[t]? = some e → looseE l e = false) : GraphOf k S (nxE l) 0 := by
  refine h.graph hk hN fun e he => ?_
  obtain ⟨t, ht⟩ := List.mem_iff_getElem?.1 he
  have h1 := hl t e (List.getElem?_eq_some_iff.1 ht).1 ht
  unfold looseE at h1
  simp only [Bool.or_eq_false_iff, Bool.and_eq_false_iff, bne_eq_false_iff_eq, decide_eq_false_iff_not] at h1
  exact ⟨h1.1.imp id (by omega), h1.2.imp id (by omega)⟩
end Go.Proofs.Ytlooclpfoeakgaa

/- The reference lays edges on one another, takes off what hangs loose, and numbers: the walk. -/
namespace Go.Proofs.Ytlooclpfoeakgaa
open Go.RowKit

theorem two_new (w : World) (a b : List Value) : Blk ((w.alloc (.cells a.toArray 102)).alloc (.cells b.toArray 102)).drew w.heap.size 102 a ∧ Blk ((w.alloc (.cells a.toArray 102)).alloc (.cells b.toArray 102)).drew (w.heap.size + 1) 102 b ∧ Below w.heap.size w ((w.alloc (.cells a.toArray 102)).alloc (.cells b.toArray 102)).drew := by
  refine ⟨(Blk.new w 102 a).alloc _, ?_, (((Below.refl _ w).alloc (Nat.le_refl _) _).alloc (by simp) _).trans ((Below.refl _ _).drewN' 1)⟩
  have h : Blk ((w.alloc (.cells a.toArray 102)).alloc (.cells b.toArray 102)) (w.heap.size + 1) 102 b := by
    have := Blk.new (w.alloc (.cells a.toArray 102)) 102 b
    simpa using this
  exact h
theorem ret67 {w : World} {tmps : Array Value} {g : Nat} {M : List Value} (hM : M.length = 2) (hp : tmps.getD 4 undef = .pointer (some ⟨g, 0, none⟩)) (hb : Blk w g 32 M) : (results Try.f67 tmps).run Try.prog w = .ok (.agg M.toArray) w :=
  results_cell_row rfl tmps w g 32 _ (0, 0) _ hp hb Try.underlying32 rfl (by rw [Try.size32]; simp [hM])
set_option maxRecDepth 100000 in
set_option maxHeartbeats 4000000 in
theorem folded_any : FoldedSpec := by
  intro w k base v l S φ hk1 hk4 hO hI hl
  have hzb := Blk.new w 32 zeroG
  have hb0 : Below w.heap.size w (w.alloc (.cells zeroG.toArray 32)) := (Below.refl _ _).alloc (Nat.le_refl _) _
  have HO : Hid (OwnE (w.alloc (.cells zeroG.toArray 32)) base v l) := Lib.hid (World.ownsRow.keep hO ((Below.refl _ _).alloc (Nat.le_refl _) _))
  have HI := Lib.hid hI
  have HZ : Hid (Blk (w.alloc (.cells zeroG.toArray 32)) w.heap.size 32 zeroG) := Lib.hid hzb
  have HB : Hid (Below w.heap.size w (w.alloc (.cells zeroG.toArray 32))) := Lib.hid hb0
  have HLL := Lib.hid hl
  clear hO hI hzb hb0 hl
  go_enter Try.func67, Try.ntmps67
  go_wp2_with fail
  go_loopg [5, 1] (2 * (sumE l + l.length) + 1) (fun gk av lv wr => ∃ (b : Bool) (b0 : Nat) (l2 : List Ed) (lw : Value), av = .bool b ∧ lw = lv ∧ Hid (OwnE wr b0 lw l2) ∧ Hid (EInv k 5000 S φ l2) ∧ Hid (b = false → Det l2) ∧ Hid (2 * (sumE l2 + l2.length) + (if b = true then 1 else 0) ≤ gk) ∧ Hid (l2.length < 100000) ∧ Hid (Blk wr w.heap.size 32 zeroG) ∧ Hid (Below w.heap.size w wr))
  case atStart => exact ⟨true, base, l, _, rfl, rfl, HO, HI, Lib.hid (by simp), Lib.hid (by simp), HLL, HZ, HB⟩
  case round =>
    clear HO HI HZ HB HLL
    obtain ⟨b, b0, l2, lw, rfl, rfl, HO, HI, HD, HG, HL, HZ, HB⟩ := hrel
    obtain ⟨wA, rfl⟩ : ∃ wA, wA = wr := ⟨_, rfl⟩
    obtain ⟨gA, rfl⟩ : ∃ x, x = gk := ⟨_, rfl⟩
    obtain ⟨n, hn⟩ : ∃ n, l2.length = n := ⟨_, rfl⟩
    have h9 : OwnK wA b0 102 3 lw n (edL l2) := by rw [← hn]; exact HO.out
    obtain ⟨va, vc, rfl, hv1, hv2, -⟩ := row_shape h9
    have hn9 : n < 100000 := by rw [← hn]; exact HL.out
    have HN := Lib.hid hn
    clear h9 hn HL
    cases b
    · have HED : Hid (EDone k 5000 S l2) := Lib.hid (HI.out.done (by omega) (HD.out rfl))
      have HLN : Hid (l2.length < 100000) := Lib.hid (by rw [HN.out]; exact hn9)
      have HT0 : Hid (true = false → ∀ t e, t < l2.length → l2[t]? = some e → looseE l2 e = false) := Lib.hid (by simp)
      have HG0 : Hid (2 * l2.length + (if true = true then 1 else 0) ≤ 2 * n + 1) := Lib.hid (by rw [HN.out]; simp)
      clear HD HG HI
      go_wp2_with fail
      go_loopg [11, 1] (2 * n + 1) (fun g4 av lv wr => ∃ (b : Bool) (b1 : Nat) (l2 : List Ed) (lw : Value), av = .bool b ∧ lw = lv ∧ Hid (OwnE wr b1 lw l2) ∧ Hid (EDone k 5000 S l2) ∧ Hid (b = false → ∀ t e, t < l2.length → l2[t]? = some e → looseE l2 e = false) ∧ Hid (2 * l2.length + (if b = true then 1 else 0) ≤ g4) ∧ Hid (l2.length < 100000) ∧ Hid (Blk wr w.heap.size 32 zeroG) ∧ Hid (Below w.heap.size w wr))
      case atStart => exact ⟨true, b0, l2, _, rfl, rfl, HO, HED, HT0, HG0, HLN, HZ, HB⟩
      case round =>
        clear HO HED HT0 HG0 HLN HZ HB HN hv1 hv2 hn9 l2 n
        obtain ⟨b, b1, l2, lw, rfl, rfl, HO, HED, HT, HG, HL, HZ, HB⟩ := hrel
        obtain ⟨wB, rfl⟩ : ∃ wB, wB = wr := ⟨_, rfl⟩
        obtain ⟨gB, rfl⟩ : ∃ x, x = gk := ⟨_, rfl⟩
        obtain ⟨n, hn⟩ : ∃ n, l2.length = n := ⟨_, rfl⟩
        have h9 : OwnK wB b1 102 3 lw n (edL l2) := by rw [← hn]; exact HO.out
        obtain ⟨va, vc, rfl, hv1, hv2, -⟩ := row_shape h9
        have hn9 : n < 100000 := by rw [← hn]; exact HL.out
        have HN := Lib.hid hn
        have hbsz := HB.out.size
        clear h9 hn HL
        cases b
        · have hrn := rNumbered_any wB k b1 5000 _ l2 HO.out HED.out.det (fun e he => ⟨(HED.out.low e he).1, (HED.out.low e he).2.2⟩) (by omega) (by omega) hk1 hk4 (by rw [HN.out]; omega)
          have hg := HED.out.tight (by omega) (by omega) (HT.out rfl)
          have hlow : ∀ v p u, nxE l2 v p = some u → u < 5000 ∧ p < 2 * k := fun v p u h => by
            obtain ⟨e, he, h1, h2⟩ := nxE_at h
            have h3 := HED.out.low e he
            rw [hit_iff] at h1
            refine ⟨?_, by omega⟩
            rw [← h2]
            unfold endE
            split
            · exact h3.2.2
            · exact h3.1
          have HRN := Lib.hid hrn
          have HGR : Hid (IsGraph k S (numN (nxE l2) (List.range (2 * k)) 5000 0 [0] [])) := Lib.hid ⟨_, 0, hg, ⟨by omega, hlow⟩, rfl⟩
          clear hrn hg hlow
          go_wp2_with (first
            | (go_at_call 112; refine HRN.out.mono ?_; rintro e w6 ⟨rv, rfl, hrows, hb6⟩; have HX6 := Lib.hid (HZ.out.keep hb6); have HRV := Lib.hid (rows_one hrows k); have HROWS := Lib.hid hrows; have HB6 := Lib.hid (HB.out.trans (hb6.mono hbsz)); clear hrows hb6)
            | (with_reducible show wpList _ _ _ (Oper.mk _ (Op.store 32 _ _) _ _ _ _ :: _) _ _; (refine wpList_storeB (vs := [.int .i64 k, rv]) HX6.out Try.size32 rfl rfl HRV.out rfl _ _ rfl rfl rfl ?_)))
          have hr1 := HX6.out.set 0 (.int .i64 k)
          have hrow := ((HROWS.out.mono hbsz).other HX6.out (by decide) (by decide) 0 (.int .i64 k)).other hr1 (by decide) (by decide) 1 rv
          exact bodyPost_ret (ret67 (M := [.int .i64 k, rv]) rfl rfl (hr1.set 1 rv)) rfl ⟨rv, _, rfl, HGR.out, hrow, below_setCells (Nat.le_refl _) [.int .i64 k, rv] 0 HB6.out⟩
        · have HM : Hid (MapI (wB.alloc (.map #[] 0)) wB.heap.size 0 (manyD (l2.take 0))) := Lib.hid (by rw [List.take_zero, manyD_nil]; exact MapI.new wB)
          have HBW : Hid (Below wB.heap.size wB (wB.alloc (.map #[] 0))) := Lib.hid ((Below.refl _ _).alloc (Nat.le_refl _) _)
          have hG := HG.out
          rw [if_pos rfl] at hG
          have HG2 := Lib.hid hG
          have hmm := @run_makeMap Try.prog
          clear HT HG hG
          go_wp2_with fail
          clear hmm
          change Code.wp _ _ _ _ (wB.alloc (.map #[] 0))
          obtain ⟨mb, hmb⟩ : ∃ mb, wB.heap.size = mb := ⟨_, rfl⟩
          have HMB := Lib.hid hmb
          rw [hmb] at HM ⊢
          clear hmb
          go_loopw [13] (fun iv wr => ∃ i nm : Nat, i ≤ n ∧ iv = .int .i64 i ∧ Hid (MapI wr mb nm (manyD (l2.take i))) ∧ Hid (nm ≤ 2 * i) ∧ Hid (Below wB.heap.size wB wr)) (fun iv _ => n - (intOf iv).toNat)
          case atStart => exact ⟨0, 0, by omega, rfl, HM, Lib.hid (by omega), HBW⟩
          case round =>
            clear HM HBW
            obtain ⟨i, nm, hi, rfl, HM, HNM, HBW⟩ := hrel
            by_cases hlt : i < n
            · obtain ⟨e, he⟩ : ∃ e, l2[i]? = some e := ⟨_, List.getElem?_eq_getElem (by rw [HN.out]; exact hlt)⟩
              obtain ⟨g, c2, e2, -, -, -, -, -, -⟩ := OwnK.open HO.out (by rw [HN.out]; omega)
              obtain ⟨rfl, -, rfl⟩ : va = some ⟨g, 0, none⟩ ∧ n = l2.length ∧ vc = c2 := by simpa using e2
              obtain ⟨hlow1, -, hlow3⟩ := HED.out.low e (List.mem_of_getElem? he)
              have hsn := manyD_snoc (l2.take i) e
              have htk : l2.take (i + 1) = l2.take i ++ [e] := by rw [List.take_add_one, he]; rfl
              rw [← htk] at hsn
              have hnm := HNM.out
              have hmle := many_le (l2.take i)
              have htl : (l2.take i).length ≤ i := by rw [List.length_take]; omega
              obtain ⟨c0, -, -⟩ := HO.out.cells HN.out HBW.out he
              obtain ⟨e1, m, e3⟩ := e
              simp only at c0 hlow1 hlow3 hsn
              obtain ⟨x, hx⟩ : ∃ x, manyE (l2.take i) e1 = x := ⟨_, rfl⟩
              have hx9 : x ≤ 200000 := by have := hmle e1; omega
              have hl1 := HM.out.look (k := e1) (by omega)
              rw [manyD_get, hx] at hl1
              have hw1 : IntKind.i64.wrap ((x : Int) + 1) = (x : Int) + 1 := by rw [IntKind.wrap_i64]; omega
              obtain ⟨w1, hu1, hm1, hg1⟩ := HM.out.update (by omega) (k := e1) (by omega) (v := (x : Int) + 1) (WalkArith.wf_i64 (by omega))
              have hf1 : (fun j => if j = e1 then some ((x : Int) + 1) else manyD (l2.take i) j) = oneMore (manyD (l2.take i)) e1 := by
                unfold oneMore
                rw [manyD_get, hx]
              rw [hf1] at hm1
              obtain ⟨y, hy, hy9⟩ : ∃ y : Nat, (oneMore (manyD (l2.take i)) e1 e3).getD 0 = (y : Int) ∧ y ≤ 200001 := by
                unfold oneMore
                split
                · exact ⟨x + 1, by rw [manyD_get, hx]; rfl, by omega⟩
                · exact ⟨_, manyD_get _ _, by have := hmle e3; omega⟩
              have hl2 := hm1.look (k := e3) (by omega)
              rw [hy] at hl2
              have hw2 : IntKind.i64.wrap ((y : Int) + 1) = (y : Int) + 1 := by rw [IntKind.wrap_i64]; omega
              obtain ⟨w2, hu2, hm2, hg2⟩ := hm1.update (by omega) (k := e3) (by omega) (v := (y : Int) + 1) (WalkArith.wf_i64 (by omega))
              have hf2 : (fun j => if j = e3 then some ((y : Int) + 1) else oneMore (manyD (l2.take i)) e1 j) = oneMore (oneMore (manyD (l2.take i)) e1) e3 := by
                conv => rhs; unfold oneMore
                have : (if e3 = e1 then some ((manyD (l2.take i) e1).getD 0 + 1) else manyD (l2.take i) e3).getD 0 = (y : Int) := hy
                rw [this]
                rfl
              rw [hf2, hsn] at hm2
              have hbw1 : Below wB.heap.size wB w1 := HBW.out.grown hg1 HBW.out.size (fun k h => by cases h; exact Nat.le_of_eq HMB.out)
              have hbw2 : Below wB.heap.size wB w2 := hbw1.grown hg2 hbw1.size (fun k h => by cases h; exact Nat.le_of_eq HMB.out)
              obtain ⟨-, -, d2⟩ := HO.out.cells HN.out hbw1 he
              have i0 : (0 : Int) ≤ i := by omega
              have i1 : (i : Int) < n := by omega
              have G1 := Lib.hid hm2
              have G2 := Lib.hid hbw2
              clear hm1 hg1 hm2 hg2 hbw1 hbw2 hf1 hf2 hsn htk hmle htl hx hy he e2
              go_wp2_with fail
              go_roundw
              case rel => exact ⟨i + 1, nm + 1 + 1, by omega, by go_num, G1, Lib.hid (by omega), G2⟩
              case measure => simp [intOf]; omega
            · obtain rfl : i = n := by omega
              have hM := HM.out
              rw [List.take_of_length_le (by rw [HN.out]; exact Nat.le_refl _)] at hM
              have HM2 := Lib.hid hM
              have HA : Hid (∀ t e, t < 0 → l2[t]? = some e → looseE l2 e = false) := Lib.hid (fun t e h => by omega)
              clear hM HM HNM hlt
              go_wp2_with fail
              go_loopw [14, 11, 1] (fun iv av lv wr => ∃ j : Nat, j ≤ i ∧ iv = .int .i64 j ∧ av = .bool false ∧ lv = .slice va i vc ∧ Hid (∀ t e, t < j → l2[t]? = some e → looseE l2 e = false) ∧ Hid (MapI wr mb nm (manyD l2)) ∧ Hid (Below wB.heap.size wB wr)) (fun iv _ _ _ => i - (intOf iv).toNat)
              case atStart => exact ⟨0, by omega, rfl, rfl, rfl, HA, HM2, HBW⟩
              case round =>
                clear HA HM2 HBW
                obtain ⟨j, hj, rfl, rfl, rfl, HA, HM, HBW⟩ := hrel
                by_cases hlt : j < i
                · obtain ⟨e, he⟩ : ∃ e, l2[j]? = some e := ⟨_, List.getElem?_eq_getElem (by rw [HN.out]; exact hlt)⟩
                  obtain ⟨g, c2, e2, -, -, -, -, -, -⟩ := OwnK.open HO.out (by rw [HN.out]; omega)
                  obtain ⟨rfl, -, rfl⟩ : va = some ⟨g, 0, none⟩ ∧ i = l2.length ∧ vc = c2 := by simpa using e2
                  obtain ⟨hlow1, -, hlow3⟩ := HED.out.low e (List.mem_of_getElem? he)
                  obtain ⟨c0, -, d0⟩ := HO.out.cells HN.out HBW.out he
                  obtain ⟨L, hL⟩ : ∃ L, looseE l2 e = L := ⟨_, rfl⟩
                  have HLL := Lib.hid hL
                  have HE := Lib.hid he
                  obtain ⟨e1, m, e3⟩ := e
                  unfold looseE at hL
                  simp only at c0 d0 hlow1 hlow3 hL
                  obtain ⟨x, hx⟩ : ∃ x, manyE l2 e1 = x := ⟨_, rfl⟩
                  obtain ⟨y, hy⟩ : ∃ y, manyE l2 e3 = y := ⟨_, rfl⟩
                  have hl1 := HM.out.look (k := e1) (by omega)
                  have hl3 := HM.out.look (k := e3) (by omega)
                  rw [manyD_get, hx] at hl1
                  rw [manyD_get, hy] at hl3
                  rw [hx, hy] at hL
                  have j0 : (0 : Int) ≤ j := by omega
                  have j1 : (j : Int) < i := by omega
                  clear hx hy he e2
                  go_upto_region 35 with fail
                  go_cut [151] from 112 to 162 (fun s wc => s = .bool L ∧ wr = wc)
                  case first =>
                    by_cases z1 : e1 = 0
                    · subst z1
                      by_cases z3 : e3 = 0
                      · subst z3
                        obtain rfl : L = false := by rw [← hL]; simp
                        clear hL
                        go_wp2_with fail
                        go_meet
                        exact ⟨rfl, rfl⟩
                      · have z3I : ¬ ((e3 : Int) = 0) := by omega
                        by_cases m3 : y < 2
                        · have m3I : (y : Int) < 2 := by omega
                          obtain rfl : L = true := by rw [← hL]; simp [z3, m3]
                          clear hL
                          go_wp2_with fail
                          go_meet
                          exact ⟨congrArg Value.bool (bne_iff_ne.2 z3I), rfl⟩
                        · have m3I : ¬ (y : Int) < 2 := by omega
                          obtain rfl : L = false := by rw [← hL]; simp [m3]
                          clear hL
                          go_wp2_with fail
                          go_meet
                          exact ⟨rfl, rfl⟩
                    · have z1I : ¬ ((e1 : Int) = 0) := by omega
                      by_cases m1 : x < 2
                      · have m1I : (x : Int) < 2 := by omega
                        obtain rfl : L = true := by rw [← hL]; simp [z1, m1]
                        clear hL
                        go_wp2_with fail
                        go_meet
                        exact ⟨rfl, rfl⟩
                      · have m1I : ¬ (x : Int) < 2 := by omega
                        by_cases z3 : e3 = 0
                        · subst z3
                          obtain rfl : L = false := by rw [← hL]; simp [m1]
                          clear hL
                          go_wp2_with fail
                          go_meet
                          exact ⟨rfl, rfl⟩
                        · have z3I : ¬ ((e3 : Int) = 0) := by omega
                          by_cases m3 : y < 2
                          · have m3I : (y : Int) < 2 := by omega
                            obtain rfl : L = true := by rw [← hL]; simp [z3, m3]
                            clear hL
                            go_wp2_with fail
                            go_meet
                            exact ⟨congrArg Value.bool (bne_iff_ne.2 z3I), rfl⟩
                          · have m3I : ¬ (y : Int) < 2 := by omega
                            obtain rfl : L = false := by rw [← hL]; simp [m1, m3]
                            clear hL
                            go_wp2_with fail
                            go_meet
                            exact ⟨rfl, rfl⟩
                  case rest =>
                    obtain ⟨rfl, rfl⟩ := hcut
                    clear hL c0 d0 hl1 hl3
                    cases L
                    · have G1 : Hid (∀ t e, t < j + 1 → l2[t]? = some e → looseE l2 e = false) := Lib.hid (fun t e ht hu => by
                        by_cases q : t = j
                        · subst q
                          rw [HE.out] at hu
                          rw [← Option.some.inj hu]; exact HLL.out
                        · exact HA.out t e (by omega) hu)
                      go_wp2_with fail
                      go_roundw
                      case rel => exact ⟨j + 1, by omega, by go_num, rfl, rfl, G1, HM, HBW⟩
                      case measure => simp [intOf]; omega
                    · have hoc : OwnE wr b1 (.slice (some ⟨g, 0, none⟩) i vc) l2 := World.ownsRow.keep HO.out HBW.out
                      have HR1 := Lib.hid (hoc.take HN.out hv2 hv1 (Nat.le_of_lt hlt))
                      have HT1 : Hid ((l2.take j).length < 1000000) := Lib.hid (by rw [List.length_take]; omega)
                      have hlen : (l2.take j ++ l2.drop (j + 1)).length + 1 = i := by rw [off_eq, (off_sum HE.out).2]; exact HN.out
                      have HLEN := Lib.hid hlen
                      have HSM := Lib.hid (HED.out.loose (by omega) HE.out HLL.out)
                      have HT9 : Hid (true = false → ∀ t e, t < (l2.take j ++ l2.drop (j + 1)).length → (l2.take j ++ l2.drop (j + 1))[t]? = some e → looseE (l2.take j ++ l2.drop (j + 1)) e = false) := Lib.hid (by simp)
                      have HL9 : Hid ((l2.take j ++ l2.drop (j + 1)).length < 100000) := Lib.hid (by omega)
                      have hgg : 2 * (i - 1) + 1 < gB := by have := HG2.out; have := HN.out; omega
                      have HG9 : Hid (2 * (l2.take j ++ l2.drop (j + 1)).length + (if true = true then 1 else 0) ≤ 2 * (i - 1) + 1) := Lib.hid (by rw [if_pos rfl]; omega)
                      have HGGX := Lib.hid hgg
                      clear hoc hlen hgg
                      go_upto_region 38 with (at_builtin; refine wpList_appE (OwnE.nil wr wr.heap.size) (Nat.le_refl _) (by decide) rfl (.tmp 152) (.tmp 155) rfl (by simp [Act.eval]) (by simp [Act.eval]) HR1.out HT1.out ?_; intro v6 w6 hown6 hgr6 hb6)
                      have h6 : OwnE w6 wr.heap.size v6 (l2.take j) := by rw [List.nil_append] at hown6; exact hown6
                      have hbc6 : Below wB.heap.size wB w6 := HBW.out.trans (hb6.mono HBW.out.size)
                      have hoc : OwnE w6 b1 (.slice (some ⟨g, 0, none⟩) i vc) l2 := World.ownsRow.keep HO.out hbc6
                      have H6 := Lib.hid h6
                      have HB6 := Lib.hid hbc6
                      have HS6 := Lib.hid hb6.size
                      have hdl : (l2.drop (j + 1)).length < 1000000 := by rw [List.length_drop, HN.out]; omega
                      have HDL := Lib.hid hdl
                      clear h6 hbc6 hown6 hgr6 hb6 hdl
                      by_cases hcap : j + 1 = vc
                      · have hni : i = j + 1 := by omega
                        have hd0 : l2.drop (j + 1) = [] := List.drop_of_length_le (by rw [HN.out]; omega)
                        have HD0 := Lib.hid hd0
                        clear hoc hd0
                        subst hcap
                        subst hni
                        go_wp2_with (at_builtin; refine wpList_appE H6.out HS6.out HT1.out rfl (.tmp 157) (.tmp 161) rfl (by simp [Act.eval]) (by simp [Act.eval]) (EdR.none_left (g := g)) (by decide) ?_; intro v7 w7 hown7 hgr7 hb7)
                        have h7 : OwnE w7 wr.heap.size v7 (l2.take j ++ l2.drop (j + 1)) := by rw [HD0.out]; exact hown7
                        have hb7w : Below wB.heap.size wB w7 := HB6.out.trans (hb7.mono HBW.out.size)
                        have H7 := Lib.hid h7
                        have HZ7 := Lib.hid (HZ.out.keep hb7w)
                        have HB7 := Lib.hid (HB.out.trans (hb7w.mono hbsz))
                        clear h7 hb7w hown7 hgr7 hb7
                        go_roundg (2 * (j + 1 - 1) + 1)
                        case rel => exact ⟨true, _, _, _, rfl, rfl, H7, HSM, HT9, HG9, HL9, HZ7, HB7⟩
                        case measure => exact HGGX.out
                      · have hcapI : ¬ ((j : Int) + 1 = vc) := by omega
                        have HR2 := Lib.hid (hoc.drop HN.out hv2 hv1 (i := j + 1) hlt)
                        clear hoc
                        go_wp2_with (at_builtin; refine wpList_appE H6.out HS6.out HT1.out rfl (.tmp 157) (.tmp 161) rfl (by simp [Act.eval]) (by simp [Act.eval]) HR2.out HDL.out ?_; intro v7 w7 hown7 hgr7 hb7)
                        have h7 : OwnE w7 wr.heap.size v7 (l2.take j ++ l2.drop (j + 1)) := hown7
                        have hb7w : Below wB.heap.size wB w7 := HB6.out.trans (hb7.mono HBW.out.size)
                        have H7 := Lib.hid h7
                        have HZ7 := Lib.hid (HZ.out.keep hb7w)
                        have HB7 := Lib.hid (HB.out.trans (hb7w.mono hbsz))
                        clear h7 hb7w hown7 hgr7 hb7
                        go_roundg (2 * (i - 1) + 1)
                        case rel => exact ⟨true, _, _, _, rfl, rfl, H7, HSM, HT9, HG9, HL9, HZ7, HB7⟩
                        case measure => exact HGGX.out
                · obtain rfl : j = i := by omega
                  have HOW : Hid (OwnE wr b1 (.slice va j vc) l2) := Lib.hid (World.ownsRow.keep HO.out HBW.out)
                  have HZW := Lib.hid (HZ.out.keep HBW.out)
                  have HBB := Lib.hid (HB.out.trans (HBW.out.mono hbsz))
                  have HLW : Hid (l2.length < 100000) := Lib.hid (by rw [HN.out]; exact hn9)
                  have hgg : 2 * l2.length < gB := by have := HG2.out; omega
                  have HT9 : Hid (∀ t e, t < l2.length → l2[t]? = some e → looseE l2 e = false) := Lib.hid (fun t e ht hu => HA.out t e (by rw [← HN.out]; exact ht) hu)
                  go_wp2_with fail
                  go_roundg (2 * l2.length)
                  case rel => exact ⟨false, b1, l2, _, rfl, rfl, HOW, HED, Lib.hid (fun _ => HT9.out), Lib.hid (by simp), HLW, HZW, HBB⟩
                  case measure => exact hgg
    · have hG := HG.out
      rw [if_pos rfl] at hG
      have HG2 := Lib.hid hG
      have HD0 : Hid (Det (l2.take 0)) := Lib.hid List.Pairwise.nil
      have HBW := Lib.hid (Below.refl wA.heap.size wA)
      have hbsz := HB.out.size
      clear hG HG HD
      go_wp2_with fail
      go_loopg [6, 5, 1] (n + 1) (fun gi iv av lv wi => (∃ i : Nat, iv = .int .i64 i ∧ av = .bool false ∧ lv = .slice va n vc ∧ i ≤ n ∧ Hid (Below wA.heap.size wA wi) ∧ Hid (Det (l2.take i)) ∧ Hid (n + 1 - i ≤ gi)) ∨ (∃ (i b1 : Nat) (l3 : List Ed) (lw : Value), iv = .int .i64 i ∧ av = .bool true ∧ lw = lv ∧ i ≤ n ∧ Hid (OwnE wi b1 lw l3) ∧ Hid (Smaller k 5000 S φ l2 l3) ∧ Hid (Blk wi w.heap.size 32 zeroG) ∧ Hid (Below w.heap.size w wi)))
      case atStart => exact .inl ⟨0, rfl, rfl, rfl, by omega, HBW, HD0, Lib.hid (by omega)⟩
      case round =>
        clear HBW HD0
        rcases hrel with ⟨i, rfl, rfl, rfl, hi, HBW, HDI, HGI⟩ | ⟨i, b1, l3, lw, rfl, rfl, rfl, hi, HO3, HS3, HZ3, HB3⟩
        · by_cases hlt : i < n
          · obtain ⟨e, he⟩ : ∃ e, l2[i]? = some e := ⟨_, List.getElem?_eq_getElem (by rw [HN.out]; exact hlt)⟩
            obtain ⟨g, c2, e2, -, -, -, -, -, -⟩ := OwnK.open HO.out (by rw [HN.out]; omega)
            obtain ⟨rfl, -, rfl⟩ : va = some ⟨g, 0, none⟩ ∧ n = l2.length ∧ vc = c2 := by simpa using e2
            have HE := Lib.hid he
            have HA0 := Lib.hid (Apart.zero l2 e)
            clear he e2
            go_wp2_with fail
            go_loopg [7, 5, 1] (n + 1) (fun gj jv av lv wj => (∃ j : Nat, jv = .int .i64 j ∧ av = .bool false ∧ lv = .slice (some ⟨g, 0, none⟩) n vc ∧ j ≤ i ∧ Hid (Below wA.heap.size wA wj) ∧ Hid (Apart l2 e j) ∧ Hid (n + 1 - j ≤ gj)) ∨ (∃ (j b1 : Nat) (l3 : List Ed) (lw : Value), jv = .int .i64 j ∧ av = .bool true ∧ lw = lv ∧ j ≤ i ∧ Hid (OwnE wj b1 lw l3) ∧ Hid (Smaller k 5000 S φ l2 l3) ∧ Hid (Blk wj w.heap.size 32 zeroG) ∧ Hid (Below w.heap.size w wj)))
            case atStart => exact .inl ⟨0, rfl, rfl, rfl, by omega, HBW, HA0, Lib.hid (by omega)⟩
            case round =>
              clear HBW HA0
              rcases hrel with ⟨j, rfl, rfl, rfl, hj, HBW, HAP, HGJ⟩ | ⟨j, b1, l3, lw, rfl, rfl, rfl, hj, HO3, HS3, HZ3, HB3⟩
              · by_cases hlj : j < i
                · obtain ⟨f, hf⟩ : ∃ f, l2[j]? = some f := ⟨_, List.getElem?_eq_getElem (by rw [HN.out]; omega)⟩
                  obtain ⟨c0, c1, c2⟩ := HO.out.cells HN.out HBW.out HE.out
                  obtain ⟨d0, d1, d2⟩ := HO.out.cells HN.out HBW.out hf
                  obtain ⟨e1, m, e3⟩ := e
                  obtain ⟨f1, p, f3⟩ := f
                  simp only at c0 c1 c2 d0 d1 d2
                  have HF := Lib.hid hf
                  have i0 : (0 : Int) ≤ i := by omega
                  have i1 : (i : Int) < n := by omega
                  have j0 : (0 : Int) ≤ j := by omega
                  have j1 : (j : Int) < n := by omega
                  clear hf
                  go_upto_region 10 with fail
                  go_cut [8, 9] from 27 to 87 (fun x y wc => ∃ b8 b9 : Nat, x = .pointer (some ⟨b8, 0, none⟩) ∧ y = .pointer (some ⟨b9, 0, none⟩) ∧ Hid (Blk wc b8 102 (I64s [(e1 : Int), (m : Int), (e3 : Int)])) ∧ Hid (Blk wc b9 102 (I64s [(f1 : Int), (p : Int), (f3 : Int)])) ∧ Hid (Below wA.heap.size wA wc))
                  case first =>
                    go_region_held3 (fun w' => w'.cell? ⟨g, i * 3, none⟩ = some (.int .i64 e1) ∧ w'.cell? ⟨g, i * 3 + 1, none⟩ = some (.int .i64 m) ∧ w'.cell? ⟨g, i * 3 + 2, none⟩ = some (.int .i64 e3) ∧ w'.cell? ⟨g, j * 3, none⟩ = some (.int .i64 f1) ∧ w'.cell? ⟨g, j * 3 + 1, none⟩ = some (.int .i64 p) ∧ w'.cell? ⟨g, j * 3 + 2, none⟩ = some (.int .i64 f3)) (go_keep) (fail)
                    all_goals
                      go_wp2_with fail
                      go_meet
                      case rel =>
                        have t1 := two_new wr (I64s [(e1 : Int), (m : Int), (e3 : Int)]) (I64s [(f1 : Int), (p : Int), (f3 : Int)])
                        have t2 := two_new wr (I64s [(f1 : Int), (p : Int), (f3 : Int)]) (I64s [(e1 : Int), (m : Int), (e3 : Int)])
                        have hs := HBW.out.size
                        first
                          | exact ⟨wr.heap.size, wr.heap.size + 1, rfl, rfl, Lib.hid t1.1, Lib.hid t1.2.1, Lib.hid (HBW.out.trans (t1.2.2.mono hs))⟩
                          | exact ⟨wr.heap.size + 1, wr.heap.size, rfl, rfl, Lib.hid t2.2.1, Lib.hid t2.1, Lib.hid (HBW.out.trans (t2.2.2.mono hs))⟩
                  case rest =>
                    obtain ⟨b8, b9, rfl, rfl, HB8, HB9, HBC⟩ := hcut
                    clear c0 c1 c2 d0 d1 d2 HBW
                    have c0 := HB8.out.cell (j := 0) rfl
                    have c1 := HB8.out.cell (j := 1) rfl
                    have c2 := HB8.out.cell (j := 2) rfl
                    have d0 := HB9.out.cell (j := 0) rfl
                    have d1 := HB9.out.cell (j := 1) rfl
                    have d2 := HB9.out.cell (j := 2) rfl
                    by_cases hmp : m = p
                    · subst hmp
                      have HGJ2 := HGJ.out
                      by_cases h1 : e1 = f1
                      · subst h1
                        by_cases h3 : e3 = f3
                        · subst h3
                          have hoc : OwnE wc b0 (.slice (some ⟨g, 0, none⟩) n vc) l2 := World.ownsRow.keep HO.out HBC.out
                          have HR1 := Lib.hid (hoc.take HN.out hv2 hv1 (Nat.le_of_lt hlt))
                          have HT1 : Hid ((l2.take i).length < 1000000) := Lib.hid (by rw [List.length_take]; omega)
                          have HSM := Lib.hid (HI.out.off_ hlj HE.out HF.out rfl)
                          clear hoc
                          go_upto_region 15 with (at_builtin; refine wpList_appE (OwnE.nil wc wc.heap.size) (Nat.le_refl _) (by simp) rfl (.tmp 53) (.tmp 56) rfl (by simp [Act.eval]) (by simp [Act.eval]) HR1.out HT1.out ?_; intro v6 w6 hown6 hgr6 hb6)
                          have h6 : OwnE w6 wc.heap.size v6 (l2.take i) := by rw [List.nil_append] at hown6; exact hown6
                          have hbc6 : Below wA.heap.size wA w6 := HBC.out.trans (hb6.mono HBC.out.size)
                          have hoc : OwnE w6 b0 (.slice (some ⟨g, 0, none⟩) n vc) l2 := World.ownsRow.keep HO.out hbc6
                          have H6 := Lib.hid h6
                          have HB6 := Lib.hid hbc6
                          have HS6 := Lib.hid hb6.size
                          have hdl : (l2.drop (i + 1)).length < 1000000 := by rw [List.length_drop, HN.out]; omega
                          have HDL := Lib.hid hdl
                          clear h6 hbc6 hown6 hgr6 hb6 c0 c1 c2 d0 d1 d2 hdl
                          by_cases hcap : i + 1 = vc
                          · have hni : n = i + 1 := by omega
                            have hd0 : l2.drop (i + 1) = [] := List.drop_of_length_le (by rw [HN.out]; omega)
                            have HD0 := Lib.hid hd0
                            clear hoc hd0
                            subst hcap
                            subst hni
                            go_wp2_with (at_builtin; refine wpList_appE H6.out HS6.out HT1.out rfl (.tmp 58) (.tmp 62) rfl (by simp [Act.eval]) (by simp [Act.eval]) (EdR.none_left (g := g)) (by decide) ?_; intro v7 w7 hown7 hgr7 hb7)
                            have h7 : OwnE w7 wc.heap.size v7 (l2.take i ++ l2.drop (i + 1)) := by rw [HD0.out]; exact hown7
                            have hb7w : Below wA.heap.size wA w7 := HB6.out.trans (hb7.mono (Nat.le_trans HBC.out.size (Nat.le_refl _)))
                            have H7 := Lib.hid h7
                            have HZ7 := Lib.hid (HZ.out.keep hb7w)
                            have HB7 := Lib.hid (HB.out.trans (hb7w.mono hbsz))
                            clear h7 hb7w hown7 hgr7 hb7
                            go_roundg 0
                            case rel => exact .inr ⟨j + 1, _, _, _, by go_num, rfl, rfl, by omega, H7, HSM, HZ7, HB7⟩
                            case measure => omega
                          · have hcapI : ¬ ((i : Int) + 1 = vc) := by omega
                            have HR2 := Lib.hid (hoc.drop HN.out hv2 hv1 (i := i + 1) hlt)
                            clear hoc
                            go_wp2_with (at_builtin; refine wpList_appE H6.out HS6.out HT1.out rfl (.tmp 58) (.tmp 62) rfl (by simp [Act.eval]) (by simp [Act.eval]) HR2.out HDL.out ?_; intro v7 w7 hown7 hgr7 hb7)
                            have h7 : OwnE w7 wc.heap.size v7 (l2.take i ++ l2.drop (i + 1)) := hown7
                            have hb7w : Below wA.heap.size wA w7 := HB6.out.trans (hb7.mono (Nat.le_trans HBC.out.size (Nat.le_refl _)))
                            have H7 := Lib.hid h7
                            have HZ7 := Lib.hid (HZ.out.keep hb7w)
                            have HB7 := Lib.hid (HB.out.trans (hb7w.mono hbsz))
                            clear h7 hb7w hown7 hgr7 hb7
                            go_roundg 0
                            case rel => exact .inr ⟨j + 1, _, _, _, by go_num, rfl, rfl, by omega, H7, HSM, HZ7, HB7⟩
                            case measure => omega
                        · have h3I : ¬ ((e3 : Int) = f3) := by omega
                          have HJ := Lib.hid (joined_any wc b0 (.slice (some ⟨g, 0, none⟩) n vc) l2 e3 f3 (World.ownsRow.keep HO.out HBC.out) (by rw [HN.out]; exact hn9))
                          have HSM := Lib.hid (HI.out.tos HE.out HF.out rfl rfl h3)
                          go_wp2_with (go_at_call 111; refine HJ.out.mono ?_; rintro e w7 ⟨v7, rfl, hown7, hb7⟩; have H7 := Lib.hid hown7; have HB7W := Lib.hid hb7; clear hown7 hb7)
                          have hb7w : Below wA.heap.size wA w7 := HBC.out.trans (HB7W.out.mono HBC.out.size)
                          have HZ7 := Lib.hid (HZ.out.keep hb7w)
                          have HB7 := Lib.hid (HB.out.trans (hb7w.mono hbsz))
                          clear hb7w
                          go_roundg 0
                          case rel => exact .inr ⟨j + 1, _, _, _, by go_num, rfl, rfl, by omega, H7, HSM, HZ7, HB7⟩
                          case measure => omega
                      · have h1I : ¬ ((e1 : Int) = f1) := by omega
                        by_cases h3 : e3 = f3
                        · subst h3
                          have HJ := Lib.hid (joined_any wc b0 (.slice (some ⟨g, 0, none⟩) n vc) l2 e1 f1 (World.ownsRow.keep HO.out HBC.out) (by rw [HN.out]; exact hn9))
                          have HSM := Lib.hid (HI.out.froms HE.out HF.out rfl rfl h1)
                          go_wp2_with (go_at_call 111; refine HJ.out.mono ?_; rintro e w7 ⟨v7, rfl, hown7, hb7⟩; have H7 := Lib.hid hown7; have HB7W := Lib.hid hb7; clear hown7 hb7)
                          have hb7w : Below wA.heap.size wA w7 := HBC.out.trans (HB7W.out.mono HBC.out.size)
                          have HZ7 := Lib.hid (HZ.out.keep hb7w)
                          have HB7 := Lib.hid (HB.out.trans (hb7w.mono hbsz))
                          clear hb7w
                          go_roundg 0
                          case rel => exact .inr ⟨j + 1, _, _, _, by go_num, rfl, rfl, by omega, H7, HSM, HZ7, HB7⟩
                          case measure => omega
                        · have h3I : ¬ ((e3 : Int) = f3) := by omega
                          have G1 := Lib.hid (HAP.out.step HF.out (fun _ => ⟨h1, h3⟩))
                          go_wp2_with fail
                          go_roundg (n - j)
                          case rel => exact .inl ⟨j + 1, by go_num, rfl, rfl, by omega, HBC, G1, Lib.hid (by omega)⟩
                          case measure => omega
                    · have hI : ¬ ((m : Int) = p) := by omega
                      have G1 := Lib.hid (HAP.out.step HF.out (fun h => absurd h hmp))
                      have HGJ2 := HGJ.out
                      go_wp2_with fail
                      go_roundg (n - j)
                      case rel => exact .inl ⟨j + 1, by go_num, rfl, rfl, by omega, HBC, G1, Lib.hid (by omega)⟩
                      case measure => omega
                · obtain rfl : j = i := by omega
                  have G1 := Lib.hid (HDI.out.step HE.out HAP.out)
                  have HGI2 := HGI.out
                  go_wp2_with fail
                  go_roundg (n - j)
                  case rel => exact .inl ⟨j + 1, by go_num, rfl, rfl, by omega, HBW, G1, Lib.hid (by omega)⟩
                  case measure => omega
              · have HGI2 := HGI.out
                by_cases hlj : j < i
                all_goals
                  go_wp2_with fail
                  go_roundg 0
                  case rel => exact .inr ⟨i + 1, _, _, _, by go_num, rfl, rfl, by omega, HO3, HS3, HZ3, HB3⟩
                  case measure => omega
          · obtain rfl : i = n := by omega
            have hdet := HDI.out
            rw [List.take_of_length_le (by rw [HN.out]; exact Nat.le_refl _)] at hdet
            have HDET := Lib.hid hdet
            have HOW : Hid (OwnE wr b0 (.slice va i vc) l2) := Lib.hid (World.ownsRow.keep HO.out HBW.out)
            have HZW := Lib.hid (HZ.out.keep HBW.out)
            have HBB := Lib.hid (HB.out.trans (HBW.out.mono hbsz))
            have HLW : Hid (l2.length < 100000) := Lib.hid (by rw [HN.out]; exact hn9)
            have HGG := HG2.out
            clear hdet
            go_wp2_with fail
            go_roundg (2 * (sumE l2 + l2.length))
            case rel => exact ⟨false, b0, l2, _, rfl, rfl, HOW, HI, Lib.hid (fun _ => HDET.out), Lib.hid (by simp), HLW, HZW, HBB⟩
            case measure => omega
        · obtain ⟨n3, hn3⟩ : ∃ n3, l3.length = n3 := ⟨_, rfl⟩
          have h9 : OwnK wr b1 102 3 lw n3 (edL l3) := by rw [← hn3]; exact HO3.out
          obtain ⟨a3, c3, rfl, hw1, hw2, -⟩ := row_shape h9
          have HLW : Hid (l3.length < 100000) := Lib.hid (by have := HS3.out.len; have := HN.out; omega)
          have HGG : 2 * (sumE l3 + l3.length) + 1 < gA := by have := HS3.out.less; have := HG2.out; omega
          have HI3 := Lib.hid HS3.out.inv
          clear h9
          by_cases hli : i < n3
          all_goals
            go_wp2_with fail
            go_roundg (2 * (sumE l3 + l3.length) + 1)
            case rel => exact ⟨true, b1, l3, _, rfl, rfl, HO3, HI3, Lib.hid (by simp), Lib.hid (by simp), HLW, HZ3, HB3⟩
            case measure => omega
end Go.Proofs.Ytlooclpfoeakgaa

/- Fold at any words, and that the program and the reference make the same graph. -/
namespace Go.Proofs.Ytlooclpfoeakgaa
open Go.RowKit

theorem rFold_any (k : Nat) (v : Value) (ss : List ByteArray) (w : World) (hv : Strs w v ss) (hk1 : 1 ≤ k) (hk4 : k ≤ 4) (hl : ss.length ≤ 12) (hw : ∀ s ∈ ss, isWord (bts s) = true ∧ s.size ≤ 200 ∧ fitW k (bts s) = true) :
    Calls Try.prog 17 #[.int .i64 k, v] w fun e w' => ∃ (rv : Value) (g : List (List Int)), e = .returned (.agg #[.int .i64 k, rv]) ∧ IsGraph k (setR ss) g ∧ RowsAt w' w.heap.size rv g (fun _ => True) ∧ Below w.heap.size w w' :=
  rFold_of folded_any k v ss w hv hk1 hk4 hl hw
theorem folds_same {k : Nat} (hk : k ≤ 26) {ss : List ByteArray} {g g2 : List (List Int)} (h1 : IsGraph k (setS ss) g) (h2 : IsGraph k (setR ss) g2) : g = g2 := by
  obtain ⟨nx, o, a1, _, rfl⟩ := h1
  obtain ⟨ny, p, b1, _, rfl⟩ := h2
  exact graph_same hk a1 b1 (fun g _ => (gen_red (S := setS ss)).symm) 5000
theorem wordsErr_zero {k : Int} {ss : List ByteArray} (h : wordsErr k ss = 0) : ∃ kk : Nat, k = kk ∧ 1 ≤ kk ∧ kk ≤ 4 ∧ ss.length ≤ 12 ∧ errL kk ss = 0 ∧ ∀ s ∈ ss, isWord (bts s) = true ∧ s.size ≤ 200 ∧ fitW kk (bts s) = true := by
  unfold wordsErr at h
  split at h
  · cases h
  · rename_i h1
    split at h
    · cases h
    · rename_i h2
      refine ⟨k.toNat, by omega, by omega, by omega, by omega, h, fun s hs => oneErr_zero (errL_all h s hs)⟩
theorem Fold_all (k : Int) (v : Value) (ss : List ByteArray) (w : World) (hv : Strs w v ss) (hz : ∀ s ∈ ss, s.size ≤ 1000000) :
    Calls Try.prog 13 #[.int .i64 k, v] w fun e w' => Below w.heap.size w w' ∧ ((wordsErr k ss ≠ 0 ∧ e = .returned (.tuple #[.agg #[.int .i64 0, .slice none 0 0], .int .i64 (wordsErr k ss)])) ∨
      (wordsErr k ss = 0 ∧ ∃ (kk : Nat) (rv : Value) (g : List (List Int)), k = kk ∧ e = .returned (.tuple #[.agg #[.int .i64 kk, rv], .int .i64 0]) ∧ IsGraph kk (setS ss) g ∧ RowsAt w' w.heap.size rv g (fun _ => True))) := by
  by_cases hb : k < 1 ∨ 4 < k ∨ 12 < ss.length
  · have hne : wordsErr k ss ≠ 0 := by
      unfold wordsErr
      split
      · decide
      · rename_i h1
        rw [if_pos (by omega)]; decide
    refine (Fold_few k v ss w hv hb).mono ?_
    rintro e w' ⟨rfl, hb⟩
    exact ⟨hb, .inl ⟨hne, rfl⟩⟩
  · obtain ⟨kk, rfl⟩ : ∃ kk : Nat, k = kk := ⟨k.toNat, by omega⟩
    have he : wordsErr (kk : Int) ss = errL kk ss := by
      unfold wordsErr
      rw [if_neg (by omega), if_neg (by omega)]
      rfl
    rw [he]
    refine (Fold_words kk v ss w hv hz (by omega) (by omega) (by omega)).mono ?_
    rintro e w' ⟨hb, h⟩
    refine ⟨hb, ?_⟩
    rcases h with ⟨h1, rfl⟩ | ⟨h1, rv, g, rfl, h2, h3⟩
    · exact .inl ⟨h1, rfl⟩
    · exact .inr ⟨h1, kk, rv, g, rfl, rfl, h2, h3⟩
end Go.Proofs.Ytlooclpfoeakgaa

/- Rows of integers that are only read; slices.Equal and slices.EqualFunc at them. -/
namespace Go.Proofs.Ytlooclpfoeakgaa
open Go.RowKit

theorem cell_lt {w : World} {b j : Nat} {x : Value} (h : w.cell? ⟨b, j, none⟩ = some x) : b < w.heap.size := by
  rcases Nat.lt_or_ge b w.heap.size with q | q
  · exact q
  · exfalso
    have : w.heap[b]? = none := Array.getElem?_eq_none q
    simp [World.cell?, this] at h
/-- the value u reads as the integers r -/
def IntsR (w : World) (u : Value) (r : List Int) : Prop := ∃ (a : Option Addr) (c : Nat), u = .slice a r.length c ∧ r.length ≤ c ∧ c ≤ 9223372036854775807 ∧ (0 < r.length → ∃ b, a = some ⟨b, 0, none⟩ ∧ ∀ j x, r[j]? = some x → w.cell? ⟨b, j, none⟩ = some (.int .i64 x))
/-- the value rv reads as the rows g -/
def RowsR (w : World) (rv : Value) (g : List (List Int)) : Prop := ∃ (a : Option Addr) (c : Nat), rv = .slice a g.length c ∧ g.length ≤ c ∧ c ≤ 9223372036854775807 ∧ (0 < g.length → ∃ b, a = some ⟨b, 0, none⟩ ∧ ∀ i r, g[i]? = some r → ∃ u, w.cell? ⟨b, i, none⟩ = some u ∧ IntsR w u r)
theorem IntsR.keep {w w2 : World} {u : Value} {r : List Int} (h : IntsR w u r) (hb : Below w.heap.size w w2) : IntsR w2 u r := by
  obtain ⟨a, c, h1, h2, h3, h4⟩ := h
  refine ⟨a, c, h1, h2, h3, fun h0 => ?_⟩
  obtain ⟨b, h5, h6⟩ := h4 h0
  exact ⟨b, h5, fun j x hj => (hb.cell (p := ⟨b, j, none⟩) (cell_lt (h6 j x hj))).trans (h6 j x hj)⟩
theorem RowsR.keep {w w2 : World} {rv : Value} {g : List (List Int)} (h : RowsR w rv g) (hb : Below w.heap.size w w2) : RowsR w2 rv g := by
  obtain ⟨a, c, h1, h2, h3, h4⟩ := h
  refine ⟨a, c, h1, h2, h3, fun h0 => ?_⟩
  obtain ⟨b, h5, h6⟩ := h4 h0
  refine ⟨b, h5, fun i r hi => ?_⟩
  obtain ⟨u, h7, h8⟩ := h6 i r hi
  exact ⟨u, (hb.cell (p := ⟨b, i, none⟩) (cell_lt h7)).trans h7, h8.keep hb⟩
theorem IntsR.shape {w : World} {u : Value} {r : List Int} (h : IntsR w u r) {n : Nat} (hn : r.length = n) : ∃ (a : Option Addr) (c : Nat), u = .slice a n c ∧ n ≤ c ∧ c ≤ 9223372036854775807 := by
  obtain ⟨a, c, h1, h2, h3, -⟩ := h
  subst hn
  exact ⟨a, c, h1, h2, h3⟩
theorem RowsR.shape {w : World} {u : Value} {g : List (List Int)} (h : RowsR w u g) {n : Nat} (hn : g.length = n) : ∃ (a : Option Addr) (c : Nat), u = .slice a n c ∧ n ≤ c ∧ c ≤ 9223372036854775807 := by
  obtain ⟨a, c, h1, h2, h3, -⟩ := h
  subst hn
  exact ⟨a, c, h1, h2, h3⟩
theorem IntsR.at_ {w wr : World} {a : Option Addr} {n c : Nat} {r : List Int} (h : IntsR w (.slice a n c) r) (hb : Below w.heap.size w wr) {j : Nat} {x : Int} (hj : r[j]? = some x) : ∃ b, a = some ⟨b, 0, none⟩ ∧ wr.cell? ⟨b, j, none⟩ = some (.int .i64 x) := by
  obtain ⟨a2, c2, h1, -, -, h4⟩ := h
  obtain ⟨rfl, rfl, rfl⟩ : a = a2 ∧ n = r.length ∧ c = c2 := by simpa using h1
  obtain ⟨b, h5, h6⟩ := h4 (by have := (List.getElem?_eq_some_iff.1 hj).1; omega)
  exact ⟨b, h5, (hb.cell (p := ⟨b, j, none⟩) (cell_lt (h6 j x hj))).trans (h6 j x hj)⟩
theorem RowsR.at_ {w wr : World} {a : Option Addr} {n c : Nat} {g : List (List Int)} (h : RowsR w (.slice a n c) g) (hb : Below w.heap.size w wr) {i : Nat} {r : List Int} (hi : g[i]? = some r) : ∃ b u, a = some ⟨b, 0, none⟩ ∧ wr.cell? ⟨b, i, none⟩ = some u ∧ IntsR wr u r := by
  obtain ⟨a2, c2, h1, -, -, h4⟩ := h
  obtain ⟨rfl, rfl, rfl⟩ : a = a2 ∧ n = g.length ∧ c = c2 := by simpa using h1
  obtain ⟨b, h5, h6⟩ := h4 (by have := (List.getElem?_eq_some_iff.1 hi).1; omega)
  obtain ⟨u, h7, h8⟩ := h6 i r hi
  exact ⟨b, u, h5, (hb.cell (p := ⟨b, i, none⟩) (cell_lt h7)).trans h7, h8.keep hb⟩
theorem ne_at {α : Type} {r s : List α} {i : Nat} {x y : α} (h1 : r[i]? = some x) (h2 : s[i]? = some y) (h : x ≠ y) : r ≠ s := by
  intro e
  rw [e, h2] at h1
  exact h (Option.some.inj h1).symm
theorem eq_all {α : Type} {r s : List α} {n : Nat} (hr : r.length = n) (hs : s.length = n) (h : ∀ t, t < n → r[t]? = s[t]?) : r = s := by
  apply List.ext_getElem?
  intro t
  rcases Nat.lt_or_ge t n with q | q
  · exact h t q
  · rw [List.getElem?_eq_none (by omega), List.getElem?_eq_none (by omega)]

set_option maxRecDepth 100000 in
set_option maxHeartbeats 1000000 in
theorem equal_any (w : World) (u1 u2 : Value) (r s : List Int) (h1 : IntsR w u1 r) (h2 : IntsR w u2 s) (hl : r.length < 1000000000) :
    Calls Try.prog 89 #[u1, u2] w fun e w' => e = .returned (.bool (decide (r = s))) ∧ Below w.heap.size w w' := by
  obtain ⟨n, hn⟩ : ∃ n, r.length = n := ⟨_, rfl⟩
  obtain ⟨m, hm⟩ : ∃ m, s.length = m := ⟨_, rfl⟩
  obtain ⟨a1, c1, rfl, p1, p2⟩ := h1.shape hn
  obtain ⟨a2, c2, rfl, q1, q2⟩ := h2.shape hm
  rw [hn] at hl
  by_cases hnm : n = m
  · subst hnm
    have H1 := Lib.hid h1
    have H2 := Lib.hid h2
    have HN := Lib.hid hn
    have HM := Lib.hid hm
    have HB := Lib.hid (Below.refl w.heap.size w)
    have HE : Hid (∀ t, t < 0 → r[t]? = s[t]?) := Lib.hid (fun t h => by omega)
    clear h1 h2 hn hm
    go_enter Try.func89, Try.ntmps89
    go_wp2_with fail
    go_loopw [13] (fun iv wr => ∃ i : Nat, i ≤ n ∧ iv = .int .i64 i ∧ Hid (∀ t, t < i → r[t]? = s[t]?) ∧ Hid (Below w.heap.size w wr)) (fun iv _ => n - (intOf iv).toNat)
    case atStart => exact ⟨0, by omega, rfl, HE, HB⟩
    case round =>
      clear HE HB
      obtain ⟨i, hi, rfl, HE, HB⟩ := hrel
      by_cases hlt : i < n
      · obtain ⟨x, hx⟩ : ∃ x, r[i]? = some x := ⟨_, List.getElem?_eq_getElem (by rw [HN.out]; exact hlt)⟩
        obtain ⟨y, hy⟩ : ∃ y, s[i]? = some y := ⟨_, List.getElem?_eq_getElem (by rw [HM.out]; exact hlt)⟩
        obtain ⟨b1, rfl, d1⟩ := H1.out.at_ HB.out hx
        obtain ⟨b2, rfl, d2⟩ := H2.out.at_ HB.out hy
        have i0 : (0 : Int) ≤ i := by omega
        have i1 : (i : Int) < n := by omega
        have HX := Lib.hid hx
        have HY := Lib.hid hy
        clear hx hy
        go_upto_region 6 with fail
        go_quiet (fail)
        generalize nq = na
        have HB2 : Hid (Below w.heap.size w (wr.drewN na)) := Lib.hid (HB.out.trans ((Below.refl _ _).drewN' _))
        clear d1 d2 HB
        by_cases hxy : x = y
        · subst hxy
          have G1 : Hid (∀ t, t < i + 1 → r[t]? = s[t]?) := Lib.hid (fun t ht => by
            by_cases q : t = i
            · subst q; rw [HX.out, HY.out]
            · exact HE.out t (by omega))
          go_wp2_with fail
          go_roundw
          case rel => exact ⟨i + 1, by omega, by go_num, G1, HB2⟩
          case measure => simp [intOf]; omega
        · have hd : Hid (decide (r = s) = false) := Lib.hid (decide_eq_false (ne_at HX.out HY.out hxy))
          go_wp2_with fail
          go_ret
          exact ⟨by rw [hd.out]; rfl, HB2.out⟩
      · obtain rfl : i = n := by omega
        have hd : Hid (decide (r = s) = true) := Lib.hid (decide_eq_true (eq_all HN.out HM.out HE.out))
        go_wp2_with fail
        go_ret
        exact ⟨by rw [hd.out]; rfl, HB.out⟩
  · have hd : decide (r = s) = false := decide_eq_false (fun e => hnm (by rw [← hn, ← hm, e]))
    have HD := Lib.hid hd
    have hnI : ¬ ((n : Int) = m) := by omega
    clear h1 h2 hn hm hd hnm
    go_enter Try.func89, Try.ntmps89
    go_wp2_with fail
    go_ret
    exact ⟨by rw [HD.out]; rfl, Below.refl _ _⟩
end Go.Proofs.Ytlooclpfoeakgaa

/- slices.EqualFunc, Index, Contains, ContainsFunc at rows; whether a graph is whole. -/
namespace Go.Proofs.Ytlooclpfoeakgaa
open Go.RowKit

set_option maxRecDepth 100000 in
set_option maxHeartbeats 1000000 in
theorem eqfunc_any (w : World) (u1 u2 : Value) (g h : List (List Int)) (h1 : RowsR w u1 g) (h2 : RowsR w u2 h) (hl : g.length < 1000000000) (hr : ∀ r ∈ g, r.length < 1000000000) :
    Calls Try.prog 87 #[u1, u2, .func (.func 89) #[] #[]] w fun e w' => e = .returned (.bool (decide (g = h))) ∧ Below w.heap.size w w' := by
  obtain ⟨n, hn⟩ : ∃ n, g.length = n := ⟨_, rfl⟩
  obtain ⟨m, hm⟩ : ∃ m, h.length = m := ⟨_, rfl⟩
  obtain ⟨a1, c1, rfl, p1, p2⟩ := h1.shape hn
  obtain ⟨a2, c2, rfl, q1, q2⟩ := h2.shape hm
  rw [hn] at hl
  have eg : ∀ (args : Array Value) (w : World), (callFunc 89 args).run Try.prog w = .ok (.enter 89 args) w := fun _ _ => rfl
  by_cases hnm : n = m
  · subst hnm
    have H1 := Lib.hid h1
    have H2 := Lib.hid h2
    have HN := Lib.hid hn
    have HM := Lib.hid hm
    have HR := Lib.hid hr
    have HB := Lib.hid (Below.refl w.heap.size w)
    have HE : Hid (∀ t, t < 0 → g[t]? = h[t]?) := Lib.hid (fun t h => by omega)
    clear h1 h2 hn hm hr
    go_enter Try.func87, Try.ntmps87
    go_wp2_with fail
    go_loopw [17] (fun iv wr => ∃ i : Nat, i ≤ n ∧ iv = .int .i64 i ∧ Hid (∀ t, t < i → g[t]? = h[t]?) ∧ Hid (Below w.heap.size w wr)) (fun iv _ => n - (intOf iv).toNat)
    case atStart => exact ⟨0, by omega, rfl, HE, HB⟩
    case round =>
      clear HE HB
      obtain ⟨i, hi, rfl, HE, HB⟩ := hrel
      by_cases hlt : i < n
      · obtain ⟨x, hx⟩ : ∃ x, g[i]? = some x := ⟨_, List.getElem?_eq_getElem (by rw [HN.out]; exact hlt)⟩
        obtain ⟨y, hy⟩ : ∃ y, h[i]? = some y := ⟨_, List.getElem?_eq_getElem (by rw [HM.out]; exact hlt)⟩
        obtain ⟨b1, v1, rfl, d1, e1⟩ := H1.out.at_ HB.out hx
        obtain ⟨b2, v2, rfl, d2, e2⟩ := H2.out.at_ HB.out hy
        have i0 : (0 : Int) ≤ i := by omega
        have i1 : (i : Int) < n := by omega
        have hc := equal_any wr v1 v2 x y e1 e2 (HR.out x (List.mem_of_getElem? hx))
        have HX := Lib.hid hx
        have HY := Lib.hid hy
        have HC := Lib.hid hc
        clear hx hy hc e1 e2
        go_upto_region 7 with fail
        have HBZ := Lib.hid HB.out.size
        by_cases hxy : x = y
        · have HT : Hid (decide (x = y) = true) := Lib.hid (decide_eq_true hxy)
          rw [HT.out] at HC
          have G1 : Hid (∀ t, t < i + 1 → g[t]? = h[t]?) := Lib.hid (fun t ht => by
            by_cases q : t = i
            · subst q; rw [HX.out, HY.out, hxy]
            · exact HE.out t (by omega))
          clear hxy HT
          go_wp2_with (refine HC.out.mono ?_; rintro e w2 ⟨rfl, hb2⟩; have HB2 := Lib.hid (HB.out.trans (hb2.mono HBZ.out)); clear hb2)
          go_roundw
          case rel => exact ⟨i + 1, by omega, by go_num, G1, HB2⟩
          case measure => simp [intOf]; omega
        · have HT : Hid (decide (x = y) = false) := Lib.hid (decide_eq_false hxy)
          rw [HT.out] at HC
          have hd : Hid (decide (g = h) = false) := Lib.hid (decide_eq_false (ne_at HX.out HY.out hxy))
          clear hxy HT
          go_wp2_with (refine HC.out.mono ?_; rintro e w2 ⟨rfl, hb2⟩; have HB2 := Lib.hid (HB.out.trans (hb2.mono HBZ.out)); clear hb2)
          go_ret
          exact ⟨by rw [hd.out]; rfl, HB2.out⟩
      · obtain rfl : i = n := by omega
        have hd : Hid (decide (g = h) = true) := Lib.hid (decide_eq_true (eq_all HN.out HM.out HE.out))
        go_wp2_with fail
        go_ret
        exact ⟨by rw [hd.out]; rfl, HB.out⟩
  · have hd : decide (g = h) = false := decide_eq_false (fun e => hnm (by rw [← hn, ← hm, e]))
    have HD := Lib.hid hd
    have hnI : ¬ ((n : Int) = m) := by omega
    clear h1 h2 hn hm hd hnm
    go_enter Try.func87, Try.ntmps87
    go_wp2_with fail
    go_ret
    exact ⟨by rw [HD.out]; rfl, Below.refl _ _⟩

set_option maxRecDepth 100000 in
set_option maxHeartbeats 1000000 in
theorem index_any (w : World) (u : Value) (r : List Int) (x : Int) (h1 : IntsR w u r) (hl : r.length < 1000000000) :
    Calls Try.prog 130 #[u, .int .i64 x] w fun e w' => ∃ z : Int, e = .returned (.int .i64 z) ∧ (0 ≤ z ↔ x ∈ r) ∧ Below w.heap.size w w' := by
  obtain ⟨n, hn⟩ : ∃ n, r.length = n := ⟨_, rfl⟩
  obtain ⟨a1, c1, rfl, p1, p2⟩ := h1.shape hn
  rw [hn] at hl
  have H1 := Lib.hid h1
  have HN := Lib.hid hn
  have HB := Lib.hid (Below.refl w.heap.size w)
  have HE : Hid (∀ t, t < 0 → r[t]? ≠ some x) := Lib.hid (fun t h => by omega)
  clear h1 hn
  go_enter Try.func130, Try.ntmps130
  go_wp2_with fail
  go_loopw [8] (fun iv wr => ∃ i : Nat, i ≤ n ∧ iv = .int .i64 i ∧ Hid (∀ t, t < i → r[t]? ≠ some x) ∧ Hid (Below w.heap.size w wr)) (fun iv _ => n - (intOf iv).toNat)
  case atStart => exact ⟨0, by omega, rfl, HE, HB⟩
  case round =>
    clear HE HB
    obtain ⟨i, hi, rfl, HE, HB⟩ := hrel
    by_cases hlt : i < n
    · obtain ⟨y, hy⟩ : ∃ y, r[i]? = some y := ⟨_, List.getElem?_eq_getElem (by rw [HN.out]; exact hlt)⟩
      obtain ⟨b1, rfl, d1⟩ := H1.out.at_ HB.out hy
      have i0 : (0 : Int) ≤ i := by omega
      have i1 : (i : Int) < n := by omega
      have HY := Lib.hid hy
      clear hy
      by_cases hxy : x = y
      · subst hxy
        go_wp2_with fail
        go_ret
        exact ⟨i, rfl, ⟨fun _ => List.mem_of_getElem? HY.out, fun _ => i0⟩, HB.out⟩
      · have G1 : Hid (∀ t, t < i + 1 → r[t]? ≠ some x) := Lib.hid (fun t ht => by
            by_cases q : t = i
            · subst q; rw [HY.out]; exact fun e => hxy (Option.some.inj e).symm
            · exact HE.out t (by omega))
        go_wp2_with fail
        go_roundw
        case rel => exact ⟨i + 1, by omega, by go_num, G1, HB⟩
        case measure => simp [intOf]; omega
    · obtain rfl : i = n := by omega
      have hd : Hid (x ∉ r) := Lib.hid (fun hx => by
        obtain ⟨t, ht⟩ := List.mem_iff_getElem?.1 hx
        exact HE.out t (by rw [← HN.out]; exact (List.getElem?_eq_some_iff.1 ht).1) ht)
      go_wp2_with fail
      go_ret
      exact ⟨-1, rfl, ⟨fun h => by omega, fun h => absurd h hd.out⟩, HB.out⟩

set_option maxRecDepth 100000 in
theorem contI_any (w : World) (u : Value) (r : List Int) (x : Int) (h1 : IntsR w u r) (hl : r.length < 1000000000) :
    Calls Try.prog 116 #[u, .int .i64 x] w fun e w' => e = .returned (.bool (decide (x ∈ r))) ∧ Below w.heap.size w w' := by
  have HI := Lib.hid (index_any w u r x h1 hl)
  clear h1
  go_enter Try.func116, Try.ntmps116
  go_wp2_with (go_at_call 130; refine HI.out.mono ?_; rintro e w2 ⟨z, rfl, hz, hb2⟩; have HZ := Lib.hid hz; have HB2 := Lib.hid hb2; clear hz hb2)
  go_ret
  refine ⟨?_, HB2.out⟩
  show Ending.returned (Value.bool _) = _
  congr 2
  simp [HZ.out]

set_option maxRecDepth 100000 in
theorem whole1_any (w : World) (u : Value) (r : List Int) (h1 : IntsR w u r) (hl : r.length < 1000000000) :
    Calls Try.prog 115 #[u] w fun e w' => e = .returned (.bool (decide (-1 ∈ r))) ∧ Below w.heap.size w w' := by
  have HI := Lib.hid (contI_any w u r (-1) h1 hl)
  clear h1
  go_enter Try.func115, Try.ntmps115
  go_wp2_with (go_at_call 116; refine HI.out.mono ?_; rintro e w2 ⟨rfl, hb2⟩; have HB2 := Lib.hid hb2; clear hb2)
  go_ret
  exact ⟨rfl, HB2.out⟩

set_option maxRecDepth 100000 in
set_option maxHeartbeats 1000000 in
theorem indexF_any (w : World) (u : Value) (g : List (List Int)) (h1 : RowsR w u g) (hl : g.length < 1000000000) (hr : ∀ r ∈ g, r.length < 1000000000) :
    Calls Try.prog 129 #[u, .func (.func 115) #[] #[]] w fun e w' => ∃ z : Int, e = .returned (.int .i64 z) ∧ (0 ≤ z ↔ ∃ r ∈ g, -1 ∈ r) ∧ Below w.heap.size w w' := by
  obtain ⟨n, hn⟩ : ∃ n, g.length = n := ⟨_, rfl⟩
  obtain ⟨a1, c1, rfl, p1, p2⟩ := h1.shape hn
  rw [hn] at hl
  have eg : ∀ (args : Array Value) (w : World), (callFunc 115 args).run Try.prog w = .ok (.enter 115 args) w := fun _ _ => rfl
  have H1 := Lib.hid h1
  have HN := Lib.hid hn
  have HR := Lib.hid hr
  have HB := Lib.hid (Below.refl w.heap.size w)
  have HE : Hid (∀ t r, t < 0 → g[t]? = some r → -1 ∉ r) := Lib.hid (fun t r h => by omega)
  clear h1 hn hr
  go_enter Try.func129, Try.ntmps129
  go_wp2_with fail
  go_loopw [8] (fun iv wr => ∃ i : Nat, i ≤ n ∧ iv = .int .i64 i ∧ Hid (∀ t r, t < i → g[t]? = some r → -1 ∉ r) ∧ Hid (Below w.heap.size w wr)) (fun iv _ => n - (intOf iv).toNat)
  case atStart => exact ⟨0, by omega, rfl, HE, HB⟩
  case round =>
    clear HE HB
    obtain ⟨i, hi, rfl, HE, HB⟩ := hrel
    by_cases hlt : i < n
    · obtain ⟨y, hy⟩ : ∃ y, g[i]? = some y := ⟨_, List.getElem?_eq_getElem (by rw [HN.out]; exact hlt)⟩
      obtain ⟨b1, v1, rfl, d1, e1⟩ := H1.out.at_ HB.out hy
      have i0 : (0 : Int) ≤ i := by omega
      have i1 : (i : Int) < n := by omega
      have HC := Lib.hid (whole1_any wr v1 y e1 (HR.out y (List.mem_of_getElem? hy)))
      have HY := Lib.hid hy
      have HBZ := Lib.hid HB.out.size
      clear hy e1
      by_cases hxy : -1 ∈ y
      · have HT : Hid (decide (-1 ∈ y) = true) := Lib.hid (decide_eq_true hxy)
        rw [HT.out] at HC
        have HX := Lib.hid hxy
        clear hxy HT
        go_wp2_with (refine HC.out.mono ?_; rintro e w2 ⟨rfl, hb2⟩; have HB2 := Lib.hid (HB.out.trans (hb2.mono HBZ.out)); clear hb2)
        go_ret
        exact ⟨i, rfl, ⟨fun _ => ⟨y, List.mem_of_getElem? HY.out, HX.out⟩, fun _ => i0⟩, HB2.out⟩
      · have HT : Hid (decide (-1 ∈ y) = false) := Lib.hid (decide_eq_false hxy)
        rw [HT.out] at HC
        have G1 : Hid (∀ t r, t < i + 1 → g[t]? = some r → -1 ∉ r) := Lib.hid (fun t r ht hr => by
            by_cases q : t = i
            · subst q; rw [HY.out] at hr; rw [← Option.some.inj hr]; exact hxy
            · exact HE.out t r (by omega) hr)
        clear hxy HT
        go_wp2_with (refine HC.out.mono ?_; rintro e w2 ⟨rfl, hb2⟩; have HB2 := Lib.hid (HB.out.trans (hb2.mono HBZ.out)); clear hb2)
        go_roundw
        case rel => exact ⟨i + 1, by omega, by go_num, G1, HB2⟩
        case measure => simp [intOf]; omega
    · obtain rfl : i = n := by omega
      have hd : Hid (¬ ∃ r ∈ g, -1 ∈ r) := Lib.hid (fun ⟨r, hx, hm⟩ => by
        obtain ⟨t, ht⟩ := List.mem_iff_getElem?.1 hx
        exact HE.out t r (by rw [← HN.out]; exact (List.getElem?_eq_some_iff.1 ht).1) ht hm)
      go_wp2_with fail
      go_ret
      exact ⟨-1, rfl, ⟨fun h => by omega, fun h => absurd h hd.out⟩, HB.out⟩

set_option maxRecDepth 100000 in
theorem contF_any (w : World) (u : Value) (g : List (List Int)) (h1 : RowsR w u g) (hl : g.length < 1000000000) (hr : ∀ r ∈ g, r.length < 1000000000) :
    Calls Try.prog 114 #[u, .func (.func 115) #[] #[]] w fun e w' => e = .returned (.bool (decide (∃ r ∈ g, -1 ∈ r))) ∧ Below w.heap.size w w' := by
  have HI := Lib.hid (indexF_any w u g h1 hl hr)
  clear h1
  go_enter Try.func114, Try.ntmps114
  go_wp2_with (go_at_call 129; refine HI.out.mono ?_; rintro e w2 ⟨z, rfl, hz, hb2⟩; have HZ := Lib.hid hz; have HB2 := Lib.hid hb2; clear hz hb2)
  go_ret
  refine ⟨?_, HB2.out⟩
  show Ending.returned (Value.bool _) = _
  congr 2
  exact Bool.eq_iff_iff.2 (by rw [decide_eq_true_iff, decide_eq_true_iff]; exact HZ.out)

/-- whether each vertex has all edges -/
def wholeG (g : List (List Int)) : Bool := !decide (∃ r ∈ g, -1 ∈ r)
set_option maxRecDepth 100000 in
theorem whole_any (w : World) (kv u : Value) (g : List (List Int)) (h1 : RowsR w u g) (hl : g.length < 1000000000) (hr : ∀ r ∈ g, r.length < 1000000000) :
    Calls Try.prog 69 #[.agg #[kv, u]] w fun e w' => e = .returned (.bool (wholeG g)) ∧ Below w.heap.size w w' := by
  have hb1 : Below w.heap.size w (w.alloc (.cells #[kv, u] 25)) := (Below.refl _ _).alloc (Nat.le_refl _) _
  have HI := Lib.hid (contF_any _ u g (h1.keep hb1) hl hr)
  have HB1 := Lib.hid hb1
  clear h1 hb1
  go_enter Try.func69, Try.ntmps69
  go_wp2_with (go_at_call 114; refine HI.out.mono ?_; rintro e w2 ⟨rfl, hb2⟩; have HB2 := Lib.hid (HB1.out.trans (hb2.mono HB1.out.size)); clear hb2)
  go_ret
  exact ⟨rfl, HB2.out⟩
end Go.Proofs.Ytlooclpfoeakgaa

/- Numbered graphs, and that they are numbered anew as they are. Plain laws. -/
namespace Go.Proofs.Ytlooclpfoeakgaa

theorem posOf_app {u n : Nat} {t : List Nat} : ∀ {l : List Nat}, posOf u l = some n → posOf u (l ++ t) = some n
  | [], h => by simp [posOf] at h
  | x :: l, h => by
    rw [List.cons_append]
    rw [posOf] at *
    split at h
    · rename_i e; rw [if_pos e]; exact h
    · rename_i e
      rw [if_neg e]
      rw [Option.map_eq_some_iff] at *
      obtain ⟨m, h1, h2⟩ := h
      exact ⟨m, posOf_app h1, h2⟩
theorem posOf_at {u n : Nat} : ∀ {l : List Nat}, posOf u l = some n → l[n]? = some u
  | [], h => by simp [posOf] at h
  | x :: l, h => by
    rw [posOf] at h
    split at h
    · rename_i e; cases h; rw [e]; rfl
    · rw [Option.map_eq_some_iff] at h
      obtain ⟨m, h1, rfl⟩ := h
      have := posOf_at h1
      simpa using this
theorem nodup_at {l : List Nat} (hl : l.Nodup) {i j u : Nat} (h1 : l[i]? = some u) (h2 : l[j]? = some u) : i = j := by
  obtain ⟨a1, b1⟩ := List.getElem?_eq_some_iff.1 h1
  obtain ⟨a2, b2⟩ := List.getElem?_eq_some_iff.1 h2
  rcases Nat.lt_trichotomy i j with q | q | q
  · exact absurd (b1.trans b2.symm) (List.pairwise_iff_getElem.1 hl i j a1 a2 q)
  · exact q
  · exact absurd (b2.trans b1.symm) (List.pairwise_iff_getElem.1 hl j i a2 a1 q)
theorem posOf_of {l : List Nat} (hl : l.Nodup) {n u : Nat} (h : l[n]? = some u) : posOf u l = some n := by
  cases hp : posOf u l with
  | none => exact absurd (List.mem_of_getElem? h) (posOf_none.1 hp)
  | some m => rw [nodup_at hl h (posOf_at hp)]
/-- the number of what a place leads to -/
def posI (nx : Nat → Nat → Option Nat) (m : List Nat) (v p : Nat) : Int := match nx v p with
  | none => -1
  | some u => match posOf u m with
    | some n => (n : Int)
    | none => -1
theorem posI_none {nx : Nat → Nat → Option Nat} {v p : Nat} (h : nx v p = none) (m : List Nat) : posI nx m v p = -1 := by unfold posI; rw [h]
theorem posI_some {nx : Nat → Nat → Option Nat} {v p u n : Nat} {m : List Nat} (h : nx v p = some u) (h2 : posOf u m = some n) : posI nx m v p = (n : Int) := by unfold posI; rw [h]; simp only; rw [h2]
section
variable {nx : Nat → Nat → Option Nat} {R : Nat → Prop}
theorem rowN_all (v : Nat) (hv : R v) : ∀ (ps : List Nat) (_ : ∀ p u, p ∈ ps → nx v p = some u → R u) (l : List Nat) (r : List Int), l.Nodup → (∀ x ∈ l, R x) →
    ∃ t, (rowN nx v ps l r).1 = l ++ t ∧ (l ++ t).Nodup ∧ (∀ x ∈ l ++ t, R x) ∧ (∀ p ∈ ps, ∀ u, nx v p = some u → u ∈ l ++ t) ∧ (∀ x ∈ t, ∃ p ∈ ps, nx v p = some x) ∧ ∀ s, (rowN nx v ps l r).2 = r ++ ps.map (posI nx (l ++ t ++ s) v)
  | [], _, l, r, h1, h2 => ⟨[], by simp [rowN], by simpa using h1, by simpa using h2, fun p hp => by (simp at hp), fun x hx => by (simp at hx), fun s => by simp [rowN]⟩
  | p :: ps, hR, l, r, h1, h2 => by
    have hR2 : ∀ q u, q ∈ ps → nx v q = some u → R u := fun q u hq => hR q u (by simp [hq])
    cases hp : nx v p with
    | none =>
      have e : rowN nx v (p :: ps) l r = rowN nx v ps l (r ++ [-1]) := by rw [rowN, hp]
      obtain ⟨t, a1, a2, a3, a4, a6, a5⟩ := rowN_all v hv ps hR2 l (r ++ [-1]) h1 h2
      refine ⟨t, by rw [e]; exact a1, a2, a3, fun q hq u hu => ?_, fun x hx => let ⟨q, h1, h2⟩ := a6 x hx; ⟨q, List.mem_cons_of_mem _ h1, h2⟩, fun s => ?_⟩
      · rcases List.mem_cons.1 hq with rfl | hq
        · rw [hp] at hu; cases hu
        · exact a4 q hq u hu
      · rw [e, a5 s, List.map_cons, posI_none hp]; simp
    | some u =>
      cases hq : posOf u l with
      | some n =>
        have e : rowN nx v (p :: ps) l r = rowN nx v ps l (r ++ [(n : Int)]) := by rw [rowN, hp]; simp only; rw [hq]
        obtain ⟨t, a1, a2, a3, a4, a6, a5⟩ := rowN_all v hv ps hR2 l (r ++ [(n : Int)]) h1 h2
        refine ⟨t, by rw [e]; exact a1, a2, a3, fun q hq2 x hx => ?_, fun x hx => let ⟨q, h1, h2⟩ := a6 x hx; ⟨q, List.mem_cons_of_mem _ h1, h2⟩, fun s => ?_⟩
        · rcases List.mem_cons.1 hq2 with rfl | hq2
          · rw [hp] at hx
            rw [← Option.some.inj hx]
            exact List.mem_append_left _ (List.mem_of_getElem? (posOf_at hq))
          · exact a4 q hq2 x hx
        · rw [e, a5 s, List.map_cons, posI_some hp (posOf_app (posOf_app hq))]; simp
      | none =>
        have e : rowN nx v (p :: ps) l r = rowN nx v ps (l ++ [u]) (r ++ [(l.length : Int)]) := by rw [rowN, hp]; simp only; rw [hq]
        have hul : u ∉ l := posOf_none.1 hq
        have hn : (l ++ [u]).Nodup := by
          rw [List.nodup_append]
          exact ⟨h1, by simp, fun a ha b hb => by rw [List.mem_singleton.1 hb]; exact fun e => hul (e ▸ ha)⟩
        have hm : ∀ x ∈ l ++ [u], R x := fun x hx => by
          rcases List.mem_append.1 hx with hx | hx
          · exact h2 x hx
          · rw [List.mem_singleton.1 hx]; exact hR p u (by simp) hp
        obtain ⟨t, a1, a2, a3, a4, a6, a5⟩ := rowN_all v hv ps hR2 (l ++ [u]) (r ++ [(l.length : Int)]) hn hm
        have hpos : posOf u (l ++ [u]) = some l.length := by rw [posOf_snoc u hul, if_pos rfl]
        refine ⟨[u] ++ t, by rw [e, a1, List.append_assoc], by rw [← List.append_assoc]; exact a2, by rw [← List.append_assoc]; exact a3, fun q hq2 x hx => ?_, fun x hx => ?_, fun s => ?_⟩
        · rw [← List.append_assoc]
          rcases List.mem_cons.1 hq2 with rfl | hq2
          · rw [hp] at hx
            rw [← Option.some.inj hx]
            simp
          · exact a4 q hq2 x hx
        · rcases List.mem_append.1 hx with hx | hx
          · rw [List.mem_singleton.1 hx]; exact ⟨p, by simp, hp⟩
          · obtain ⟨q, h1, h2⟩ := a6 x hx
            exact ⟨q, List.mem_cons_of_mem _ h1, h2⟩
        · rw [e, ← List.append_assoc, a5 s, List.map_cons, posI_some hp (posOf_app (posOf_app hpos))]; simp
theorem numN_all {ps : List Nat} {N : Nat} (hR : ∀ v p u, R v → p ∈ ps → nx v p = some u → R u) (hN : ∀ v, R v → v < N) : ∀ (f i : Nat) (l : List Nat) (g : List (List Int)), N ≤ i + f → l.Nodup → (∀ x ∈ l, R x) → g.length = i → i ≤ l.length →
    ∃ t, (l ++ t).Nodup ∧ (∀ x ∈ l ++ t, R x) ∧ (numN nx ps f i l g).length = (l ++ t).length ∧ (∀ j, j < i → (numN nx ps f i l g)[j]? = g[j]?) ∧ (∀ j v, i ≤ j → (l ++ t)[j]? = some v → (numN nx ps f i l g)[j]? = some (ps.map (posI nx (l ++ t) v)) ∧ ∀ p ∈ ps, ∀ u, nx v p = some u → u ∈ l ++ t) ∧
      ∀ j x, l.length ≤ j → (l ++ t)[j]? = some x → ∃ u y q, u < j ∧ (l ++ t)[u]? = some y ∧ q ∈ ps ∧ nx y q = some x
  | 0, i, l, g, hf, h1, h2, h3, h4 => by
    have h5 := nodup_len h1 (fun x hx => hN x (h2 x hx))
    have h6 : l.length = i := by omega
    refine ⟨[], by simpa using h1, by simpa using h2, by simp [numN, h3, h6], fun j _ => by simp [numN], fun j v hj hv => ?_, fun j x hj hx => ?_⟩
    · have := (List.getElem?_eq_some_iff.1 hv).1
      simp at this; omega
    · have := (List.getElem?_eq_some_iff.1 hx).1
      simp at this; omega
  | f + 1, i, l, g, hf, h1, h2, h3, h4 => by
    cases hi : l[i]? with
    | none =>
      have h6 : l.length = i := by have := List.getElem?_eq_none_iff.1 hi; omega
      have e : numN nx ps (f + 1) i l g = g := numN_end hi
      refine ⟨[], by simpa using h1, by simpa using h2, by rw [e, h3]; simp [h6], fun j _ => by rw [e], fun j v hj hv => ?_, fun j x hj hx => ?_⟩
      · have := (List.getElem?_eq_some_iff.1 hv).1
        simp at this; omega
      · have := (List.getElem?_eq_some_iff.1 hx).1
        simp at this; omega
    | some v =>
      have hil := (List.getElem?_eq_some_iff.1 hi).1
      have hRv := h2 v (List.mem_of_getElem? hi)
      obtain ⟨t, a1, a2, a3, a4, a6, a5⟩ := rowN_all v hRv ps (fun p u hp hu => hR v p u hRv hp hu) l [] h1 h2
      have e : numN nx ps (f + 1) i l g = numN nx ps f (i + 1) (l ++ t) (g ++ [(rowN nx v ps l []).2]) := by rw [numN, hi]; simp only; rw [a1]
      obtain ⟨s, b1, b2, b3, b4, b5, b6⟩ := numN_all hR hN f (i + 1) (l ++ t) (g ++ [(rowN nx v ps l []).2]) (by omega) a2 a3 (by simp [h3]) (by simp; omega)
      rw [← e] at b3 b4 b5
      refine ⟨t ++ s, by rw [← List.append_assoc]; exact b1, by rw [← List.append_assoc]; exact b2, by rw [← List.append_assoc]; exact b3, fun j hj => ?_, fun j x hj hx => ?_, fun j x hj hx => ?_⟩
      · rw [b4 j (by omega), List.getElem?_append_left (by omega)]
      · rw [← List.append_assoc] at hx ⊢
        rcases Nat.lt_or_ge i j with q | q
        · exact b5 j x q hx
        · obtain rfl : j = i := by omega
          have hx2 : x = v := by
            rw [List.append_assoc, List.getElem?_append_left hil, hi] at hx
            exact (Option.some.inj hx).symm
          subst hx2
          refine ⟨?_, fun p hp u hu => List.mem_append_left _ (a4 p hp u hu)⟩
          rw [b4 j (by omega), List.getElem?_append_right (by omega), h3, Nat.sub_self]
          simp [a5 s]
      · rw [← List.append_assoc] at hx ⊢
        rcases Nat.lt_or_ge j (l ++ t).length with q | q
        · rw [List.getElem?_append_left q, List.getElem?_append_right hj] at hx
          obtain ⟨p, hp, hpx⟩ := a6 x (List.mem_of_getElem? hx)
          refine ⟨i, v, p, by omega, ?_, hp, hpx⟩
          rw [List.append_assoc, List.getElem?_append_left hil]; exact hi
        · exact b6 j x q hx
end

/-! ### graphs as rows -/
def atG (g : List (List Int)) (v p : Nat) : Option Int := (g[v]?).bind (·[p]?)
def natI (x : Int) : Option Nat := if 0 ≤ x then some x.toNat else none
/-- where a place leads -/
def nxT (g : List (List Int)) (v p : Nat) : Option Nat := (atG g v p).bind natI
/-- how many edges a row has -/
def degI (r : List Int) : Nat := (r.filter fun x => decide (0 ≤ x)).length
/-- a graph that is folded, without loose ends, and numbered -/
structure GoodG (k : Nat) (g : List (List Int)) : Prop where
  k1 : 1 ≤ k
  k4 : k ≤ 4
  n1 : 1 ≤ g.length
  n5 : g.length ≤ 5000
  row : ∀ r ∈ g, r.length = 2 * k ∧ ∀ x ∈ r, -1 ≤ x ∧ x < g.length
  deg : ∀ v r, g[v]? = some r → v ≠ 0 → 2 ≤ degI r
  sym : FoldP k (nxT g)
  num : numN (nxT g) (List.range (2 * k)) 5000 0 [0] [] = g
theorem deg_two {r : List Int} {p q : Nat} {a b : Int} (hpq : p < q) (h1 : r[p]? = some a) (h2 : r[q]? = some b) (ha : 0 ≤ a) (hb : 0 ≤ b) : 2 ≤ degI r := by
  obtain ⟨hq, rfl⟩ := List.getElem?_eq_some_iff.1 h2
  unfold degI
  rw [← List.take_append_drop q r, List.filter_append, List.length_append, List.drop_eq_getElem_cons hq, List.filter_cons_of_pos (by simpa using hb), List.length_cons]
  have : a ∈ (r.take q).filter fun x => decide (0 ≤ x) := by
    rw [List.mem_filter]
    refine ⟨?_, by simpa using ha⟩
    exact List.mem_of_getElem? (i := p) (by rw [List.getElem?_take, if_pos hpq]; exact h1)
  have := List.length_pos_of_mem this
  omega
theorem deg_ne {r : List Int} {p q : Nat} {a b : Int} (hpq : p ≠ q) (h1 : r[p]? = some a) (h2 : r[q]? = some b) (ha : 0 ≤ a) (hb : 0 ≤ b) : 2 ≤ degI r := by
  rcases Nat.lt_or_gt_of_ne hpq with h | h
  · exact deg_two h h1 h2 ha hb
  · exact deg_two h h2 h1 hb ha
/-- each vertex that is met has two ways out -/
theorem core_twos {k : Nat} (hk : k ≤ 26) {nx : Nat → Nat → Option Nat} {o : Nat} (hf : FoldP k nx) (hc : Coree (stepL k nx) o) {x : Nat} {w : List UInt8} (hw : Rd w) (hx : runS (stepL k nx) o w = some x) (hxo : x ≠ o) : ∃ p q u y, p ≠ q ∧ p < 2 * k ∧ q < 2 * k ∧ nx x p = some u ∧ nx x q = some y := by
  obtain ⟨e, h1, h2⟩ := hc w x hw hx
  rcases List.eq_nil_or_concat w with rfl | ⟨w2, c, rfl⟩
  · exact absurd (Option.some.inj hx).symm hxo
  rw [List.concat_eq_append] at *
  obtain ⟨y, h3, h4⟩ := run_split h2
  rw [hx] at h3
  obtain rfl := Option.some.inj h3
  cases e with
  | nil => exact absurd (Option.some.inj h4) hxo
  | cons d e =>
    have hcd : c ≠ invB d := by
      rw [List.append_assoc] at h1
      exact Rd.ne (l := e) (Rd.app_right (k := w2) h1)
    obtain ⟨z, h5, h6⟩ := run_split hx
    rw [run_one] at h6
    have h7 := hf.foldd hk _ _ _ h6
    obtain ⟨u, h8, _⟩ : ∃ u, stepL k nx x d = some u ∧ runS (stepL k nx) u e = some o := by
      have : (stepL k nx x d).bind (fun u => runS (stepL k nx) u e) = some o := h4
      cases hs : stepL k nx x d with
      | none => rw [hs] at this; cases this
      | some u => rw [hs] at this; exact ⟨u, rfl, this⟩
    obtain ⟨l1, l2, l3⟩ := stepL_some h7
    obtain ⟨m1, m2, m3⟩ := stepL_some h8
    refine ⟨placeB (invB c), placeB d, z, u, fun e => hcd ?_, l2, m2, l3, m3⟩
    have e1 := (let_place _ l1).1
    rw [e, (let_place _ m1).1] at e1
    rw [e1, inv_inv]
theorem num_good {k : Nat} (hk1 : 1 ≤ k) (hk4 : k ≤ 4) {nx : Nat → Nat → Option Nat} {o : Nat} (hf : FoldP k nx) (hc : Coree (stepL k nx) o) (ho : o < 5000) (hN : ∀ v p u, nx v p = some u → u < 5000) : GoodG k (numN nx (List.range (2 * k)) 5000 0 [o] []) := by
  have hk : k ≤ 26 := by omega
  obtain ⟨t, a1, a2, a3, -, a5, -⟩ := numN_all (nx := nx) (R := fun x => x < 5000 ∧ ∃ w, Rd w ∧ runS (stepL k nx) o w = some x) (ps := List.range (2 * k)) (N := 5000) (fun v p u hv hp hu => by
      obtain ⟨_, w, _, h2⟩ := hv
      rw [List.mem_range] at hp
      refine ⟨hN _ _ _ hu, redW (w ++ [letP p]), redW_rd _, run_red (hf.foldd hk) (run_app_some h2 ?_)⟩
      rw [run_one, stepL_place hk nx v hp, hu]) (fun v h => h.1) 5000 0 [o] [] (by omega) (by simp) (fun x hx => by rw [List.mem_singleton.1 hx]; exact ⟨ho, [], .nil, rfl⟩) rfl (by simp)
  obtain ⟨g, hg⟩ : ∃ g, numN nx (List.range (2 * k)) 5000 0 [o] [] = g := ⟨_, rfl⟩
  obtain ⟨m, hm⟩ : ∃ m, [o] ++ t = m := ⟨_, rfl⟩
  rw [hm] at a1 a2 a3 a5
  rw [hg] at a3 a5 ⊢
  have hm0 : m[0]? = some o := by rw [← hm]; rfl
  have hml : m.length ≤ 5000 := nodup_len a1 (fun x hx => (a2 x hx).1)
  have hrow : ∀ j v p, m[j]? = some v → p < 2 * k → atG g j p = some (posI nx m v p) := fun j v p hj hp => by
    unfold atG
    rw [(a5 j v (Nat.zero_le _) hj).1]
    simp [List.getElem?_range hp]
  have hnx : ∀ j v p, m[j]? = some v → p < 2 * k → (nx v p = none ∧ nxT g j p = none) ∨ ∃ u n, nx v p = some u ∧ nxT g j p = some n ∧ m[n]? = some u := fun j v p hj hp => by
    unfold nxT
    rw [hrow j v p hj hp]
    cases hv : nx v p with
    | none => left; rw [posI_none hv]; exact ⟨rfl, rfl⟩
    | some u =>
      right
      have hu := (a5 j v (Nat.zero_le _) hj).2 p (List.mem_range.2 hp) u hv
      cases hq : posOf u m with
      | none => exact absurd hu (posOf_none.1 hq)
      | some n =>
        rw [posI_some hv hq]
        refine ⟨u, n, rfl, ?_, posOf_at hq⟩
        show natI (n : Int) = some n
        unfold natI
        rw [if_pos (by omega)]; simp
  have hat : ∀ j p x, atG g j p = some x → ∃ v, m[j]? = some v ∧ p < 2 * k := fun j p x h => by
    unfold atG at h
    cases hj : g[j]? with
    | none => rw [hj] at h; cases h
    | some r =>
      have hjl := (List.getElem?_eq_some_iff.1 hj).1
      rw [a3] at hjl
      have hv : m[j]? = some m[j] := List.getElem?_eq_getElem hjl
      rw [(a5 j _ (Nat.zero_le _) hv).1] at hj
      rw [(a5 j _ (Nat.zero_le _) hv).1] at h
      have := (List.getElem?_eq_some_iff.1 h).1
      simp at this
      exact ⟨_, hv, this⟩
  have hnp : ∀ j p n, nxT g j p = some n → ∃ v, m[j]? = some v ∧ p < 2 * k := fun j p n h => by
    unfold nxT at h
    cases hx : atG g j p with
    | none => rw [hx] at h; cases h
    | some x => exact hat j p x hx
  have hpos : ∀ v p, -1 ≤ posI nx m v p ∧ posI nx m v p < (g.length : Int) := fun v p => by
    rw [a3]
    unfold posI
    have : 1 ≤ m.length := by rw [← hm]; simp
    split
    · omega
    · split
      · rename_i h; have := posOf_lt h; omega
      · omega
  have hg1 : ∀ r ∈ g, ∃ v, r = (List.range (2 * k)).map (posI nx m v) := fun r hr => by
    obtain ⟨j, hj⟩ := List.mem_iff_getElem?.1 hr
    have hjl := (List.getElem?_eq_some_iff.1 hj).1
    rw [a3] at hjl
    rw [(a5 j _ (Nat.zero_le _) (List.getElem?_eq_getElem hjl)).1] at hj
    exact ⟨_, (Option.some.inj hj).symm⟩
  refine ⟨hk1, hk4, by rw [a3, ← hm]; simp, by omega, fun r hr => ?_, fun v r hr hv => ?_, ?_, ?_⟩
  · obtain ⟨v, rfl⟩ := hg1 r hr
    refine ⟨by simp, fun x hx => ?_⟩
    obtain ⟨p, _, rfl⟩ := List.mem_map.1 hx
    exact hpos v p
  · have hvl := (List.getElem?_eq_some_iff.1 hr).1
    rw [a3] at hvl
    have hmv : m[v]? = some m[v] := List.getElem?_eq_getElem hvl
    obtain ⟨_, w, hw, hwx⟩ := a2 _ (List.getElem_mem hvl)
    have hxo : m[v] ≠ o := fun e => hv (nodup_at a1 (by rw [hmv, e]) hm0)
    obtain ⟨p, q, u, y, hpq, hp, hq, hu, hy⟩ := core_twos hk hf hc hw hwx hxo
    have e1 := hrow v _ p hmv hp
    have e2 := hrow v _ q hmv hq
    unfold atG at e1 e2
    rw [hr] at e1 e2
    have c1 : 0 ≤ posI nx m m[v] p := by
      rcases hnx v _ p hmv hp with ⟨h, _⟩ | ⟨u2, n, h1, _, h3⟩
      · rw [h] at hu; cases hu
      · rw [posI_some h1 (posOf_of a1 h3)]; omega
    have c2 : 0 ≤ posI nx m m[v] q := by
      rcases hnx v _ q hmv hq with ⟨h, _⟩ | ⟨u2, n, h1, _, h3⟩
      · rw [h] at hy; cases hy
      · rw [posI_some h1 (posOf_of a1 h3)]; omega
    exact deg_ne hpq e1 e2 c1 c2
  · intro v p u hp hu
    obtain ⟨x, hx, _⟩ := hnp v p u hu
    rcases hnx v x p hx hp with ⟨_, h⟩ | ⟨y, n, h1, h2, h3⟩
    · rw [h] at hu; cases hu
    · rw [h2] at hu
      obtain rfl := Option.some.inj hu
      have h4 := hf x p y hp h1
      have hp2 := xor_one_lt k p hk hp
      rcases hnx n y (p ^^^ 1) h3 hp2 with ⟨h, _⟩ | ⟨z, n2, h5, h6, h7⟩
      · rw [h4] at h; cases h
      · rw [h4] at h5
        obtain rfl := Option.some.inj h5
        rw [h6, nodup_at a1 h7 hx]
  · rw [← hg]
    rw [hg]
    refine Eq.trans ?_ hg
    refine (numN_alike (ρ := fun v w => m[w]? = some v) (fun v w w2 h1 h2 => nodup_at a1 h1 h2) (fun v v2 w h1 h2 => Option.some.inj (h1.symm.trans h2)) (fun v w p hv hp => ?_) 5000 0 (l := [o]) (m := [0]) [] ⟨hm0, trivial⟩).symm
    rw [List.mem_range] at hp
    rcases hnx w v p hv hp with h | ⟨u, n, h1, h2, h3⟩
    · exact .inl h
    · exact .inr ⟨u, n, h1, h2, h3⟩
end Go.Proofs.Ytlooclpfoeakgaa

/- The letter of a place: the walk. -/
namespace Go.Proofs.Ytlooclpfoeakgaa
open Go.RowKit

set_option maxRecDepth 100000 in
set_option maxHeartbeats 1000000 in
theorem letter_any (w : World) (p : Nat) (hp : p < 8) : Calls Try.prog 84 #[.int .i64 p] w fun e w' => e = .returned (.string (strB [letP p])) ∧ w' = w := by
  obtain ⟨s, hs⟩ : ∃ s, strB [letP p] = s := ⟨_, rfl⟩
  rw [hs]
  have h8 : p = 0 ∨ p = 1 ∨ p = 2 ∨ p = 3 ∨ p = 4 ∨ p = 5 ∨ p = 6 ∨ p = 7 := by omega
  clear hp
  rcases h8 with rfl | rfl | rfl | rfl | rfl | rfl | rfl | rfl
  all_goals
    have HS := Lib.hid hs
    clear hs
    go_enter Try.func84, Try.ntmps84
    go_wp2_with fail
    go_ret
    exact ⟨by rw [← HS.out]; rfl, rfl⟩
end Go.Proofs.Ytlooclpfoeakgaa

/- Maps whose keys are two integers: the walks' equations. -/
namespace Go.Proofs.Ytlooclpfoeakgaa
open Go.RowKit

theorem keyed120 : Maps.Keyed Try.prog 120 := Maps.Keyed.of_law (deep_law_laid (by kernel_rfl) (m := 5) (by decide) (by decide +kernel) (by kernel_rfl) (by kernel_rfl))
def keyQ (a b : Nat) : Lit := .string (keyBytes [.int .i64 (a : Int), .int .i64 (b : Int)])
theorem lits_int {d : Nat} {x : Int} (h : (Lit.int .i64 x).wf = true) : Try.prog.keyLits (d + 1) 3 [.int .i64 x] = some [.int .i64 x] := by
  unfold Program.keyLits
  rw [Try.underlying3]
  simp [h]
theorem key_pair {a b : Nat} (ha : a ≤ 1000000000) (hb : b ≤ 1000000000) : keyOf Try.prog 120 (.agg #[.int .i64 (a : Int), .int .i64 (b : Int)]) = some (keyQ a b) := by
  have h1 : (Lit.int .i64 (a : Int)).wf = true := wf_nat ha
  have h2 : (Lit.int .i64 (b : Int)).wf = true := wf_nat hb
  have hk : Try.prog.keyType 120 = true := by kernel_rfl
  have hc : Try.prog.cellsOf 120 = 2 := by kernel_rfl
  have hc3 : Try.prog.cellsOf 3 = 1 := by kernel_rfl
  have hs : ∃ d, Try.prog.types.size = d + 1 := ⟨Try.prog.types.size - 1, by have : 0 < Try.prog.types.size := (by decide +kernel); omega⟩
  obtain ⟨d, hs⟩ := hs
  unfold keyOf
  rw [Try.underlying120]
  have hf : Value.formed Try.prog 120 (.agg #[.int .i64 (a : Int), .int .i64 (b : Int)]) = true := by
    unfold Value.formed
    rw [Try.underlying120, hc]; rfl
  simp only
  rw [hk, hf, hs]
  have hl : Try.prog.keyLits (d + 1 + 1) 120 [.int .i64 (a : Int), .int .i64 (b : Int)] = some [.int .i64 (a : Int), .int .i64 (b : Int)] := by
    unfold Program.keyLits
    rw [Try.underlying120]
    simp [hc, List.mapM_cons, hc3, lits_int h1, lits_int h2]
  have hv : (Value.agg #[.int .i64 (a : Int), .int .i64 (b : Int)]).cells.toList = [.int .i64 (a : Int), .int .i64 (b : Int)] := rfl
  rw [hv, hl]
  rfl
theorem keyQ_ne {a b c d : Nat} (ha : a ≤ 1000000000) (hb : b ≤ 1000000000) (hc : c ≤ 1000000000) (hd : d ≤ 1000000000) (h : (a, b) ≠ (c, d)) : keyQ a b ≠ keyQ c d := by
  intro e
  have h1 := key_pair ha hb
  have h2 := key_pair hc hd
  rw [e] at h1
  have := keyed120.inj h1 h2
  simp at this
  exact h (by rw [Prod.mk.injEq]; omega)
theorem isKeyQ {a b : Nat} (ha : a ≤ 1000000000) (hb : b ≤ 1000000000) : WideAt.IsKeyLit (keyQ a b) := keyed120.key (key_pair ha hb)
/-- the block is a map of pairs to integers -/
def MapQ (w : World) (b n : Nat) (f : Nat → Nat → Option Int) : Prop :=
  ∃ D : DataW Unit, w.ownsMap Try.prog 120 (plainElem Try.prog 3) b n D ∧ ∀ x y : Nat, x ≤ 1000000000 → y ≤ 1000000000 → Maps.has D (keyQ x y) = (f x y).isSome ∧ ∀ v, f x y = some v → ∀ z, D.atKey (keyQ x y) z = .lit (.int .i64 v)
theorem own_congrQ {w w2 : World} {k : TypeId} {R : Value → Option (DataW Unit × List MemPlace)} {b n : Nat} {D : DataW Unit} (h : w.ownsMap Try.prog k R b n D) (e : w2.heap[b]? = w.heap[b]?) : w2.ownsMap Try.prog k R b n D := own_congr h e
section
variable {w w2 : World} {b n : Nat} {f : Nat → Nat → Option Int}
theorem MapQ.congr (h : MapQ w b n f) (e : w2.heap[b]? = w.heap[b]?) : MapQ w2 b n f := let ⟨D, h1, h2⟩ := h; ⟨D, own_congr h1 e, h2⟩
theorem MapQ.lt (h : MapQ w b n f) : b < w.heap.size := let ⟨_, h1, _⟩ := h; h1.lt
theorem MapQ.keep (h : MapQ w b n f) (hb : Below w.heap.size w w2) : MapQ w2 b n f := h.congr (hb.block b h.lt)
theorem MapQ.new (w : World) : MapQ (w.alloc (.map #[] 0)) w.heap.size 0 (fun _ _ => none) := ⟨_, World.ownsMap_made _ _ _ _, fun _ _ _ _ => ⟨rfl, fun v h => by cases h⟩⟩
/-- m[k] -/
theorem MapQ.look (h : MapQ w b n f) {x y : Nat} (hx : x ≤ 1000000000) (hy : y ≤ 1000000000) : (Instr.lookup 107 (.map (some b)) (.agg #[.int .i64 (x : Int), .int .i64 (y : Int)]) false).run Try.prog w = .ok (.int .i64 ((f x y).getD 0)) w := by
  obtain ⟨D, h1, h2⟩ := h
  obtain ⟨c, hrun, hat, -⟩ := h1.lookup_int keyed120 Try.underlying107 Try.underlying3 (zero3 w) (key_pair hx hy)
  rw [hrun]
  obtain ⟨h3, h4⟩ := h2 x y hx hy
  cases hf : f x y with
  | some v => rw [h4 v hf] at hat; simp at hat; rw [hat]; rfl
  | none =>
    rw [hf] at h3
    rw [Maps.atKey_of_not_has h3] at hat
    simp at hat; rw [← hat]; rfl
/-- m[k] = v -/
theorem MapQ.update (h : MapQ w b n f) (hn : n < 1000000000) {x y : Nat} (hx : x ≤ 1000000000) (hy : y ≤ 1000000000) {v : Int} (hv : (Lit.int .i64 v).wf = true) :
    ∃ w', (Instr.mapUpdate 107 (.map (some b)) (.agg #[.int .i64 (x : Int), .int .i64 (y : Int)]) (.int .i64 v)).run Try.prog w = .ok () w' ∧ MapQ w' b (n + 1) (fun p q => if (p, q) = (x, y) then some v else f p q) ∧ w.grownBy w' (some b) := by
  obtain ⟨D, h1, h2⟩ := h
  obtain ⟨w', hrun, h3, h4⟩ := h1.update keyed120 Try.underlying107 (by unfold maxLen; omega) (key_pair hx hy) (plainElem_int Try.underlying3 hv)
  refine ⟨w', hrun, ⟨_, h3, fun p q hp hq => ?_⟩, h4⟩
  dsimp only
  by_cases e : (p, q) = (x, y)
  · rw [if_pos e]
    obtain ⟨rfl, rfl⟩ : p = x ∧ q = y := by simpa using e
    exact ⟨Maps.has_put_same h1.isMap (isKeyQ hp hq) _, fun u hu z => by rw [Maps.atKey_put_same h1.isMap (isKeyQ hp hq)]; cases hu; rfl⟩
  · rw [if_neg e, Maps.has_put_other (keyQ_ne hp hq hx hy e)]
    exact ⟨(h2 p q hp hq).1, fun u hu z => by rw [Maps.atKey_put_other (keyQ_ne hp hq hx hy e)]; exact (h2 p q hp hq).2 u hu z⟩
end
end Go.Proofs.Ytlooclpfoeakgaa

/- A graph numbered anew from 0 on: the walk. -/
namespace Go.Proofs.Ytlooclpfoeakgaa
open Go.RowKit

theorem RowsAt.toR {w : World} {B : Nat} {rv : Value} {g : List (List Int)} {q : Nat → Prop} (h : RowsAt w B rv g q) : RowsR w rv g := by
  obtain ⟨a, c, rfl, h1, h2⟩ := row_shapeV h.choose_spec.1
  refine ⟨a, c, rfl, h1, h2, fun h0 => ?_⟩
  obtain ⟨b, c2, e2, -, -, -, -⟩ := row_open h.choose_spec.1 h0
  obtain ⟨rfl, rfl⟩ : a = some ⟨b, 0, none⟩ ∧ c = c2 := by simpa using e2
  refine ⟨b, rfl, fun i r hi => ?_⟩
  obtain ⟨ra, rc, h3, h4, h5, h6⟩ := h.at_ rfl (Below.refl _ _) hi
  exact ⟨_, h3, ra, rc, rfl, h4, h5, h6⟩
theorem nxT_opt {g : List (List Int)} {v p : Nat} {x : Int} (h : atG g v p = some x) (hx : -1 ≤ x) : optI (nxT g v p) = x := by
  unfold nxT
  rw [h]
  show optI (natI x) = x
  unfold natI
  split
  · show ((x.toNat : Nat) : Int) = x; omega
  · show -1 = x; omega
theorem nxT_row {g : List (List Int)} {v p u : Nat} (h : nxT g v p = some u) : ∃ r, g[v]? = some r ∧ r[p]? = some (u : Int) := by
  unfold nxT atG at h
  cases hr : g[v]? with
  | none => rw [hr] at h; cases h
  | some r =>
    rw [hr] at h
    change ((r[p]?).bind natI) = some u at h
    cases hx : r[p]? with
    | none => rw [hx] at h; cases h
    | some x =>
      rw [hx] at h
      change natI x = some u at h
      unfold natI at h
      split at h
      · refine ⟨r, rfl, ?_⟩
        rw [hx]
        congr 1
        have := Option.some.inj h
        omega
      · cases h
theorem nxT_of {g : List (List Int)} {v p u : Nat} {r : List Int} (h : g[v]? = some r) (h2 : r[p]? = some (u : Int)) : nxT g v p = some u := by
  unfold nxT atG
  rw [h]
  show (r[p]?).bind natI = some u
  rw [h2]
  show natI (u : Int) = some u
  unfold natI
  rw [if_pos (by omega)]; simp
theorem nxT_lt {g : List (List Int)} {n : Nat} (hr : ∀ r ∈ g, ∀ x ∈ r, x < (n : Int)) {v p u : Nat} (h : nxT g v p = some u) : u < n := by
  obtain ⟨r, h1, h2⟩ := nxT_row h
  have := hr r (List.mem_of_getElem? h1) _ (List.mem_of_getElem? h2)
  omega

set_option maxRecDepth 100000 in
theorem from1_any (w : World) (b k : Nat) (rv : Value) (g : List (List Int)) (hb : Blk w b 25 [.int .i64 k, rv]) (h : RowsR w rv g) (hr : ∀ r ∈ g, r.length = 2 * k ∧ ∀ x ∈ r, -1 ≤ x) (v p : Nat) (hv : v < g.length) (hp : p < 2 * k) :
    Calls Try.prog 120 #[.int .i64 v, .int .i64 p, .pointer (some ⟨b, 0, none⟩)] w fun e w' => e = .returned (.int .i64 (optI (nxT g v p))) ∧ Below w.heap.size w w' := by
  obtain ⟨n, hn⟩ : ∃ n, g.length = n := ⟨_, rfl⟩
  obtain ⟨a1, c1, rfl, p1, p2⟩ := h.shape hn
  obtain ⟨r, hr1⟩ : ∃ r, g[v]? = some r := ⟨_, List.getElem?_eq_getElem hv⟩
  obtain ⟨hl, hx1⟩ := hr r (List.mem_of_getElem? hr1)
  obtain ⟨x, hx⟩ : ∃ x, r[p]? = some x := ⟨_, List.getElem?_eq_getElem (by rw [hl]; exact hp)⟩
  obtain ⟨b1, v1, rfl, d1, e1⟩ := h.at_ (Below.refl _ _) hr1
  obtain ⟨a2, c2, rfl, q1, q2⟩ := e1.shape hl
  obtain ⟨b2, rfl, d2⟩ := e1.at_ (Below.refl _ _) hx
  have hres : optI (nxT g v p) = x := nxT_opt (by unfold atG; rw [hr1]; exact hx) (hx1 x (List.mem_of_getElem? hx))
  rw [hres]
  have cb := hb.cell (j := 1) rfl
  have i0 : (0 : Int) ≤ v := by omega
  have i1 : (v : Int) < n := by omega
  obtain ⟨K, hK⟩ : ∃ K, 2 * k = K := ⟨_, rfl⟩
  rw [hK] at d1 q1
  have j0 : (0 : Int) ≤ p := by omega
  have j1 : (p : Int) < K := by omega
  clear hb h hr hl hx1 hx hr1 hres hn e1 hK hp hv
  go_enter Try.func120, Try.ntmps120
  go_wp2_with fail
  go_ret
  exact ⟨rfl, Below.refl _ _⟩

theorem ret88 {w : World} {tmps : Array Value} {g : Nat} {M : List Value} (hM : M.length = 2) (hp : tmps.getD 4 undef = .pointer (some ⟨g, 0, none⟩)) (hb : Blk w g 25 M) : (results Try.f88 tmps).run Try.prog w = .ok (.agg M.toArray) w :=
  results_cell_row rfl tmps w g 25 _ (0, 0) _ hp hb Try.underlying25 rfl (by rw [Try.size25]; simp [hM])
set_option maxRecDepth 100000 in
set_option maxHeartbeats 1000000 in
theorem from_any (w : World) (k : Nat) (rv : Value) (g : List (List Int)) (h : RowsR w rv g) (hk1 : 1 ≤ k) (hk4 : k ≤ 4) (hn1 : 1 ≤ g.length) (hn5 : g.length ≤ 5000) (hr : ∀ r ∈ g, r.length = 2 * k ∧ ∀ x ∈ r, -1 ≤ x ∧ x < g.length) :
    Calls Try.prog 88 #[.agg #[.int .i64 k, rv], .int .i64 0] w fun e w' => ∃ rv2, e = .returned (.agg #[.int .i64 k, rv2]) ∧ RowsR w' rv2 (numN (nxT g) (List.range (2 * k)) 5000 0 [0] []) ∧ Below w.heap.size w w' := by
  obtain ⟨w2, hw2⟩ : ∃ w2, w2 = (w.alloc (.cells #[.int .i64 k, rv] 25)).alloc (.cells #[.int .i64 0, .slice none 0 0] 25) := ⟨_, rfl⟩
  have hs2 : w2.heap.size = w.heap.size + 1 + 1 := by rw [hw2]; simp
  have hb2 : Below w.heap.size w w2 := by rw [hw2]; exact ((Below.refl _ w).alloc (Nat.le_refl _) _).alloc (by simp) _
  have hx2 : Blk w2 w.heap.size 25 [.int .i64 k, rv] := by rw [hw2]; exact (Blk.new w 25 [.int .i64 k, rv]).alloc _
  have hz2 : Blk w2 (w.heap.size + 1) 25 zeroG := by
    rw [hw2]
    have := Blk.new (w.alloc (.cells #[.int .i64 k, rv] 25)) 25 zeroG
    rw [show (w.alloc (.cells #[.int .i64 k, rv] 25)).heap.size = w.heap.size + 1 by simp] at this
    exact this
  have hr2 := h.keep hb2
  have hnum := numbered_any w2 k 0 5000 120 #[.pointer (some ⟨w.heap.size, 0, none⟩)] (nxT g) (fun v => v < g.length) (fun w1 => Below w2.heap.size w2 w1) (fun _ _ => rfl) hk1 hk4 (by omega) (fun v hv => by omega) (by omega)
    (fun v p u _ h => nxT_lt (fun r hr1 x hx => ((hr r hr1).2 x hx).2) h) (Below.refl _ _) (fun w1 w3 h1 h3 => h1.trans h3) (fun w1 h1 h3 v p hv hp => (from1_any w1 w.heap.size k rv g (hx2.keep h1) (hr2.keep h1) (fun r hr1 => ⟨(hr r hr1).1, fun x hx => ((hr r hr1).2 x hx).1⟩) v p hv hp).mono fun e w4 ⟨h5, h6⟩ => ⟨h5, h1.trans (h6.mono h3), Fr.of_below h6⟩)
  have HNUM := Lib.hid hnum
  have HZ := Lib.hid hz2
  have HB := Lib.hid hb2
  have HS := Lib.hid hs2
  clear h hr hnum hz2 hb2 hx2 hr2 hs2
  go_enter Try.func88, Try.ntmps88
  go_wp2_with (first
    | (go_at_call 107; rw [← hw2]; refine HNUM.out.mono ?_; rintro e w6 ⟨rv2, rfl, hrows, hb6, -⟩; have HX6 := Lib.hid (HZ.out.keep hb6); have HRV := Lib.hid (rows_one hrows k); have HROWS := Lib.hid hrows; have HB6 := Lib.hid (HB.out.trans (hb6.mono (by rw [HS.out]; omega))); clear hrows hb6)
    | (with_reducible show wpList _ _ _ (Oper.mk _ (Op.store 25 _ _) _ _ _ _ :: _) _ _; (refine wpList_storeB (vs := [.int .i64 k, rv2]) HX6.out Try.size25 rfl rfl HRV.out rfl _ _ rfl rfl rfl ?_)))
  have hr1 := HX6.out.set 0 (.int .i64 k)
  have hrow := ((HROWS.out).other HX6.out (by decide) (by decide) 0 (.int .i64 k)).other hr1 (by decide) (by decide) 1 rv2
  exact bodyPost_ret (ret88 (M := [.int .i64 k, rv2]) rfl rfl (hr1.set 1 rv2)) rfl ⟨rv2, rfl, hrow.toR, below_setCells (Nat.le_succ _) [.int .i64 k, rv2] 0 HB6.out⟩
end Go.Proofs.Ytlooclpfoeakgaa
