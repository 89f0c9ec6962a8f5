/- strings.Builder's WriteString, at a builder of the call's own: the walk. -/
import Derived.Test.YtjdmmgaddbleeaaGreatME
import Derived.Lib.AppendStr
import Derived.Test.YtjdmmgaddbleeaaGreatMC
namespace Go.Proofs.YtjdmmgaddbleeaaGreat
open Go.RowKit

/-- what lies below B, but for block b, is as it was -/
structure Fr (b B : Nat) (w w' : World) : Prop where
  os : w'.os = w.os
  tape : w'.tape = w.tape
  output : w'.output = w.output
  size : w.heap.size ≤ w'.heap.size
  block : ∀ k, k < B → k ≠ b → w'.heap[k]? = w.heap[k]?
theorem Fr.refl (b B : Nat) (w : World) : Fr b B w w := ⟨rfl, rfl, rfl, Nat.le_refl _, fun _ _ _ => rfl⟩
theorem Fr.trans {b B : Nat} {x y z : World} (h : Fr b B x y) (k : Fr b B y z) : Fr b B x z :=
  ⟨k.os.trans h.os, k.tape.trans h.tape, k.output.trans h.output, Nat.le_trans h.size k.size, fun i h1 h2 => (k.block i h1 h2).trans (h.block i h1 h2)⟩
theorem Fr.of_below {b B : Nat} {w w' : World} (h : Below B w w') : Fr b B w w' := ⟨h.os, h.tape, h.output, h.size, fun k hk _ => h.block k hk⟩
theorem Fr.below {b B C : Nat} {w w' : World} (h : Fr b B w w') (hC : C ≤ B) (hb : C ≤ b) : Below C w w' := ⟨h.os, h.tape, h.output, h.size, fun k hk => h.block k (by omega) (by omega)⟩

/-- a builder at block b, its buffer v a row of its own, from B on -/
structure Bls (B : Nat) (w : World) (b : Nat) (p v : Value) (bs : List UInt8) : Prop where
  blk : Blk w b 73 [p, v]
  own : w.ownsRow B 5 1 v bs.length (B8s bs)
  ne : v.ownBlock ≠ some b
  used : p = .pointer none ∨ p = .pointer (some ⟨b, 0, none⟩)
theorem Bls.bld {B C : Nat} {w : World} {b : Nat} {p v : Value} {bs : List UInt8} (h : Bls B w b p v bs) (hC : C ≤ B) (hb : C ≤ b) : Bld C w b p v bs := by
  obtain ⟨h2, h3, h4, h5⟩ := h
  refine ⟨hb, h2, OwnB.mono (base := B) ?_ hC, h4, h5⟩
  rcases h3.2 with ⟨rfl, hz⟩ | ⟨g, cap, cur, rfl, hb, hg, hn, hm, hc, ht⟩
  · exact .inl ⟨rfl, List.eq_nil_of_length_eq_zero hz⟩
  · exact .inr ⟨g, cap, cur, rfl, hb, hg, hn, hm, by omega, by simpa using ht⟩
theorem Bls.keep {B : Nat} {w w' : World} {b : Nat} {p v : Value} {bs : List UInt8} (h : Bls B w b p v bs) (hb : Below w.heap.size w w') : Bls B w' b p v bs :=
  ⟨h.blk.keep hb, World.ownsRow.keep h.own hb, h.ne, h.used⟩
theorem strCells_bts (s : ByteArray) : Lib.strCells s = B8s (bts s) := rfl
theorem checkS_any (B b : Nat) (p v : Value) (bs : List UInt8) (w : World) (h : Bls B w b p v bs) :
    Calls Tryz.prog 61 #[.pointer (some ⟨b, 0, none⟩)] w fun e w' => e = .returned (.tuple #[]) ∧ Bls B w' b (.pointer (some ⟨b, 0, none⟩)) v bs ∧ w.heap.size ≤ w'.heap.size ∧ Fr b B w w' := by
  have h0 : w.cell? ⟨b, 0, none⟩ = some p := h.blk.cell rfl
  rcases h.used with rfl | rfl
  · refine (copyCheck_fresh b w h0 ?_ (h.blk.free 0)).mono ?_
    · have := h.blk; unfold Blk at this; simp [World.shape?, this]
    · rintro e w' ⟨rfl, rfl⟩
      have hne : v.ownBlock = none ∨ v.ownBlock ≠ some b := .inr h.ne
      exact ⟨rfl, ⟨h.blk.set 0 _, h.own.kept ⟨rfl, rfl, rfl, by simp, fun k _ hk => heap_setCell_other w ⟨b, 0, none⟩ k _ (fun e => hk (by rw [e]))⟩ hne, h.ne, .inr rfl⟩, by simp, ⟨rfl, rfl, rfl, by simp, fun k _ hk => heap_setCell_other w ⟨b, 0, none⟩ k _ hk⟩⟩
  · refine (copyCheck_used b w h0).mono ?_
    rintro e w' ⟨rfl, rfl⟩
    exact ⟨rfl, h, Nat.le_refl _, Fr.refl _ _ _⟩

set_option maxHeartbeats 2000000 in
set_option maxRecDepth 100000 in
theorem writeString_any (B b : Nat) (p v : Value) (bs : List UInt8) (s : ByteArray) (w : World) (h : Bls B w b p v bs) (hlen : bs.length + s.size ≤ 1000000000) (hBw : B ≤ w.heap.size) :
    Calls Tryz.prog 46 #[.pointer (some ⟨b, 0, none⟩), .string s] w fun e w' => e = .returned (.tuple #[.int .i64 s.size, .nilIface]) ∧ (∃ v', Bls B w' b (.pointer (some ⟨b, 0, none⟩)) v' (bs ++ bts s) ∧ (v' = .slice none 0 0 ↔ v = .slice none 0 0 ∧ s = ByteArray.empty)) ∧ Fr b B w w' := by
  obtain ⟨i0, hi, hz0, hz1, hz2⟩ := info_parts Tryz.info5
  have HI := Lib.hid hi
  have HZ0 := Lib.hid hz0
  have HZ1 := Lib.hid hz1
  have HZ2 := Lib.hid hz2
  have HCC := Lib.hid (checkS_any B b p v bs w h)
  clear h hi hz0 hz1 hz2
  go_enter Tryz.func46, Tryz.ntmps46
  go_wp2_with (go_at_call 61; refine HCC.out.mono ?_)
  rintro e w1 ⟨rfl, h1, hs1, hb1⟩
  have hbk := h1.blk
  have hown := h1.own
  have hne := h1.ne
  have c1 : w1.cell? ⟨b, 1, none⟩ = some v := hbk.cell rfl
  have HB1 := Lib.hid hb1
  have HH1 := Lib.hid h1
  have HOWN := Lib.hid hown
  clear hb1 h1 hown
  go_wp2_with (at_builtin; refine Lib.wpList_append_own_string _ rfl _ _ 50 9 rfl B 5 i0 Tryz.underlying50 Tryz.underlying9 HI.out HZ0.out HZ1.out HZ2.out _ _ _ rfl HOWN.out s rfl ?c3 ?c4 ?c5 ?_)
  case c3 => unfold maxLen; omega
  case c4 => omega
  case c5 => omega
  intro v' w2 hown' hgrow hnil
  have hblk2 : Blk w2 b 73 [.pointer (some ⟨b, 0, none⟩), v] := hbk.grown hgrow (fun e => hne e.symm)
  have f1 : w2.frozen? ⟨b, 1, none⟩ = false := hblk2.free 1
  have d1 : w2.cell? ⟨b, 1, none⟩ = some v := hblk2.cell rfl
  rw [strCells_bts] at hown'
  have hown2 : w2.ownsRow B 5 1 v' (bs ++ bts s).length (B8s (bs ++ bts s)) := by
    rw [List.length_append, bts_len]
    have e1 : B8s (bs ++ bts s) = B8s bs ++ B8s (bts s) := by simp [B8s]
    rw [e1]
    exact hown'
  have hne2 : v'.ownBlock ≠ some b := by
    intro e
    rcases hown2.2 with ⟨rfl, _⟩ | ⟨g, cap, cur, rfl, hb3, hg3, _⟩
    · cases e
    · cases e
      have := hblk2
      unfold Blk at this
      rw [this] at hg3
      simp at hg3
  have hfin : Bls B (w2.setCell ⟨b, 1, none⟩ v') b (.pointer (some ⟨b, 0, none⟩)) v' (bs ++ bts s) :=
    ⟨hblk2.set 1 _, hown2.kept ⟨rfl, rfl, rfl, by simp, fun k _ hk => heap_setCell_other w2 ⟨b, 1, none⟩ k _ (fun e => hk (by rw [e]))⟩ (.inr hne2), hne2, .inr rfl⟩
  have hbel : Fr b B w (w2.setCell ⟨b, 1, none⟩ v') := by
    refine HB1.out.trans ⟨hgrow.os, hgrow.tape, hgrow.output, Nat.le_trans hgrow.size (by simp), fun k hk hkb => ?_⟩
    rw [heap_setCell_other w2 ⟨b, 1, none⟩ k _ hkb]
    exact hgrow.block k (by omega) (fun e => by have := (HOWN.out.lt k e.symm).1; omega)
  obtain ⟨ao, n', cap, rfl⟩ : ∃ ao n' cap, v' = .slice ao n' cap := by
    rcases hown'.2 with ⟨hv, _⟩ | ⟨g, cap, cur, hv, _⟩
    · exact ⟨_, _, _, hv⟩
    · exact ⟨_, _, _, hv⟩
  have HFIN := Lib.hid hfin
  have HBEL := Lib.hid hbel
  have HNIL := Lib.hid hnil
  clear hfin hbel hown' hown2 hne2 hnil hgrow
  go_wp2
  go_ret2
  exact ⟨rfl, ⟨_, HFIN.out, HNIL.out⟩, HBEL.out⟩
end Go.Proofs.YtjdmmgaddbleeaaGreat

/- The commutator of nails: the walk. -/
namespace Go.Proofs.YtjdmmgaddbleeaaGreat
open Go.RowKit

/-- a word that falls with any of some nails -/
def commL : List UInt8 → List UInt8
  | [] => []
  | [c] => [c]
  | c :: d :: l => [c] ++ commL (d :: l) ++ [invB c] ++ invL (commL (d :: l))
theorem commL_len : ∀ (l : List UInt8), (commL l).length + 2 ≤ 3 * 2 ^ l.length
  | [] => by simp [commL]
  | [c] => by simp [commL]
  | c :: d :: l => by
    have := commL_len (d :: l)
    rw [commL, List.length_append, List.length_append, List.length_append, invL_len]
    rw [show (c :: d :: l).length = (d :: l).length + 1 from rfl, Nat.pow_succ]
    simp only [List.length_singleton]
    omega
theorem str_eq {s t : ByteArray} (h : bts s = bts t) : s = t := ByteArray.ext (Array.toList_inj.1 h)
theorem bts_add (s t : ByteArray) : bts (s ++ t) = bts s ++ bts t := by simp [bts]

set_option maxHeartbeats 2000000 in
set_option maxRecDepth 100000 in
theorem comm_any : ∀ (l : List UInt8) (s : ByteArray) (w : World), bts s = l → l ≠ [] → l.length ≤ 26 → Calls Tryz.prog 47 #[.string s] w fun e w' => e = .returned (.string (strB (commL l))) ∧ Below w.heap.size w w'
  | [], _, _, _, h, _ => absurd rfl h
  | [c], s, w, hs, _, _ => by
    have hsz : s.size = 1 := by rw [← bts_len, hs]; rfl
    have hss : s = strB (commL [c]) := str_eq (by rw [hs]; rfl)
    have HSS := Lib.hid hss
    clear hss hs
    go_enter Tryz.func47, Tryz.ntmps47
    go_wp2_with fail
    go_ret
    exact ⟨by rw [← HSS.out]; rfl, Below.refl _ _⟩
  | c :: d :: l, s, w, hs, _, hl => by
    have hsz : s.size = l.length + 2 := by rw [← bts_len, hs]; simp
    have hs1 : (s.size : Int) ≠ 1 := by omega
    have t1 : ((s.size : Int) == 1) = false := by simpa using hs1
    have hx : bts (s.extract 0 1) = [c] := by simp [bts, ByteArray.data_extract]; rw [show s.data.toList = c :: d :: l from hs]; simp
    have hy : bts (s.extract 1 s.size) = d :: l := by
      rw [hsz]
      simp [bts, ByteArray.data_extract]; rw [show s.data.toList = c :: d :: l from hs]; simp
    have hrec := fun W => comm_any (d :: l) (s.extract 1 s.size) W hy (by simp) (by simp at hl ⊢; omega)
    have htx := fun W => turned_any (s.extract 0 1) W (by rw [← bts_len, hx]; simp)
    have hcl := commL_len (d :: l)
    have hpw : 2 ^ (d :: l).length ≤ 2 ^ 26 := Nat.pow_le_pow_right (by omega) (by simp at hl ⊢; omega)
    have hYs : (strB (commL (d :: l))).size ≤ 1000000000 := by rw [size_str]; omega
    have hi1' : (invL [c]).length = 1 := by simp [invL]
    have hi2' : (invL (commL (d :: l))).length ≤ 1000000000 := by rw [invL_len]; omega
    have n1 : ¬ 9223372036854775807 < min 1 s.size + (strB (commL (d :: l))).size := by omega
    have n2 : ¬ 9223372036854775807 < min 1 s.size + (strB (commL (d :: l))).size + (invL [c]).length := by omega
    have n3 : ¬ 9223372036854775807 < min 1 s.size + (strB (commL (d :: l))).size + (invL [c]).length + (invL (commL (d :: l))).length := by omega
    clear hpw hYs hi1' hi2'
    have hty := fun W => turned_any (strB (commL (d :: l))) W (by
      rw [size_str]
      have : 2 ^ (d :: l).length ≤ 2 ^ 26 := Nat.pow_le_pow_right (by omega) (by simp at hl ⊢; omega)
      omega)
    rw [hx] at htx
    have hfin : ∀ z, z = s.extract 0 1 ++ strB (commL (d :: l)) ++ strB (invL [c]) ++ strB (invL (commL (d :: l))) → z = strB (commL (c :: d :: l)) := by
      rintro z rfl
      apply str_eq
      rw [bts_add, bts_add, bts_add, hx]
      rfl
    rw [show bts (strB (commL (d :: l))) = commL (d :: l) from rfl] at hty
    generalize strB (commL (c :: d :: l)) = R at *
    generalize hY : strB (commL (d :: l)) = Y at *
    have HREC := Lib.hid hrec
    have HTX := Lib.hid htx
    have HTY := Lib.hid hty
    have HFIN := Lib.hid hfin
    have hi1 : (1 : Int) ≤ (s.size : Int) := by omega
    clear hrec htx hty hfin hx hy hs hcl hs1 hY hl hsz
    go_enter Tryz.func47, Tryz.ntmps47
    go_wp2_with fail
    go_region_with (go_at_call 47; refine (HREC.out _).mono ?_; rintro e w1 ⟨rfl, hb1⟩)
    go_wp2_with (first
      | (go_at_call 21; ((with_reducible refine (HTX.out _).mono ?_); rintro e w2 ⟨rfl, hb2⟩))
      | (go_at_call 21; ((with_reducible refine (HTY.out _).mono ?_); rintro e w3 ⟨rfl, hb3⟩)))
    go_ret
    have hb12 := ((Below.refl w.heap.size w).drew).trans (hb1.mono (by simp))
    have hb123 := hb12.trans (hb2.mono hb12.size)
    exact ⟨by rw [← HFIN.out _ rfl]; rfl, hb123.trans (hb3.mono hb123.size)⟩
end Go.Proofs.YtjdmmgaddbleeaaGreat

/- Whether the empty set is among sets: slices.Contains. -/
namespace Go.Proofs.YtjdmmgaddbleeaaGreat
open Go.RowKit Go.Shelf Go.Lib

def boolsN (f : NS) : List Bool := (List.range 26).map f
theorem marks_bools (f : NS) : marksL f = bools (boolsN f) := by unfold marksL bools boolsN; rw [List.map_map]; rfl
theorem Tryz.cells4 : Tryz.prog.cellsOf 4 = 1 := by kernel_rfl
theorem Tryz.info4 : (Tryz.prog.info? 4).isSome = true := by kernel_rfl
theorem eql_nails : EqlAt Tryz.prog 45 (fun x => .agg (marksL x).toArray) (fun f g => decide (boolsN f = boolsN g)) := by
  refine ⟨fun x y w => ?_, GuardAt.agg _ (by kernel_rfl)⟩
  obtain ⟨i4, hi4⟩ := Option.isSome_iff_exists.1 Tryz.info4
  have heq := run_eq_bools Tryz.underlying45 Tryz.underlying4 Tryz.cells4 hi4 (boolsN x) (boolsN y) (by simp [boolsN]) (by simp [boolsN]) w
  show (binOp BinOp.eql 45 (.agg (marksL x).toArray) (.agg (marksL y).toArray)).run Tryz.prog w = .ok (.bool (decide (boolsN x = boolsN y))) w
  rw [marks_bools, marks_bools]
  have hu := Tryz.underlying45
  generalize hX : (bools (boolsN x)).toArray = X at *
  generalize hY : (bools (boolsN y)).toArray = Y at *
  go_simp
theorem bools_eq {f g : NS} : boolsN f = boolsN g ↔ ∀ i, i < 26 → f i = g i := by
  constructor
  · intro h i hi
    have := congrArg (fun l => l[i]?) h
    simp [boolsN, hi] at this
    exact this
  · intro h
    unfold boolsN
    apply List.map_congr_left
    intro i hi
    exact h i (by simpa using hi)
theorem zero_eq (g : NS) : decide (boolsN (fun _ => false) = boolsN g) = (strN g).isEmpty := by
  rw [Bool.eq_iff_iff, decide_eq_true_iff, bools_eq, List.isEmpty_iff]
  constructor
  · intro h
    rw [← strN_congr h]
    unfold strN
    simp
  · intro h i hi
    have h2 : strN g = strN fun _ => false := by rw [h]; unfold strN; simp
    exact (strN_inj h2 hi).symm
theorem contains0_any (base : Nat) (v : Value) (fs : List NS) (w : World) (hv : SetsAt w base v fs) (h0 : fs ≠ []) :
    Calls Tryz.prog 44 #[v, zeroV] w fun e w' => e = .returned (.bool (fs.any fun g => (strN g).isEmpty)) ∧ Below w.heap.size w w' := by
  rcases hv with ⟨_, h⟩ | ⟨b, cap, rfl, h2, h3, h4, h5, h6⟩
  · exact absurd h h0
  have := Tryz.slices_Contains 26 Tryz.isAgg45 Tryz.sizeOf45 marksL marks_len _ eql_nails b 0 fs.length cap fs (fun _ => false) w (Nat.le_refl _) (by unfold maxLen at h5; omega) ?_
  · rw [List.take_of_length_le (Nat.le_refl _)] at this
    rw [show (fun y => decide (boolsN (fun _ => false) = boolsN y)) = fun g => (strN g).isEmpty from funext zero_eq] at this
    rw [zero_marks]
    exact this
  · intro j hj i u hu
    have hi : i < 26 := by
      rcases Nat.lt_or_ge i 26 with h | h
      · exact h
      · rw [List.getElem?_eq_none (by rw [marks_len]; exact h)] at hu; cases hu
    have e : fs[j]? = some fs[j]! := by rw [List.getElem?_eq_getElem hj, List.getElem!_eq_getElem?_getD, List.getElem?_eq_getElem hj]; rfl
    rw [marks_get hi] at hu
    cases hu
    rw [Nat.zero_add]
    exact (h6 j _ e i hi).1
end Go.Proofs.YtjdmmgaddbleeaaGreat

/- Plain laws of the word that Hang gives: its length. -/
namespace Go.Proofs.YtjdmmgaddbleeaaGreat
open Go.RowKit

/-- the word of some sets -/
def hangL (fs : List NS) : List UInt8 := ((leastS (strN (unionN fs)) (dualP fs)).map commL).flatten
theorem insS_len (s : List UInt8) : ∀ (l : List (List UInt8)), (insS s l).length ≤ l.length + 1
  | [] => by simp [insS]
  | a :: l => by
    rw [insS]
    have := insS_len s l
    split
    · simp; omega
    · split <;> simp
theorem sortS_len (l : List (List UInt8)) : (sortS l).length ≤ l.length := by
  suffices H : ∀ (l out : List (List UInt8)), (l.foldl (fun out s => insS s out) out).length ≤ out.length + l.length by
    have := H l []; simpa [sortS] using this
  intro l
  induction l with
  | nil => intro out; simp
  | cons a l ih =>
    intro out
    rw [List.foldl_cons]
    have h1 := ih (insS a out)
    have h2 := insS_len a out
    rw [List.length_cons]
    omega
theorem leastS_len (A : List UInt8) (p : List UInt8 → Bool) : (leastS A p).length ≤ 2 ^ A.length := by
  unfold leastS
  refine Nat.le_trans (sortS_len _) ?_
  rw [List.length_map]
  unfold minsTo
  have := List.length_filter_le (minB fun b => p (subS A b)) (List.range (2 ^ A.length))
  simpa using this
theorem mem_least_len {A : List UInt8} {p : List UInt8 → Bool} {t : List UInt8} (h : t ∈ leastS A p) : t.length ≤ A.length := by
  unfold leastS at h
  rw [mem_sortS, List.mem_map] at h
  obtain ⟨b, _, rfl⟩ := h
  unfold subS
  rw [List.length_map]
  have := List.length_filter_le (fun k => b.testBit k) (List.range A.length)
  simpa using this
theorem pow_ten {n : Nat} (h : n ≤ 10) : 2 ^ n ≤ 1024 := by
  have := Nat.pow_le_pow_right (show 2 > 0 by omega) h
  omega
theorem comm_short {t : List UInt8} (h : t.length ≤ 10) : (commL t).length ≤ 3072 := by
  have := commL_len t
  have := pow_ten h
  omega
theorem flat_short : ∀ {l : List (List UInt8)} {n : Nat}, (∀ t ∈ l, t.length ≤ n) → l.flatten.length ≤ l.length * n
  | [], _, _ => by simp
  | a :: l, n, h => by
    have h1 := flat_short (l := l) fun t ht => h t (List.mem_cons_of_mem _ ht)
    have h2 := h a (by simp)
    rw [List.flatten_cons, List.length_append, List.length_cons, Nat.add_mul]
    omega
end Go.Proofs.YtjdmmgaddbleeaaGreat

/- Hang: the walk. -/
namespace Go.Proofs.YtjdmmgaddbleeaaGreat
open Go.RowKit

theorem SetsAt.fr {w w' : World} {base b : Nat} {v : Value} {fs : List NS} (h : SetsAt w base v fs) (hf : Fr b w.heap.size w w') (hb : b < base) : SetsAt w' base v fs := by
  rcases h with h | ⟨g, cap, h1, h2, h3, h4, h5, h6⟩
  · exact .inl h
  · have hblk : w'.heap[g]? = w.heap[g]? := hf.block g h3 (by omega)
    exact .inr ⟨g, cap, h1, h2, Nat.lt_of_lt_of_le h3 hf.size, h4, h5, fun j f hj i hi => ⟨(World.cell?_of_block (a := ⟨g, j * 26 + i, none⟩) hblk).trans (h6 j f hj i hi).1, (World.frozen?_of_block (a := ⟨g, j * 26 + i, none⟩) hblk).trans (h6 j f hj i hi).2⟩⟩
theorem dual_ne {fs : List NS} (h0 : fs ≠ []) {t : List UInt8} (h : dualP fs t = true) : t ≠ [] := by
  rintro rfl
  cases fs with
  | nil => exact h0 rfl
  | cons f fs =>
    unfold dualP at h
    rw [List.all_cons, Bool.and_eq_true] at h
    have : meetM f (marksOf []) = false := by unfold meetM marksOf; simp
    rw [this] at h
    cases h.1

set_option maxHeartbeats 2000000 in
set_option maxRecDepth 100000 in
theorem Hang_any (v : Value) (ss : List ByteArray) (w : World) (hv : Strs w v ss) (hl : ss.length ≤ 100) (h0 : ss ≠ []) (hset : ∀ s ∈ ss, isSet 0 (bts s) = true ∧ s.size ≤ 1000) (hne : ∀ s ∈ ss, bts s ≠ [])
    (hten : (strN (unionN (ss.map markB))).length ≤ 10) :
    Calls Tryz.prog 29 #[v] w fun e w' => e = .returned (.tuple #[.string (strB (hangL (ss.map markB))), .int .i64 0]) ∧ Below w.heap.size w w' := by
  obtain ⟨a, n, cap, rfl, HN, hn1, hn2⟩ := hv.open
  have hrd := read_any _ ss w hv hl hset
  have hfl : (ss.map markB).length = n := by rw [List.length_map]; exact HN.out
  have hf0 : ss.map markB ≠ [] := by simpa using h0
  have hem : ((ss.map markB).any fun g => (strN g).isEmpty) = false := by
    rw [Bool.eq_false_iff]
    intro h
    obtain ⟨g, hg, h2⟩ := List.any_eq_true.1 h
    obtain ⟨s, hs, rfl⟩ := List.mem_map.1 hg
    rw [strN_marks (hset s hs).1, List.isEmpty_iff] at h2
    exact hne s hs h2
  have hn0 : n ≠ 0 := by
    intro e
    rw [e] at hfl
    exact hf0 (List.eq_nil_of_length_eq_zero hfl)
  have hn100 : n ≤ 100 := by have := HN.out; omega
  generalize ss.map markB = fs at *
  have t0 : ((n : Int) == 0) = false := by simp; omega
  have hmany : decide (10 < (strN (unionN fs)).length) = false := decide_eq_false (by omega)
  have HRD := Lib.hid hrd
  have HFL := Lib.hid hfl
  have HF0 := Lib.hid hf0
  have HEM := Lib.hid hem
  have HMANY := Lib.hid hmany
  clear hrd hfl hf0 hem hmany hv hset hne h0 hl HN hn0
  go_enter Tryz.func29, Tryz.ntmps29
  go_wp2_with (go_at_call 42; refine HRD.out.mono ?_)
  rintro e w1 ⟨u, rfl, ho1, hb1⟩
  have hs1 := OwnS.sets ho1
  obtain ⟨a1, c1, rfl, _, _⟩ := hs1.shape HFL.out
  have hma := many_any _ _ fs w1 hs1 (by rw [HFL.out]; omega)
  rw [HMANY.out] at hma
  have HMA := Lib.hid hma
  have HS1 := Lib.hid hs1
  have HB1 := Lib.hid hb1
  clear hma hs1 hb1 ho1
  go_wp2_with (go_at_call 43; refine HMA.out.mono ?_)
  rintro e w2 ⟨rfl, hb2⟩
  have hs2 := HS1.out.keep hb2
  have hco := contains0_any _ _ fs w2 hs2 HF0.out
  rw [HEM.out] at hco
  have HCO := Lib.hid hco
  have HS2 := Lib.hid hs2
  have HB2 := Lib.hid (HB1.out.trans (hb2.mono HB1.out.size))
  clear hco hs2 hb2
  go_wp2_with (go_at_call 44; refine HCO.out.mono ?_)
  rintro e w3 ⟨rfl, hb3⟩
  have hs3 := HS2.out.keep hb3
  have hal : Below w3.heap.size w3 (w3.alloc (.cells #[.pointer none, .slice none 0 0] 73)) := (Below.refl _ _).alloc (Nat.le_refl _) _
  have hb03 := HB2.out.trans (hb3.mono HB2.out.size)
  have hdu := dual_any _ _ fs _ (hs3.keep hal) (by rw [HFL.out]; omega)
  have hbl3 := Blk.new w3 73 [.pointer none, .slice none 0 0]
  obtain ⟨b6, hb6⟩ : ∃ b6, w3.heap.size = b6 := ⟨_, rfl⟩
  rw [hb6] at hbl3
  have hw6 : w.heap.size ≤ b6 := by rw [← hb6]; exact hb03.size
  have HDU := Lib.hid hdu
  have HBL3 := Lib.hid hbl3
  have HB3 := Lib.hid (hb03.trans (hal.mono hb03.size))
  clear hdu hbl3 hs3 hal hb03 hb3
  go_wp2_with (go_at_call 45; refine HDU.out.mono ?_)
  rintro e w4 ⟨u4, ds, rfl, hds, _, hs4, hb4⟩
  have hbl4 := HBL3.out.keep hb4
  have hb04 := HB3.out.trans (hb4.mono HB3.out.size)
  obtain ⟨m, hm⟩ : ∃ m, ds.length = m := ⟨_, rfl⟩
  obtain ⟨a4, c4, rfl, _, _⟩ := hs4.shape hm
  have hm1 : m ≤ 1024 := by
    rw [← hm, ← List.length_map (f := strN), hds]
    exact Nat.le_trans (leastS_len _ _) (pow_ten hten)
  have hshort : ∀ d ∈ ds, (commL (strN d)).length ≤ 3072 ∧ (strN d).length ≤ 10 ∧ strN d ≠ [] := by
    intro d hd
    have h1 : strN d ∈ leastS (strN (unionN fs)) (dualP fs) := by rw [← hds]; exact List.mem_map_of_mem hd
    have h2 := mem_least_len h1
    exact ⟨comm_short (by omega), by omega, dual_ne HF0.out ((mem_leastS (strN_rise _) _).1 h1).2.2.1⟩
  have hhl : hangL fs = (ds.map fun d => commL (strN d)).flatten := by
    unfold hangL
    rw [← hds, List.map_map]
    rfl
  have hbls : Bls w4.heap.size w4 b6 (.pointer none) (.slice none 0 0) [] := ⟨hbl4, World.ownsRow_nil _ _ _ _, by simp [Value.ownBlock], .inl rfl⟩
  have HBLS := Lib.hid hbls
  have HS4 := Lib.hid hs4
  have HB4 := Lib.hid hb04
  have HSH := Lib.hid hshort
  have HHL := Lib.hid hhl
  have HM := Lib.hid hm
  have hw4 : b6 < w4.heap.size := hbl4.lt
  clear hbls hs4 hb04 hshort hhl hm hbl4 hds hb4
  go_wp2_with fail
  have hbase : b6 < (w3.alloc (.cells #[.pointer none, .slice none 0 0] 73)).heap.size := by simp; omega
  generalize (w3.alloc (.cells #[.pointer none, .slice none 0 0] 73)).heap.size = base at *
  go_loopw [32] (fun iv wr => ∃ (k : Nat) (p v : Value) (bs : List UInt8), k ≤ m ∧ iv = .int .i64 k ∧ Hid (Bls w4.heap.size wr b6 p v bs) ∧ Hid (bs = ((ds.take k).map fun d => commL (strN d)).flatten) ∧ Hid (bs = [] → v = .slice none 0 0) ∧ Hid (Fr b6 w4.heap.size w4 wr) ∧ w4.heap.size ≤ wr.heap.size) (fun iv _ => m - (intOf iv).toNat)
  case atStart => exact ⟨0, _, _, [], by omega, rfl, HBLS, (show Hid (_ = _) from rfl), (show Hid (_ → _) from fun _ => rfl), (show Hid _ from Fr.refl _ _ _), Nat.le_refl _⟩
  case round =>
    clear HBLS
    obtain ⟨k, p, v, bs, hk, rfl, HBL, HE, HNV, HFR, hsz⟩ := hrel
    obtain ⟨w5, rfl⟩ : ∃ w5, w5 = wr := ⟨_, rfl⟩
    by_cases hlt : k < m
    · obtain ⟨g, d, rfl, hd, hrg⟩ := (HS4.out.fr HFR.out hbase).at_ hlt
      obtain ⟨hc1, hc2, hc3⟩ := HSH.out d (List.mem_of_getElem? hd.out)
      have hstr := fun W => String_any d W
      have hcom := fun W => comm_any (strN d) (strB (strN d)) W rfl hc3 (by omega)
      have htk : bs ++ bts (strB (commL (strN d))) = ((ds.take (k + 1)).map fun d => commL (strN d)).flatten := by
        rw [HE.out, List.take_add_one, hd.out]; simp
      have hblen : bs.length ≤ 3145728 := by
        rw [HE.out]
        have := flat_short (l := (ds.take k).map fun d => commL (strN d)) (n := 3072) (by
          intro t ht
          obtain ⟨x, hx, rfl⟩ := List.mem_map.1 ht
          exact (HSH.out x (List.mem_of_mem_take hx)).1)
        rw [List.length_map, List.length_take] at this
        have h2 : min k ds.length ≤ 1024 := by omega
        have := Nat.mul_le_mul_right 3072 h2
        omega
      have hcs : (strB (commL (strN d))).size ≤ 3072 := by rw [size_str]; exact hc1
      have hml := marks_len d
      have hm1 := marks_one d
      unfold nailsV at hstr
      generalize marksL d = M at *
      generalize strB (commL (strN d)) = C at *
      generalize strB (strN d) = D at *
      have hbn := Blk.new w5 45 zeroL
      have hll : zeroL.length = M.length := by rw [hml]; rfl
      have hbs := hbn.setAll hll
      have hbel : Below w5.heap.size w5 ((w5.alloc (.cells zeroL.toArray 45)).setCells w5.heap.size 0 M) := below_setCells (Nat.le_refl _) _ _ ((Below.refl _ _).alloc (Nat.le_refl _) _)
      have HSTR := Lib.hid hstr
      have HCOM := Lib.hid hcom
      have HTK := Lib.hid htk
      have HRG := Lib.hid hrg
      have HML := Lib.hid hml
      have HM1 := Lib.hid hm1
      have HBN := Lib.hid hbn
      have HLL := Lib.hid hll
      have HB5 := Lib.hid hbs
      have HBEL := Lib.hid hbel
      clear hstr hcom htk hrg hml hm1 hbn hll hbs hbel hc1 hc2 hc3 hd
      go_wp2_with (first
        | ((with_reducible show wpList _ _ _ (Oper.mk _ (Op.load 45 (.tmp 34)) _ _ _ _ :: _) _ _); refine wpList_load_mid rfl _ _ rfl g (k * 26) rfl M _ HRG.out Tryz.underlying45 rfl (by rw [Tryz.size45, HML.out]) ?_)
        | ((with_reducible show wpList _ _ _ (Oper.mk _ (Op.load 45 (.tmp 8)) _ _ _ _ :: _) _ _); refine wpList_loadB HB5.out Tryz.size45 HML.out Tryz.underlying45 rfl rfl _ rfl rfl ?_)
        | ((with_reducible show wpList _ _ _ (Oper.mk _ (Op.store 45 _ _) _ _ _ _ :: _) _ _); refine wpList_storeB (vs := M) HBN.out Tryz.size45 HML.out HLL.out HM1.out rfl _ _ rfl rfl rfl ?_)
        | (go_at_call 48; refine (HSTR.out _).mono ?_; rintro e w6 ⟨rfl, hu6⟩)
        | (go_at_call 47; refine (HCOM.out _).mono ?_))
      rintro e w7 ⟨rfl, hb7⟩
      have hb57 : Below w5.heap.size w5 w7 := by
        have h6 := HBEL.out.trans (hu6.below.mono HBEL.out.size)
        exact h6.trans (hb7.mono h6.size)
      have hw7 := hb57.size
      have hws := writeString_any w4.heap.size b6 p v bs C w7 (HBL.out.keep hb57) (by omega) (by omega)
      have HWS := Lib.hid hws
      have HB57 := Lib.hid hb57
      clear hws hb57 hu6 hb7
      go_wp2_with (go_at_call 46; refine HWS.out.mono ?_; rintro e w8 ⟨rfl, ⟨v8, hbl8, hnv8⟩, hfr8⟩)
      have hfr : Fr b6 w4.heap.size w4 w8 := (HFR.out.trans (Fr.of_below (HB57.out.mono hsz))).trans hfr8
      go_roundw
      case rel => exact ⟨k + 1, _, v8, _, by omega, by go_num, hbl8, HTK, (show Hid (_ → _) from fun e => by
          obtain ⟨e1, e2⟩ := List.append_eq_nil_iff.1 e
          exact hnv8.2 ⟨HNV.out e1, str_eq (by rw [e2]; rfl)⟩), hfr, Nat.le_trans hsz (Nat.le_trans hw7 hfr8.size)⟩
      case measure => simp [intOf]; omega
    · obtain rfl : k = m := by omega
      have hbst := bString_any w.heap.size b6 p v bs w5 (HBL.out.bld (by omega) hw6) HNV.out
      have he : (⟨bs.toArray⟩ : ByteArray) = strB (hangL fs) := by rw [HHL.out, HE.out, List.take_of_length_le (by rw [HM.out]; exact Nat.le_refl _)]
      rw [he] at hbst
      have HBST := Lib.hid hbst
      clear hbst he
      go_wp2_with (go_at_call 49; refine HBST.out.mono ?_; rintro e w6 ⟨rfl, hu6⟩)
      go_ret2
      exact ⟨rfl, (HB4.out.trans (HFR.out.below (by omega) hw6)).trans hu6.below⟩
end Go.Proofs.YtjdmmgaddbleeaaGreat

/- The root of a reduced word: the walk. -/
namespace Go.Proofs.YtjdmmgaddbleeaaGreat
open Go.RowKit

/-- the first part of a word is one of which it is a power -/
def isPer (m : List UInt8) (d : Nat) : Bool := decide (m.length % d = 0) && decide (Lib.repeatL (m.take d) (m.length / d) = m)
theorem isPer_all {m : List UInt8} (h : 0 < m.length) : isPer m m.length = true := by
  unfold isPer
  rw [Nat.mod_self, Nat.div_self h, List.take_length]
  simp [Lib.repeatL]
/-- the least such part, from d on -/
def perD (m : List UInt8) : Nat → Nat → Nat
  | 0, d => d
  | f + 1, d => if isPer m d then d else perD m f (d + 1)
theorem perD_stop {m : List UInt8} {f d : Nat} (h : isPer m d = true) : perD m f d = d := by
  cases f with
  | zero => rfl
  | succ f => rw [perD, if_pos h]
theorem perD_go {m : List UInt8} {f d : Nat} (h : isPer m d = false) : perD m (f + 1) d = perD m f (d + 1) := by
  rw [perD, if_neg (by rw [h]; simp)]
theorem perD_le {m : List UInt8} : ∀ (f d : Nat), d + f = m.length → 0 < d → d ≤ perD m f d ∧ perD m f d ≤ m.length ∧ (isPer m (perD m f d) = true) ∧ ∀ e, d ≤ e → e < perD m f d → isPer m e = false
  | 0, d, h, hd => by
    have : d = m.length := by omega
    subst this
    exact ⟨Nat.le_refl _, Nat.le_refl _, isPer_all hd, fun e h1 h2 => by rw [perD] at h2; omega⟩
  | f + 1, d, h, hd => by
    rw [perD]
    split
    · rename_i hp
      exact ⟨Nat.le_refl _, by omega, hp, fun e h1 h2 => by omega⟩
    · rename_i hp
      obtain ⟨h1, h2, h3, h4⟩ := perD_le (m := m) f (d + 1) (by omega) (by omega)
      refine ⟨by omega, h2, h3, fun e h5 h6 => ?_⟩
      by_cases he : e = d
      · subst he; simpa using hp
      · exact h4 e (by omega) h6
/-- the ends of a reduced word, and what is between -/
def byL (l : List UInt8) : List UInt8 := l.take (coreN l)
def midL (l : List UInt8) : List UInt8 := (l.drop (coreN l)).take (l.length - 2 * coreN l)
/-- the length of the root's middle -/
def perL (l : List UInt8) : Nat := perD (midL l) ((midL l).length - 1) 1
/-- what root answers -/
def rootW (l : List UInt8) : List UInt8 := redW (byL l ++ (midL l).take (perL l) ++ invL (byL l))
def rootN (l : List UInt8) : Nat := (midL l).length / perL l


theorem coreK_ok {l : List UInt8} : ∀ (f k : Nat), l.length ≤ k + f → 2 * k ≤ l.length → (∀ i, i < k → l[i]? = (l[l.length - 1 - i]?).map invB) →
    2 * coreK l f k ≤ l.length ∧ (∀ i, i < coreK l f k → l[i]? = (l[l.length - 1 - i]?).map invB) ∧ ¬ (2 * coreK l f k + 1 < l.length ∧ l[coreK l f k]? = (l[l.length - 1 - coreK l f k]?).map invB)
  | 0, k, h, h2, h3 => ⟨h2, h3, fun ⟨h4, _⟩ => by rw [coreK] at h4; omega⟩
  | f + 1, k, h, h2, h3 => by
    rw [coreK]
    split
    · rename_i h4
      refine coreK_ok f (k + 1) (by omega) (by omega) fun i hi => ?_
      by_cases he : i = k
      · subst he; exact h4.2
      · exact h3 i (by omega)
    · rename_i h4
      exact ⟨h2, h3, h4⟩
theorem coreN_ok (l : List UInt8) : 2 * coreN l ≤ l.length ∧ (∀ i, i < coreN l → l[i]? = (l[l.length - 1 - i]?).map invB) ∧ ¬ (2 * coreN l + 1 < l.length ∧ l[coreN l]? = (l[l.length - 1 - coreN l]?).map invB) :=
  coreK_ok l.length 0 (by omega) (by omega) (fun i hi => by omega)
theorem Rd.at_ {l : List UInt8} : ∀ {k : Nat} {a b : UInt8}, Rd l → l[k]? = some a → l[k + 1]? = some b → a ≠ invB b := by
  induction l with
  | nil => intro k a b _ h; simp at h
  | cons x l ih =>
    intro k a b h h1 h2
    cases k with
    | zero =>
      simp at h1 h2
      subst h1
      cases l with
      | nil => simp at h2
      | cons y l => simp at h2; subst h2; exact Rd.ne h
    | succ k => exact ih h.tail (by simpa using h1) (by simpa using h2)
theorem coreN_lt {l : List UInt8} (h : Rd l) (h0 : l ≠ []) : 2 * coreN l < l.length := by
  obtain ⟨h1, h2, _⟩ := coreN_ok l
  have hp : 0 < l.length := List.length_pos_iff.2 h0
  by_cases he : 2 * coreN l = l.length
  · exfalso
    have h3 := h2 (coreN l - 1) (by omega)
    have ha : l[coreN l - 1]? = some (l[coreN l - 1]'(by omega)) := List.getElem?_eq_getElem _
    have hb : l[coreN l]? = some (l[coreN l]'(by omega)) := List.getElem?_eq_getElem _
    rw [show l.length - 1 - (coreN l - 1) = coreN l by omega, ha, hb] at h3
    simp at h3
    have := h.at_ (k := coreN l - 1) ha (by rw [show coreN l - 1 + 1 = coreN l by omega]; exact hb)
    exact this h3
  · omega
theorem mid_len (l : List UInt8) : (midL l).length = l.length - 2 * coreN l := by
  have := (coreN_ok l).1
  unfold midL
  rw [List.length_take, List.length_drop]
  omega
theorem bts_by (s : ByteArray) : bts (s.extract 0 (coreN (bts s))) = byL (bts s) := by
  unfold byL bts
  simp [ByteArray.data_extract]
theorem bts_mid (s : ByteArray) : bts (s.extract (coreN (bts s)) (s.size - coreN (bts s))) = midL (bts s) := by
  unfold midL
  rw [bts_len]
  generalize coreN (bts s) = c
  simp only [bts, ByteArray.data_extract, Array.toList_extract, List.extract_eq_take_drop]
  rw [show s.size - c - c = s.size - 2 * c by omega]

theorem product_three (a b c : ByteArray) (W : World) (ha : isWord (bts a) = true) (hb : isWord (bts b) = true) (hc : isWord (bts c) = true) (hl : (bts a).length + (bts b).length + (bts c).length < 100000000) :
    Calls Tryz.prog 20 #[.slice (some ⟨W.heap.size, 0, none⟩) 3 3] (W.alloc (.cells #[.string a, .string b, .string c] 9)) fun e w' => e = .returned (.string (strB (redW (bts a ++ bts b ++ bts c)))) ∧ Below W.heap.size W w' := by
  have hr : restL [a, b, c] 0 = bts a ++ bts b ++ bts c := by simp [restL]
  have h1 := product_any (.slice (some ⟨W.heap.size, 0, none⟩) 3 3) [a, b, c] (W.alloc (.cells #[.string a, .string b, .string c] 9)) (Strs.lit W 9 [a, b, c] (by simp)) (by simp [ha, hb, hc]) (by rw [hr, List.length_append, List.length_append]; exact hl)
  rw [hr] at h1
  refine h1.mono ?_
  rintro e w' ⟨rfl, hb⟩
  exact ⟨rfl, ((Below.refl _ _).alloc (Nat.le_refl _) _).trans (hb.mono (by simp))⟩
theorem product_three2 (a b c : ByteArray) (W : World) (ha : isWord (bts a) = true) (hb : isWord (bts b) = true) (hc : isWord (bts c) = true) (hl : (bts a).length + (bts b).length + (bts c).length < 100000000) :
    Calls Tryz.prog 20 #[.slice (some ⟨W.heap.size, 0, none⟩) 3 3] (W.alloc (.cells #[.string a, .string b, .string c] 9)) fun e w' => e = .returned (.string (strB (redW (bts a ++ bts b ++ bts c)))) ∧ Below (W.alloc (.cells #[.string a, .string b, .string c] 9)).heap.size (W.alloc (.cells #[.string a, .string b, .string c] 9)) w' := by
  have hr : restL [a, b, c] 0 = bts a ++ bts b ++ bts c := by simp [restL]
  have h1 := product_any (.slice (some ⟨W.heap.size, 0, none⟩) 3 3) [a, b, c] (W.alloc (.cells #[.string a, .string b, .string c] 9)) (Strs.lit W 9 [a, b, c] (by simp)) (by simp [ha, hb, hc]) (by rw [hr, List.length_append, List.length_append]; exact hl)
  rw [hr] at h1
  exact h1
end Go.Proofs.YtjdmmgaddbleeaaGreat

/- The root of a reduced word: the walk of root. -/
namespace Go.Proofs.YtjdmmgaddbleeaaGreat
open Go.RowKit

theorem isWord_sub {l m : List UInt8} (h : isWord l = true) (hs : ∀ c ∈ m, c ∈ l) : isWord m = true := by
  unfold isWord at *
  rw [List.all_eq_true] at *
  exact fun c hc => h c (hs c hc)

theorem keep60 {g : Nat} {C : Value} {w2 W W' : World} (h1 : W.cell? ⟨g, 1, none⟩ = some C) (h2 : Below w2.heap.size w2 W) (hg : g < w2.heap.size) (hb : Below W.heap.size W W') : W'.cell? ⟨g, 1, none⟩ = some C ∧ Below w2.heap.size w2 W' :=
  ⟨(hb.cell (p := ⟨g, 1, none⟩) (Nat.lt_of_lt_of_le hg h2.size)).trans h1, h2.trans (hb.mono h2.size)⟩
theorem keep61 {g : Nat} {A C : Value} {w2 W W' : World} (h0 : W.cell? ⟨g, 0, none⟩ = some A) (h1 : W.cell? ⟨g, 1, none⟩ = some C) (h2 : Below w2.heap.size w2 W) (hg : g < w2.heap.size) (hb : Below W.heap.size W W') : W'.cell? ⟨g, 0, none⟩ = some A ∧ W'.cell? ⟨g, 1, none⟩ = some C ∧ Below w2.heap.size w2 W' :=
  ⟨(hb.cell (p := ⟨g, 0, none⟩) (Nat.lt_of_lt_of_le hg h2.size)).trans h0, keep60 h1 h2 hg hb⟩

set_option maxRecDepth 100000 in
set_option maxHeartbeats 2000000 in
theorem root_any (s : ByteArray) (w : World) (hs : s.size ≤ 100000) (hw : isWord (bts s) = true) (hm : 0 < (midL (bts s)).length) :
    Calls Tryz.prog 50 #[.string s] w fun e w' => e = .returned (.tuple #[.string (strB (rootW (bts s))), .int .i64 (rootN (bts s))]) ∧ Below w.heap.size w w' := by
  have hun := unwound_any s w (by omega)
  have hby := bts_by s
  have hmid := bts_mid s
  generalize s.extract 0 (coreN (bts s)) = A at *
  generalize s.extract (coreN (bts s)) (s.size - coreN (bts s)) = C at *
  have hcs : C.size = (midL (bts s)).length := by rw [← hmid, bts_len]
  have HUN := Lib.hid hun
  have HBY := Lib.hid hby
  have HMID := Lib.hid hmid
  have HCS := Lib.hid hcs
  have HW := Lib.hid hw
  clear hun hby hmid hcs hw
  go_enter Tryz.func50, Tryz.ntmps50
  go_wp2_with (go_at_call 63; refine HUN.out.mono ?_; rintro e w1 ⟨rfl, hb1⟩)
  have hb2 := Blk.new w1 90 [.string A, .string C]
  have hbw : Below w.heap.size w (w1.alloc (.cells #[.string A, .string C] 90)) := hb1.alloc hb1.size _
  have HB2 := Lib.hid hb2
  have HBW := Lib.hid hbw
  have hwg : w.heap.size ≤ w1.heap.size := hb1.size
  have hcpos : 0 < C.size := by rw [HCS.out]; exact hm
  have HLS := Lib.hid hs
  have hcle : C.size ≤ 100000 := by rw [HCS.out, mid_len, bts_len]; omega
  clear hb1 hb2 hbw hm hs
  go_loopw [6] (fun dv wx => ∃ d : Nat, 1 ≤ d ∧ d ≤ C.size ∧ dv = .int .i64 d ∧ Hid (Blk wx w1.heap.size 90 [.string A, .string C]) ∧ Hid (Below w.heap.size w wx) ∧ Hid (perD (midL (bts s)) (C.size - d) d = perL (bts s))) (fun dv _ => C.size - (intOf dv).toNat)
  case atStart => exact ⟨1, by omega, by omega, rfl, HB2, HBW, by show _ = _; rw [HCS.out]; rfl⟩
  case round =>
    clear HB2 HBW
    obtain ⟨d, hd1, hd2, rfl, HB, HBB, HP⟩ := hrel
    obtain ⟨w2, rfl⟩ : ∃ w2, w2 = wr := ⟨_, rfl⟩
    have hcA := HB.out.cell (j := 0) rfl
    have hcC := HB.out.cell (j := 1) rfl
    have hrem : ((C.size % d : Nat) : Int) = (C.size : Int) % (d : Int) := by push_cast; rfl
    have hquo : ((C.size / d : Nat) : Int) = (C.size : Int) / (d : Int) := by push_cast; rfl
    have hdn : d ≠ 0 := by omega
    have hq2 : IntKind.i64.wrap ((C.size : Int) / (d : Int)) = (C.size : Int) / (d : Int) := by
      have := Nat.div_le_self C.size d
      rw [← hquo, IntKind.wrap_i64]
      generalize C.size / d = q at *
      clear hquo
      omega
    by_cases h0 : C.size % d = 0
    · have hrp := fun W => Tryz.strings_Repeat (C.extract 0 d) (C.size / d) W (by have := Nat.div_le_self C.size d; omega) (by
        have h1 : (C.extract 0 d).size = d := by rw [ByteArray.size_extract]; omega
        rw [h1, Nat.mul_comm]
        have := Nat.div_mul_le_self C.size d
        omega)
      have hext : (C.extract 0 d).data.toList = (midL (bts s)).take d := by rw [← HMID.out]; simp [bts, ByteArray.data_extract]
      rw [hext] at hrp
      rw [hquo] at hrp
      have hq0 : Int.tmod (C.size : Int) (d : Int) = 0 := by show ((C.size % d : Nat) : Int) = 0; rw [h0]; rfl
      have hq1 : Int.tdiv (C.size : Int) (d : Int) = (C.size : Int) / (d : Int) := by rw [← hquo]; rfl
      have hdC : d ≤ C.size := hd2
      by_cases hpe : Lib.repeatL ((midL (bts s)).take d) (C.size / d) = midL (bts s)
      · have hper : isPer (midL (bts s)) d = true := by unfold isPer; rw [← HCS.out, decide_eq_true h0, decide_eq_true hpe]; rfl
        have hfin : perL (bts s) = d := by rw [← HP.out, perD_stop hper]
        have heq : (⟨(Lib.repeatL ((midL (bts s)).take d) (C.size / d)).toArray⟩ : ByteArray) = C := by
          apply str_eq
          show Lib.repeatL ((midL (bts s)).take d) (C.size / d) = bts C
          rw [hpe, HMID.out]
        rw [heq] at hrp
        have hsA : A.size ≤ 100000 := by
          rw [← bts_len, HBY.out]
          have := HLS.out
          unfold byL
          rw [List.length_take]
          rw [bts_len]
          omega
        have htu := fun W => turned_any A W (by omega)
        have hwA : isWord (bts A) = true := isWord_sub HW.out fun c hc => by rw [HBY.out] at hc; exact List.mem_of_mem_take hc
        have hwC : isWord (bts (C.extract 0 d)) = true := isWord_sub HW.out fun c hc => by
          have : c ∈ (midL (bts s)).take d := by rw [← hext]; exact hc
          exact List.mem_of_mem_drop (List.mem_of_mem_take (List.mem_of_mem_take this))
        have hwT : isWord (bts (strB (invL (bts A)))) = true := by
          show isWord (invL (bts A)) = true
          unfold isWord invL at *
          rw [List.all_eq_true] at *
          intro c hc
          rw [List.mem_reverse, List.mem_map] at hc
          obtain ⟨x, hx, rfl⟩ := hc
          exact (letter_inv x (hwA x hx)).1
        have hpr := fun W => product_three2 A (C.extract 0 d) (strB (invL (bts A))) W hwA hwC hwT (by
          rw [show bts (strB (invL (bts A))) = invL (bts A) from rfl, invL_len, bts_len, bts_len]
          have : (C.extract 0 d).size ≤ C.size := by rw [ByteArray.size_extract]; omega
          omega)
        have hrw : redW (bts A ++ bts (C.extract 0 d) ++ bts (strB (invL (bts A)))) = rootW (bts s) := by
          rw [show bts (strB (invL (bts A))) = invL (bts A) from rfl, show bts (C.extract 0 d) = (midL (bts s)).take d from hext, HBY.out]
          unfold rootW
          rw [hfin]
        rw [hrw] at hpr
        have hrn : ((rootN (bts s) : Nat) : Int) = (C.size : Int) / (d : Int) := by unfold rootN; rw [hfin, ← HCS.out, hquo]
        generalize hRW : strB (rootW (bts s)) = RW at *
        have HRW := Lib.hid hRW
        clear hRW
        generalize strB (invL (bts A)) = T at *
        have HRP := Lib.hid hrp
        have HTU := Lib.hid htu
        have HPR := Lib.hid hpr
        have HRN := Lib.hid hrn
        have hrefl : Below w2.heap.size w2 w2 := Below.refl _ _
        have hlt1 := HB.out.lt
        clear hrp htu hpr hrn hper hfin heq hsA hwA hwC hwT hrw hpe hext h0 hrem hquo
        go_wp2_with fail
        go_region_held3 (fun w' => w'.cell? ⟨w1.heap.size, 1, none⟩ = some (.string C) ∧ Below w2.heap.size w2 w') (first | (refine ⟨?_, ?_⟩ <;> first | assumption | (refine Below.drew ?_; assumption)) | (go_split_ands; exact keep60 (by assumption) (by assumption) hlt1 hb')) (first | (go_at_call 64; ((with_reducible refine (HRP.out _).mono ?_); rintro e w' ⟨rfl, hb'⟩)))
        go_split_ands
        have hbz := Lib.hid (p := Below w2.heap.size w2 w') (by assumption)
        go_wp2_with fail
        obtain ⟨w3, rfl⟩ : ∃ w3, w3 = w' := ⟨_, rfl⟩
        have hb3 := HB.out.keep hbz.out
        have hcA3 := hb3.cell (j := 0) rfl
        have hcC3 := hb3.cell (j := 1) rfl
        have hlt3 := hb3.lt
        have hrefl3 : Below w3.heap.size w3 w3 := Below.refl _ _
        have HB3 := Lib.hid (HBB.out.trans (hbz.out.mono HBB.out.size))
        clear hb3 hbz HB HBB hrefl hlt1
        go_region_held3 (fun w' => w'.cell? ⟨w1.heap.size, 0, none⟩ = some (.string A) ∧ w'.cell? ⟨w1.heap.size, 1, none⟩ = some (.string C) ∧ Below w3.heap.size w3 w') (first | (refine ⟨?_, ?_, ?_⟩ <;> first | assumption | (refine Below.drew ?_; assumption)) | (go_split_ands; exact keep61 (by assumption) (by assumption) (by assumption) hlt3 hb') | (go_split_ands; exact keep61 (by assumption) (by assumption) (by assumption) hlt3 ((Below.refl _ _).alloc (Nat.le_refl _) _))) (first
          | (go_at_call 21; ((with_reducible refine (HTU.out _).mono ?_); rintro e w' ⟨rfl, hb'⟩))
          | (go_at_call 20; ((with_reducible refine (HPR.out _).mono ?_); rintro e w' ⟨rfl, hb'⟩)))
        go_split_ands
        have hbz := Lib.hid (p := Below w3.heap.size w3 w') (by assumption)
        go_wp2_with fail
        go_ret2
        exact ⟨by rw [HRN.out, HRW.out]; rfl, HB3.out.trans (hbz.out.mono HB3.out.size)⟩
      · have hper : isPer (midL (bts s)) d = false := by unfold isPer; rw [← HCS.out, decide_eq_true h0, decide_eq_false hpe]; rfl
        have hlt : d < C.size := by
          rcases Nat.lt_or_ge d C.size with h | h
          · exact h
          · have : d = C.size := by omega
            rw [this, HCS.out, isPer_all (by rw [← HCS.out]; exact hcpos)] at hper
            cases hper
        have hgo : perD (midL (bts s)) (C.size - (d + 1)) (d + 1) = perL (bts s) := by
          rw [← HP.out, show C.size - d = (C.size - (d + 1)) + 1 by omega, perD_go hper]
        have hne : ((⟨(Lib.repeatL ((midL (bts s)).take d) (C.size / d)).toArray⟩ : ByteArray).toList == C.toList) = false := by
          simp only [beq_eq_false_iff_ne]
          rw [ByteArray.toList_eq, ByteArray.toList_eq]
          intro h
          apply hpe
          exact h.trans HMID.out
        have HGO := Lib.hid hgo
        generalize (⟨(Lib.repeatL ((midL (bts s)).take d) (C.size / d)).toArray⟩ : ByteArray) = R at *
        have HRP := Lib.hid hrp
        clear hrem hquo
        clear hgo hper h0 hrp hext hpe hcA
        have hrefl : Below w2.heap.size w2 w2 := Below.refl _ _
        have hlt1 := HB.out.lt
        go_wp2_with fail
        go_region_held3 (fun w' => w'.cell? ⟨w1.heap.size, 1, none⟩ = some (.string C) ∧ Below w2.heap.size w2 w') (first | (refine ⟨?_, ?_⟩ <;> first | assumption | (refine Below.drew ?_; assumption)) | (go_split_ands; exact keep60 (by assumption) (by assumption) hlt1 hb')) (first | (go_at_call 64; ((with_reducible refine (HRP.out _).mono ?_); rintro e w' ⟨rfl, hb'⟩)))
        go_split_ands
        have hbz := Lib.hid (p := Below w2.heap.size w2 w') (by assumption)
        go_wp2_with fail
        go_roundw
        case rel => exact ⟨d + 1, by omega, by omega, by go_num, HB.out.keep hbz.out, HBB.out.trans (hbz.out.mono HBB.out.size), HGO⟩
        case measure => simp [intOf]; omega
    · have hper : isPer (midL (bts s)) d = false := by unfold isPer; rw [← HCS.out, decide_eq_false h0]; rfl
      have hlt : d < C.size := by
        rcases Nat.lt_or_ge d C.size with h | h
        · exact h
        · have : d = C.size := by omega
          subst this; rw [Nat.mod_self] at h0; exact absurd rfl h0
      have hgo : perD (midL (bts s)) (C.size - (d + 1)) (d + 1) = perL (bts s) := by
        rw [← HP.out, show C.size - d = (C.size - (d + 1)) + 1 by omega, perD_go hper]
      have HGO := Lib.hid hgo
      have t0 : (((C.size : Int) % (d : Int)) == 0) = false := by rw [← hrem]; simp; omega
      clear hrem hquo
      clear hgo hper h0
      go_wp2_with fail
      go_quiet (fail)
      go_wp2_with fail
      go_roundw
      case rel => exact ⟨d + 1, by omega, by omega, by go_num, (show Hid _ from HB.out), HBB.out.drewN' nq, HGO⟩
      case measure => simp [intOf]; omega
end Go.Proofs.YtjdmmgaddbleeaaGreat

/- Root: the walk. -/
namespace Go.Proofs.YtjdmmgaddbleeaaGreat
open Go.RowKit

theorem mem_putL {l : List UInt8} {c x : UInt8} (h : x ∈ putL l c) : x ∈ l ∨ x = c := by
  unfold putL at h
  split at h
  · exact .inl ((List.dropLast_prefix l).subset h)
  · simpa using h
theorem mem_act : ∀ (w st : List UInt8) {x : UInt8}, x ∈ act st w → x ∈ st ∨ x ∈ w
  | [], _, _, h => .inl h
  | c :: w, st, x, h => by
    rw [act_cons] at h
    rcases mem_act w _ h with h | h
    · rcases mem_putL h with h | h
      · exact .inl h
      · exact .inr (by simp [h])
    · exact .inr (by simp [h])
theorem mem_redW {l : List UInt8} {x : UInt8} (h : x ∈ redW l) : x ∈ l := by
  rw [redW_act] at h
  rcases mem_act _ _ h with h | h
  · simp at h
  · exact h
theorem redW_word {l : List UInt8} (h : isWord l = true) : isWord (redW l) = true := isWord_sub h fun _ hc => mem_redW hc
theorem invL_word {l : List UInt8} (h : isWord l = true) : isWord (invL l) = true := by
  unfold isWord invL at *
  rw [List.all_eq_true] at *
  intro c hc
  rw [List.mem_reverse, List.mem_map] at hc
  obtain ⟨x, hx, rfl⟩ := hc
  exact (letter_inv x (h x hx)).1
theorem isWord_app {a b : List UInt8} (ha : isWord a = true) (hb : isWord b = true) : isWord (a ++ b) = true := by
  unfold isWord at *; rw [List.all_append, ha, hb]; rfl
set_option maxRecDepth 100000 in
set_option maxHeartbeats 400000 in
theorem Root_bad (s : ByteArray) (w : World) (hs : s.size ≤ 9223372036854775807) (h : wordErr s ≠ 0) :
    Calls Tryz.prog 30 #[.string s] w fun e w' => e = .returned (.tuple #[.string ⟨#[]⟩, .int .i64 0, .int .i64 (wordErr s)]) ∧ Below w.heap.size w w' := by
  have hck := check_any s w hs
  have t0 : (wordErr s != 0) = true := by simpa using h
  generalize wordErr s = E at *
  have HCK := Lib.hid hck
  clear hck h
  go_enter Tryz.func30, Tryz.ntmps30
  go_wp2_with (go_at_call 5; refine HCK.out.mono ?_; rintro e w1 ⟨rfl, hb1⟩)
  go_ret3
  exact ⟨rfl, hb1⟩
set_option maxRecDepth 100000 in
set_option maxHeartbeats 400000 in
theorem Root_none (s : ByteArray) (w : World) (h : wordErr s = 0) (h0 : redW (bts s) = []) :
    Calls Tryz.prog 30 #[.string s] w fun e w' => e = .returned (.tuple #[.string ⟨#[]⟩, .int .i64 0, .int .i64 4]) ∧ Below w.heap.size w w' := by
  obtain ⟨h1, h2⟩ := word_size h
  have hck := check_any s w (by omega)
  rw [h] at hck
  have hpr := fun W => product_one s W h1 (by omega)
  rw [h0] at hpr
  have HCK := Lib.hid hck
  have HPR := Lib.hid hpr
  clear hck hpr h0 h1 h2 h
  go_enter Tryz.func30, Tryz.ntmps30
  go_wp2_with (first
    | (go_at_call 20; refine (HPR.out _).mono ?_; rintro e w2 ⟨rfl, hb2⟩)
    | (go_at_call 5; refine HCK.out.mono ?_; rintro e w1 ⟨rfl, hb1⟩))
  go_ret3
  exact ⟨rfl, hb1.trans (hb2.mono hb1.size)⟩
set_option maxRecDepth 100000 in
set_option maxHeartbeats 400000 in
theorem Root_any (s : ByteArray) (w : World) (h : wordErr s = 0) (h0 : redW (bts s) ≠ []) :
    Calls Tryz.prog 30 #[.string s] w fun e w' => e = .returned (.tuple #[.string (strB (rootW (redW (bts s)))), .int .i64 (rootN (redW (bts s))), .int .i64 0]) ∧ Below w.heap.size w w' := by
  obtain ⟨h1, h2⟩ := word_size h
  have hck := check_any s w (by omega)
  rw [h] at hck
  have hpr := fun W => product_one s W h1 (by omega)
  have hrl := redW_len (bts s)
  rw [bts_len] at hrl
  have hro := fun W => root_any (strB (redW (bts s))) W (by rw [size_str]; omega) (redW_word h1) (by
    have := coreN_lt (redW_rd (bts s)) h0
    rw [mid_len]
    show 0 < (redW (bts s)).length - 2 * coreN (redW (bts s))
    omega)
  have hro2 : ∀ W, Calls Tryz.prog 50 #[.string (strB (redW (bts s)))] W fun e w' => e = .returned (.tuple #[.string (strB (rootW (redW (bts s)))), .int .i64 (rootN (redW (bts s)))]) ∧ Below W.heap.size W w' := hro
  have hne2 : (strB (redW (bts s))).toList ≠ [] := by rw [ByteArray.toList_eq]; exact h0
  have hne3 : (strB (redW (bts s))).toList.isEmpty = false := by rw [Bool.eq_false_iff]; intro h; exact hne2 (List.isEmpty_iff.1 h)
  generalize strB (redW (bts s)) = R at *
  have HCK := Lib.hid hck
  have HPR := Lib.hid hpr
  have HRO := Lib.hid hro2
  clear hck hpr h0 h1 h2 h hro hro2 hrl
  go_enter Tryz.func30, Tryz.ntmps30
  go_wp2_with (first
    | (go_at_call 50; refine (HRO.out _).mono ?_; rintro e w3 ⟨rfl, hb3⟩)
    | (go_at_call 20; refine (HPR.out _).mono ?_; rintro e w2 ⟨rfl, hb2⟩)
    | (go_at_call 5; refine HCK.out.mono ?_; rintro e w1 ⟨rfl, hb1⟩))
  go_ret3
  have hb12 := hb1.trans (hb2.mono hb1.size)
  exact ⟨rfl, hb12.trans (hb3.mono hb12.size)⟩
end Go.Proofs.YtjdmmgaddbleeaaGreat

/- awake: the walk. -/
namespace Go.Proofs.YtjdmmgaddbleeaaGreat
open Go.RowKit

theorem awk_sets : setsL [97, 98, 65, 66] = [[97], [98]] := by decide +kernel
theorem awk_ten : (strN (nailsOf [97, 98, 65, 66])).length ≤ 10 := by decide +kernel
theorem awk_hang : hangL [marksOf [97, 98], marksOf [98, 99], marksOf [97, 99]] = [97, 98, 65, 66, 97, 99, 65, 67, 98, 99, 66, 67] := by decide +kernel
theorem awk_union : (strN (unionN [marksOf [97, 98], marksOf [98, 99], marksOf [97, 99]])).length ≤ 10 := by decide +kernel
theorem awk_falls : (redL (marksOf [97, 98]) [97, 98, 65, 66, 97, 99, 65, 67, 98, 99, 66, 67]).isEmpty = true := by decide +kernel
theorem awk_stays : (redL (marksOf [97]) [97, 98, 65, 66, 97, 99, 65, 67, 98, 99, 66, 67]).isEmpty = false := by decide +kernel
theorem awk_red : redW [98, 97, 97, 66] = [98, 97, 97, 66] := by decide +kernel
theorem awk_root : rootW [98, 97, 97, 66] = [98, 97, 66] ∧ rootN [98, 97, 97, 66] = 2 := by decide +kernel
theorem word_zero {l : List UInt8} (h : isWord l = true) (hl : l.length ≤ 30000) : wordErr (strB l) = 0 := by
  unfold wordErr
  rw [show bts (strB l) = l from rfl, if_pos h, if_neg (by rw [size_str]; omega)]

theorem awk1 (w : World) : Calls Tryz.prog 28 #[.string ⟨#[97, 98, 65, 66]⟩] w fun e w' => ∃ b o c, e = .returned (.tuple #[.slice (some ⟨b, o, none⟩) 2 c, .int .i64 0]) ∧ 2 ≤ c ∧ c ≤ 9223372036854775807 ∧ b < w'.heap.size ∧ w'.cell? ⟨b, o, none⟩ = some (.string ⟨#[97]⟩) ∧ Below w.heap.size w w' := by
  refine (Sets_any (strB [97, 98, 65, 66]) w (word_zero (by decide) (by simp)) awk_ten).mono ?_
  rintro e w' ⟨u, rfl, hs, hb⟩
  rw [show bts (strB [97, 98, 65, 66]) = [97, 98, 65, 66] from rfl, awk_sets] at hs
  obtain ⟨a, cap, rfl, ⟨h1, h2⟩, h⟩ := hs
  obtain ⟨b, o, rfl, hlt, hc⟩ := h (by simp)
  exact ⟨b, o, cap, rfl, by simpa using h1, h2, hlt, hc 0 _ rfl, hb⟩
theorem awk2 (w : World) : Calls Tryz.prog 29 #[.slice (some ⟨w.heap.size, 0, none⟩) 3 3] (w.alloc (.cells #[.string ⟨#[97, 98]⟩, .string ⟨#[98, 99]⟩, .string ⟨#[97, 99]⟩] 9)) fun e w' =>
    e = .returned (.tuple #[.string ⟨#[97, 98, 65, 66, 97, 99, 65, 67, 98, 99, 66, 67]⟩, .int .i64 0]) ∧ Below w.heap.size w w' := by
  have h := Hang_any (.slice (some ⟨w.heap.size, 0, none⟩) 3 3) [strB [97, 98], strB [98, 99], strB [97, 99]] (w.alloc (.cells #[.string ⟨#[97, 98]⟩, .string ⟨#[98, 99]⟩, .string ⟨#[97, 99]⟩] 9)) (Strs.lit w 9 [strB [97, 98], strB [98, 99], strB [97, 99]] (by simp)) (by simp) (by simp) (by
    intro s hs
    simp at hs
    rcases hs with rfl | rfl | rfl <;> exact ⟨by decide, by rw [size_str]; simp⟩) (by
    intro s hs
    simp at hs
    rcases hs with rfl | rfl | rfl <;> simp [bts]) awk_union
  rw [show [strB [97, 98], strB [98, 99], strB [97, 99]].map markB = [marksOf [97, 98], marksOf [98, 99], marksOf [97, 99]] from rfl, awk_hang] at h
  refine h.mono ?_
  rintro e w' ⟨rfl, hb⟩
  exact ⟨rfl, ((Below.refl _ _).alloc (Nat.le_refl _) _).trans (hb.mono (by simp))⟩
theorem awk3 (w : World) : Calls Tryz.prog 8 #[.string ⟨#[97, 98, 65, 66, 97, 99, 65, 67, 98, 99, 66, 67]⟩, .string ⟨#[97, 98]⟩] w fun e w' => e = .returned (.tuple #[.bool true, .int .i64 0]) ∧ Below w.heap.size w w' := by
  have h := Falls_any (strB [97, 98, 65, 66, 97, 99, 65, 67, 98, 99, 66, 67]) (strB [97, 98]) w (by rw [size_str]; simp) (word_zero (by decide) (by simp)) (by decide)
  rw [show bts (strB [97, 98, 65, 66, 97, 99, 65, 67, 98, 99, 66, 67]) = [97, 98, 65, 66, 97, 99, 65, 67, 98, 99, 66, 67] from rfl, show bts (strB [97, 98]) = [97, 98] from rfl, awk_falls] at h
  exact h
theorem awk4 (w : World) : Calls Tryz.prog 8 #[.string ⟨#[97, 98, 65, 66, 97, 99, 65, 67, 98, 99, 66, 67]⟩, .string ⟨#[97]⟩] w fun e w' => e = .returned (.tuple #[.bool false, .int .i64 0]) ∧ Below w.heap.size w w' := by
  have h := Falls_any (strB [97, 98, 65, 66, 97, 99, 65, 67, 98, 99, 66, 67]) (strB [97]) w (by rw [size_str]; simp) (word_zero (by decide) (by simp)) (by decide)
  rw [show bts (strB [97, 98, 65, 66, 97, 99, 65, 67, 98, 99, 66, 67]) = [97, 98, 65, 66, 97, 99, 65, 67, 98, 99, 66, 67] from rfl, show bts (strB [97]) = [97] from rfl, awk_stays] at h
  exact h
theorem awk5 (w : World) : Calls Tryz.prog 30 #[.string ⟨#[98, 97, 97, 66]⟩] w fun e w' => e = .returned (.tuple #[.string ⟨#[98, 97, 66]⟩, .int .i64 2, .int .i64 0]) ∧ Below w.heap.size w w' := by
  have h := Root_any (strB [98, 97, 97, 66]) w (word_zero (by decide) (by simp)) (by rw [show bts (strB [98, 97, 97, 66]) = [98, 97, 97, 66] from rfl, awk_red]; simp)
  rw [show bts (strB [98, 97, 97, 66]) = [98, 97, 97, 66] from rfl, awk_red, awk_root.1, awk_root.2] at h
  exact h

set_option maxRecDepth 100000 in
set_option maxHeartbeats 1000000 in
theorem awake_any (w : World) : Calls Tryz.prog 17 #[] w fun e w' => e = .returned (.bool true) ∧ Below w.heap.size w w' := by
  have H1 := Lib.hid awk1
  have H2 := Lib.hid awk2
  have H3 := Lib.hid awk3
  have H4 := Lib.hid awk4
  have H5 := Lib.hid awk5
  go_enter Tryz.func17, Tryz.ntmps17
  go_wp2_with (go_at_call 28; refine (H1.out _).mono ?_)
  rintro e w1 ⟨b, o, c, rfl, hc1, hc2, hlt, hcell, hb1⟩
  have HB1 := Lib.hid hb1
  have HC := Lib.hid hcell
  clear hb1 hcell
  go_wp2_with (first
    | (go_at_call 29; ((with_reducible refine (H2.out _).mono ?_); rintro e w2 ⟨rfl, hb2⟩))
    | (go_at_call 8; ((with_reducible refine (H3.out _).mono ?_); rintro e w3 ⟨rfl, hb3⟩))
    | (go_at_call 8; ((with_reducible refine (H4.out _).mono ?_); rintro e w4 ⟨rfl, hb4⟩))
    | (go_at_call 30; ((with_reducible refine (H5.out _).mono ?_))))
  rintro e w5 ⟨rfl, hb5⟩
  have hb12 := hb2
  have hb14 := (hb12.trans (hb3.mono hb12.size))
  have hb15 := (hb14.trans (hb4.mono hb14.size))
  have hb16 := (hb15.trans (hb5.mono hb15.size))
  have hcell5 := (hb16.cell (p := ⟨b, o, none⟩) hlt).trans HC.out
  have HF := Lib.hid (HB1.out.trans (hb16.mono HB1.out.size))
  clear hb2 hb3 hb4 hb5 hb12 hb14 hb15 hb16 hlt
  go_wp2_with fail
  go_ret
  exact ⟨rfl, HF.out⟩
end Go.Proofs.YtjdmmgaddbleeaaGreat
