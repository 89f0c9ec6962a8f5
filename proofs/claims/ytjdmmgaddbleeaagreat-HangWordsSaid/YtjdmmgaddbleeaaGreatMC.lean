/- Inverses: the program's turned: the walks. -/
import Derived.Test.YtjdmmgaddbleeaaGreatMB
import Derived.Lib.BufferMore
import Derived.Lib.ConvBytes
import Derived.Test.YtjdmmgaddbleeaaGreatMA
namespace Go.Proofs.YtjdmmgaddbleeaaGreat
open Go.RowKit Go.BigFrame

/-- block g holds the bytes cs, which may be written -/
def RowB (w : World) (g : Nat) (cs : List UInt8) : Prop :=
  ∃ (cur : Array Value) (fr : Nat × Nat), w.heap[g]? = some (.cells cur 5 fr) ∧ cs.length ≤ fr.1 ∧ cs.length ≤ cur.size ∧ cur.toList.take cs.length = B8s cs
theorem RowB.lt {w : World} {g : Nat} {cs : List UInt8} (h : RowB w g cs) : g < w.heap.size := by
  obtain ⟨cur, fr, hg, _⟩ := h
  exact (Array.getElem?_eq_some_iff.1 hg).1
theorem RowB.cell {w : World} {g : Nat} {cs : List UInt8} (h : RowB w g cs) {j : Nat} {c : UInt8} (hj : cs[j]? = some c) : w.cell? ⟨g, j, none⟩ = some (.int .u8 (c.toNat : Int)) := by
  obtain ⟨cur, fr, hg, h1, h2, h3⟩ := h
  rw [cell_of_row w g j cur 5 fr hg]
  have h4 : (B8s cs)[j]? = some (.int .u8 (c.toNat : Int)) := by simp [B8s, hj]
  rw [← h3, List.getElem?_take] at h4
  split at h4
  · simpa using h4
  · cases h4
theorem RowB.free {w : World} {g : Nat} {cs : List UInt8} (h : RowB w g cs) {j : Nat} (hj : j < cs.length) : w.frozen? ⟨g, j, none⟩ = false := by
  obtain ⟨cur, fr, hg, h1, h2, h3⟩ := h
  simp [World.frozen?, hg]
  omega
theorem RowB.set {w : World} {g : Nat} {cs : List UInt8} (h : RowB w g cs) (j : Nat) (c : UInt8) : RowB (w.setCell ⟨g, j, none⟩ (.int .u8 (c.toNat : Int))) g (cs.set j c) := by
  obtain ⟨cur, fr, hg, h1, h2, h3⟩ := h
  refine ⟨_, fr, Lib.heap_setCell_same hg _, by simpa using h1, by simpa using h2, ?_⟩
  rw [Array.toList_setIfInBounds, List.length_set, List.take_set, h3]
  simp [B8s, List.map_set]
theorem RowB.drewN {w : World} {g : Nat} {cs : List UInt8} (h : RowB w g cs) (n : Nat) : RowB (w.drewN n) g cs := h
theorem RowB.keep {w w' : World} {g : Nat} {cs : List UInt8} (h : RowB w g cs) (hb : Below w.heap.size w w') : RowB w' g cs := by
  have hl := h.lt
  obtain ⟨cur, fr, hg, rest⟩ := h
  exact ⟨cur, fr, (hb.block g hl).trans hg, rest⟩
theorem conv_bytes (w : World) (s : ByteArray) : ∃ cap W, (convert 9 50 (.string s)).run Tryz.prog w = .ok (.slice (some ⟨w.heap.size, 0, none⟩) s.size cap) W ∧ s.size ≤ cap ∧ RowB W w.heap.size (bts s) ∧ Below w.heap.size w W ∧ W.heap.size = w.heap.size + 1 := by
  refine ⟨_, _, Lib.run_convert_string_bytes w 9 50 5 s Tryz.underlying9 Tryz.underlying50 Tryz.underlying5, grownCap_ge w s.size 0 5, ⟨_, _, Lib.bytesWorld_at_new w 5 s, ?_, ?_, ?_⟩, ?_, Lib.bytesWorld_size w 5 s⟩
  · simp [Lib.bytesCells]
  · simp [Lib.bytesCells]
  · simp [Lib.bytesCells, B8s]
  · exact ⟨rfl, rfl, rfl, by rw [Lib.bytesWorld_size]; omega, fun k hk => Lib.bytesWorld_at_old w 5 s k hk⟩
theorem conv_row {w : World} {g n cap : Nat} {cs : List UInt8} (h : RowB w g cs) (hn : cs.length = n) : (convert 50 9 (.slice (some ⟨g, 0, none⟩) n cap)).run Tryz.prog w = .ok (.string (strB cs)) w := by
  have hbt : Lib.Bytes w g 0 (strB cs) := by
    intro i hi
    have hi2 : i < cs.length := hi
    have := h.cell (j := i) (c := cs[i]'hi2) (List.getElem?_eq_getElem hi2)
    rw [Nat.zero_add, this]
    simp [ByteArray.getElem_eq_getElem_data]
  subst hn
  exact Lib.run_convert_whole w 50 5 9 Tryz.underlying50 Tryz.underlying5 Tryz.underlying9 g 0 (strB cs) hbt cap

/-- the first i, and the last i, exchanged -/
def revTo (cs : List UInt8) : Nat → List UInt8
  | 0 => cs
  | i + 1 => ((revTo cs i).set i ((revTo cs i)[cs.length - 1 - i]?.getD 0)).set (cs.length - 1 - i) ((revTo cs i)[i]?.getD 0)
theorem revTo_len (cs : List UInt8) : ∀ i, (revTo cs i).length = cs.length
  | 0 => rfl
  | i + 1 => by rw [revTo, List.length_set, List.length_set, revTo_len cs i]
theorem revTo_get (cs : List UInt8) : ∀ i, 2 * i ≤ cs.length + 1 → ∀ j, j < cs.length → (revTo cs i)[j]? = if j < i ∨ cs.length - 1 - i < j then cs[cs.length - 1 - j]? else cs[j]?
  | 0, _, j, hj => by rw [revTo, if_neg (by omega)]
  | i + 1, hi, j, hj => by
    have ih := revTo_get cs i (by omega)
    have hl := revTo_len cs i
    have e1 := ih i (by omega)
    rw [if_neg (by omega)] at e1
    have e2 := ih (cs.length - 1 - i) (by omega)
    rw [if_neg (by omega)] at e2
    rw [revTo, List.getElem?_set, List.length_set, hl, e1, e2]
    by_cases h1 : cs.length - 1 - i = j
    · rw [if_pos h1, if_pos (by omega), if_pos (by omega)]
      have : cs.length - 1 - j = i := by omega
      rw [this, List.getElem?_eq_getElem (by omega)]
      rfl
    · rw [if_neg h1, List.getElem?_set, hl]
      by_cases h2 : i = j
      · rw [if_pos h2, if_pos (by omega), if_pos (by omega)]
        subst h2
        rw [List.getElem?_eq_getElem (by omega)]
        rfl
      · rw [if_neg h2, ih j hj]
        by_cases h3 : j < i ∨ cs.length - 1 - i < j
        · rw [if_pos h3, if_pos (by omega)]
        · rw [if_neg h3, if_neg (by omega)]
theorem revTo_end {cs : List UInt8} {i : Nat} (h1 : cs.length ≤ 2 * i + 1) (h2 : 2 * i ≤ cs.length + 1) : revTo cs i = cs.reverse := by
  apply List.ext_getElem?
  intro j
  by_cases hj : j < cs.length
  · rw [revTo_get cs i h2 j hj, List.getElem?_reverse hj]
    split
    · rfl
    · congr 1; omega
  · rw [List.getElem?_eq_none (by rw [revTo_len]; omega), List.getElem?_eq_none (by rw [List.length_reverse]; omega)]

set_option maxRecDepth 100000 in
set_option maxHeartbeats 4000000 in
theorem reverse_any (g cap n : Nat) (cs : List UInt8) (w : World) (hr : RowB w g cs) (hn : cs.length = n) (h2 : n ≤ 9223372036854775807) (B : Nat) (hB : B ≤ g) :
    Calls Tryz.prog 31 #[.slice (some ⟨g, 0, none⟩) n cap] w fun e w' => e = .returned (.tuple #[]) ∧ RowB w' g cs.reverse ∧ Below B w w' := by
  have HR := Lib.hid hr
  have HN := Lib.hid hn
  clear hr hn
  go_enter Tryz.func31, Tryz.ntmps31
  go_wp2_with fail
  go_loopw [2, 3] (fun iv jv wr => ∃ i : Nat, 2 * i ≤ n + 1 ∧ iv = .int .i64 i ∧ jv = .int .i64 ((n : Int) - 1 - i) ∧ Hid (RowB wr g (revTo cs i)) ∧ Below B w wr) (fun iv _ _ => n - (intOf iv).toNat)
  case atStart => exact ⟨0, by omega, rfl, by go_num, HR, Below.refl _ _⟩
  case round =>
    clear HR
    obtain ⟨i, hi, rfl, rfl, HR, hBB⟩ := hrel
    by_cases hlt : (i : Int) < (n : Int) - 1 - i
    · have hl := revTo_len cs i
      rw [HN.out] at hl
      obtain ⟨k, hk⟩ : ∃ k : Nat, k = n - 1 - i := ⟨_, rfl⟩
      have hki : (n : Int) - 1 - i = k := by omega
      rw [hki] at hlt ⊢
      obtain ⟨x, hx⟩ : ∃ x, (revTo cs i)[i]? = some x := ⟨_, List.getElem?_eq_getElem (by omega)⟩
      obtain ⟨y, hy⟩ : ∃ y, (revTo cs i)[k]? = some y := ⟨_, List.getElem?_eq_getElem (by omega)⟩
      have cx := HR.out.cell hx
      have cy := HR.out.cell hy
      have fx := HR.out.free (j := i) (by omega)
      have fy := HR.out.free (j := k) (by omega)
      have hst : revTo cs (i + 1) = ((revTo cs i).set i y).set k x := by rw [revTo, HN.out, ← hk, hx, hy]; rfl
      have hgl := HR.out.lt
      have HST := Lib.hid hst
      have HKI := Lib.hid hki
      have HK := Lib.hid hk
      have hkn : k < n := by omega
      have hkn2 : (k : Int) < n := by omega
      clear hst hx hy hl hki hk
      go_upto_region 3 with fail
      go_region
      have HN1 : Hid ((n : Int) - 1 - ((i + 1 : Nat) : Int) = (k : Int) - 1) := by show _ = _; have := HKI.out; omega
      have HI1 : Hid (2 * (i + 1) ≤ n + 1) := by show _ ≤ _; have := HKI.out; omega
      go_wp2_with fail
      go_roundw
      case rel => exact ⟨i + 1, HI1.out, by go_num, by rw [HN1.out], by show Hid _; rw [HST.out]; exact ((HR.out.drewN 1).set i y).set k x, ((hBB.setCell (p := ⟨g, i, none⟩) hB _).setCell (p := ⟨g, k, none⟩) hB _).drewN' 1⟩
      case measure => simp [intOf]; omega
    · have he : revTo cs i = cs.reverse := revTo_end (by rw [HN.out]; omega) (by rw [HN.out]; exact hi)
      rw [he] at HR
      clear he
      go_wp2_with fail
      go_end0
      exact ⟨rfl, HR.out, hBB⟩

end Go.Proofs.YtjdmmgaddbleeaaGreat

/- Inverses: the program's turned: the walk. -/
namespace Go.Proofs.YtjdmmgaddbleeaaGreat
open Go.RowKit

theorem set_step {l : List UInt8} {k : Nat} {x : UInt8} (f : UInt8 → UInt8) (h : l[k]? = some x) : ((l.take k).map f ++ l.drop k).set k (f x) = (l.take (k + 1)).map f ++ l.drop (k + 1) := by
  obtain ⟨hk, rfl⟩ := List.getElem?_eq_some_iff.1 h
  rw [List.drop_eq_getElem_cons hk, List.set_append_right _ _ (by simp; omega)]
  have e : k - ((l.take k).map f).length = 0 := by simp; omega
  rw [e, List.set_cons_zero, List.take_add_one, h, List.map_append]
  simp
theorem get_step {l : List UInt8} {k : Nat} {x : UInt8} (f : UInt8 → UInt8) (h : l[k]? = some x) : ((l.take k).map f ++ l.drop k)[k]? = some x := by
  obtain ⟨hk, rfl⟩ := List.getElem?_eq_some_iff.1 h
  rw [List.getElem?_append_right (by simp; omega)]
  have e : k - ((l.take k).map f).length = 0 := by simp; omega
  rw [e, List.drop_eq_getElem_cons hk]
  rfl

set_option maxRecDepth 100000 in
set_option maxHeartbeats 1000000 in
theorem turned_any (s : ByteArray) (w : World) (hs : s.size ≤ 1000000000) :
    Calls Tryz.prog 21 #[.string s] w fun e w' => e = .returned (.string (strB (invL (bts s)))) ∧ Below w.heap.size w w' := by
  obtain ⟨cap, W, hcv, hcap, hrow, hBW, hsz⟩ := conv_bytes w s
  have hlr : (bts s).reverse.length = s.size := by simp
  have hrv := reverse_any w.heap.size cap s.size (bts s) W hrow (bts_len s) (by omega) w.heap.size (Nat.le_refl _)
  have hinv : ((bts s).reverse.take s.size).map invB ++ (bts s).reverse.drop s.size = invL (bts s) := by
    rw [List.take_of_length_le (by omega), List.drop_of_length_le (by omega), List.append_nil, invL, List.map_reverse]
  generalize (bts s).reverse = l at *
  have HRV := Lib.hid hrv
  have HINV := Lib.hid hinv
  have HLR := Lib.hid hlr
  have HBW := Lib.hid hBW
  have HROW := Lib.hid hrow
  clear hrv hinv hlr hBW hrow
  go_enter Tryz.func21, Tryz.ntmps21
  go_wp2_with (go_at_call 31; refine HRV.out.mono ?_; rintro e w2 ⟨rfl, hr2, hb2⟩)
  have hB2 := HBW.out.trans hb2
  go_loopw [12] (fun iv wr => ∃ k : Nat, k ≤ s.size ∧ iv = .int .i64 k ∧ Hid (RowB wr w.heap.size ((l.take k).map invB ++ l.drop k)) ∧ Below w.heap.size w wr) (fun iv _ => s.size - (intOf iv).toNat)
  case atStart => exact ⟨0, by omega, rfl, by show Hid _; simpa [Hid] using hr2, hB2⟩
  case round =>
    clear hr2 hb2 hB2
    obtain ⟨k, hk, rfl, HR, hB⟩ := hrel
    by_cases hlt : k < s.size
    · obtain ⟨x, hx⟩ : ∃ x, l[k]? = some x := ⟨_, List.getElem?_eq_getElem (by have := HLR.out; omega)⟩
      have hst := set_step invB hx
      have cx := HR.out.cell (get_step invB hx)
      have fx := HR.out.free (j := k) (by have := HLR.out; simp; omega)
      have hset := HR.out.set k (invB x)
      rw [hst] at hset
      have hiv := fun W => inverse_any x W
      have HSET := Lib.hid hset
      have HIV := Lib.hid hiv
      have hgl := HR.out.lt
      clear hst hset hiv hx
      go_wp2_with (go_at_call 32; refine (HIV.out _).mono ?_; rintro e w3 ⟨rfl, rfl⟩)
      go_roundw
      case rel => exact ⟨k + 1, by omega, by go_num, HSET, hB.setCell (p := ⟨w.heap.size, k, none⟩) (Nat.le_refl _) _⟩
      case measure => simp [intOf]; omega
    · obtain rfl : k = s.size := by omega
      rw [HINV.out] at HR
      have hcv2 := conv_row (n := s.size) (cap := cap) HR.out (by rw [invL_len, bts_len])
      clear hcv
      go_wp2_with fail
      go_ret
      exact ⟨rfl, hB⟩
end Go.Proofs.YtjdmmgaddbleeaaGreat

/- Inverse, Contains, the law's same, and the reference's Falls: the walks. -/
namespace Go.Proofs.YtjdmmgaddbleeaaGreat
open Go.RowKit

/-- what Inverse answers -/
theorem Inverse_any (s : ByteArray) (w : World) (hs : s.size ≤ 9223372036854775807) :
    Calls Tryz.prog 7 #[.string s] w fun e w' => e = .returned (.tuple #[.string (if wordErr s = 0 then strB (invL (bts s)) else ⟨#[]⟩), .int .i64 (wordErr s)]) ∧ Below w.heap.size w w' := by
  have hck := check_any s w hs
  rcases err_cases s with h0 | h0
  · obtain ⟨h1, h2⟩ := word_size h0
    have hpr := fun W => turned_any s W (by omega)
    rw [h0] at hck ⊢
    rw [if_pos rfl]
    generalize invL (bts s) = R at *
    have HCK := Lib.hid hck
    have HPR := Lib.hid hpr
    clear hck hpr h0 h1 h2
    go_enter Tryz.func7, Tryz.ntmps7
    go_wp2_with (first
      | (go_at_call 21; refine (HPR.out _).mono ?_; rintro e w2 ⟨rfl, hb2⟩)
      | (go_at_call 5; refine HCK.out.mono ?_; rintro e w1 ⟨rfl, hb1⟩))
    go_ret2
    exact ⟨rfl, hb1.trans (hb2.mono hb1.size)⟩
  · have hne : wordErr s ≠ 0 := by omega
    have t0 : (wordErr s != 0) = true := by simpa using hne
    rw [if_neg hne]
    generalize wordErr s = E at *
    have HCK := Lib.hid hck
    clear hck hne h0
    go_enter Tryz.func7, Tryz.ntmps7
    go_wp2_with (go_at_call 5; refine HCK.out.mono ?_; rintro e w1 ⟨rfl, hb1⟩)
    go_ret2
    exact ⟨rfl, hb1⟩

/-- whether all of t is in s -/
def inL (s t : List UInt8) : Bool := t.all fun c => s.contains c
/-- with a set of nails pulled -/
def leftL (p l : List UInt8) : List UInt8 := l.filter fun c => !p.contains (lowB c)
theorem left_drop {p : List UInt8} {s : ByteArray} {k : Nat} (h : k < s.size) : leftL p ((bts s).drop k) = (if p.contains (lowB (s[k]'h)) then [] else [s[k]'h]) ++ leftL p ((bts s).drop (k + 1)) := by
  rw [drop_bts h, leftL, List.filter_cons]
  cases p.contains (lowB (s[k]'h)) <;> rfl
theorem left_red (p l : List UInt8) (f : Nat → Bool) (hf : ∀ c ∈ l, f (nailB c) = p.contains (lowB c)) : redL f l = redW (leftL p l) := by
  have : ∀ (l acc : List UInt8), (∀ c ∈ l, f (nailB c) = p.contains (lowB c)) → l.foldl (stepR f) acc = (leftL p l).foldl (stepR fun _ => false) acc := by
    intro l
    induction l with
    | nil => intro acc _; rfl
    | cons c l ih =>
      intro acc h
      have h1 := h c (by simp)
      rw [List.foldl_cons, ih _ (fun d hd => h d (by simp [hd])), show leftL p (c :: l) = (if (!p.contains (lowB c)) = true then c :: leftL p l else leftL p l) from List.filter_cons, stepR, h1]
      cases p.contains (lowB c) <;> rfl
  exact this l [] hf
theorem left_word {p : List UInt8} {l : List UInt8} (h : isWord l = true) : isWord (leftL p l) = true := by
  unfold isWord at *
  rw [List.all_eq_true] at *
  exact fun c hc => h c ((List.mem_filter.1 hc).1)
/-- whether it falls -/
def fallsL (p l : List UInt8) : Bool := (redW (leftL p l)).isEmpty

set_option maxRecDepth 100000 in
set_option maxHeartbeats 2000000 in
theorem rFalls_any (s p : ByteArray) (w : World) (hw : isWord (bts s) = true) (hs : s.size < 100000000) (hp : p.size ≤ 9223372036854775807) :
    Calls Tryz.prog 13 #[.string s, .string p] w fun e w' => e = .returned (.bool (fallsL (bts p) (bts s))) ∧ Below w.heap.size w w' := by
  have hf : ∀ b, fallsL (bts p) (bts s) = b → Ending.returned (.bool b) = Ending.returned (.bool (fallsL (bts p) (bts s))) := fun b h => by rw [h]
  have HF := Lib.hid hf
  have HW := Lib.hid hw
  have hll : (leftL (bts p) (bts s)).length ≤ s.size := by rw [← bts_len s]; exact List.length_filter_le _ _
  have hrr := fun W => rReduce_any (strB (leftL (bts p) (bts s))) W (left_word hw) (by rw [size_str]; omega)
  rw [bts_str] at hrr
  have HRR := Lib.hid hrr
  clear hf hw hrr hll
  go_enter Tryz.func13, Tryz.ntmps13
  go_wp2_with (refine wpList_makeB (base := w.heap.size) Tryz.info5 Tryz.underlying50 (Nat.le_refl _) rfl _ _ rfl s.size rfl rfl rfl (by omega) ?_; intro w1 hown1 hb1 hz1)
  have HO := Lib.hid hown1
  have HB := Lib.hid hb1
  clear hown1 hb1
  go_loopw [5, 6] (fun ov iv wr => ∃ (k : Nat) (bs : List UInt8), k ≤ s.size ∧ iv = .int .i64 k ∧ bs.length ≤ k ∧ Hid (OwnB wr w.heap.size ov bs) ∧ Below w.heap.size w wr ∧ Hid (leftL (bts p) (bts s) = bs ++ leftL (bts p) ((bts s).drop k))) (fun _ iv _ => s.size - (intOf iv).toNat)
  case atStart => exact ⟨0, [], by omega, rfl, by simp, HO, HB.out, (show Hid (_ = _) from rfl)⟩
  case round =>
    clear HO HB
    obtain ⟨k, bs, hk, rfl, hbl, HO, hB, HA⟩ := hrel
    have hsz := hB.size
    by_cases hlt : k < s.size
    · have hlet := letter_at HW.out hlt
      have hna := fun W => rNail_any (s[k]'hlt) W hlet
      have hst := left_drop (p := bts p) hlt
      have hha := fun W => has_any p (lowB (s[k]'hlt)) W hp
      obtain ⟨oa, oc, rfl, _, _⟩ := HO.out.shape rfl
      cases hc : (bts p).contains (lowB (s[k]'hlt))
      · rw [hc] at hst hha
        have hl9 : bs.length < 1000000000 := by omega
        have HST := Lib.hid hst
        have HNA := Lib.hid hna
        have HHA := Lib.hid hha
        have HL := Lib.hid hl9
        clear hst hna hha hc hlet hl9
        go_wp2_with (first
          | (go_at_call 27; refine (HNA.out _).mono ?_; rintro e w2 ⟨rfl, rfl⟩)
          | (go_at_call 26; refine (HHA.out _).mono ?_; rintro e w3 ⟨rfl, rfl⟩)
          | (at_builtin; refine wpList_appB Tryz.info5 Tryz.underlying50 HO.out (by simpa using hsz) HL.out rfl _ _ rfl (c := s[k]'hlt) rfl rfl ?_; intro v6 w6 hown6 hgrow6 hb6))
        go_roundw
        case rel => exact ⟨k + 1, bs ++ [s[k]'hlt], by omega, by go_num, by simp; omega, hown6, hB.trans hb6, by show _ = _; rw [HA.out, HST.out, List.append_assoc]; rfl⟩
        case measure => simp [intOf]; omega
      · rw [hc] at hst hha
        have HST := Lib.hid hst
        have HNA := Lib.hid hna
        have HHA := Lib.hid hha
        clear hst hna hha hc hlet
        go_wp2_with (first
          | (go_at_call 27; refine (HNA.out _).mono ?_; rintro e w2 ⟨rfl, rfl⟩)
          | (go_at_call 26; refine (HHA.out _).mono ?_; rintro e w3 ⟨rfl, rfl⟩))
        go_roundw
        case rel => exact ⟨k + 1, bs, by omega, by go_num, by omega, HO, hB, by show _ = _; rw [HA.out, HST.out]; rfl⟩
        case measure => simp [intOf]; omega
    · obtain rfl : k = s.size := by omega
      have hF2 : leftL (bts p) (bts s) = bs := by rw [HA.out, List.drop_of_length_le (by rw [bts_len]; exact Nat.le_refl _)]; simp [leftL]
      rw [hF2] at HRR
      have hcv := conv_own HO.out
      obtain ⟨oa, oc, rfl, _, _⟩ := HO.out.shape rfl
      have hfx : fallsL (bts p) (bts s) = (redW bs).isEmpty := by rw [fallsL, hF2]
      have HFX := Lib.hid hfx
      clear hfx hF2 HA HF
      go_wp2_with (go_at_call 10; refine (HRR.out _).mono ?_; rintro e w2 ⟨rfl, hb2⟩)
      go_ret
      refine ⟨?_, hB.trans (hb2.mono hsz)⟩
      rw [HFX.out]
      rfl
end Go.Proofs.YtjdmmgaddbleeaaGreat

/- Sets of nails read: the walk of setOf. -/
namespace Go.Proofs.YtjdmmgaddbleeaaGreat
open Go.RowKit

theorem Tryz.size45 : (Tryz.prog.info? 45).map (·.size) = some 26 := by kernel_rfl
/-- a set: small letters, rising -/
def isSet : Int → List UInt8 → Bool
  | _, [] => true
  | last, c :: l => decide (97 ≤ (c.toNat : Int)) && decide ((c.toNat : Int) ≤ 122) && decide (last < (c.toNat : Int)) && isSet c.toNat l
def marksOf (l : List UInt8) (i : Nat) : Bool := l.any fun c => c.toNat == 97 + i
theorem ret61 {w : World} {tmps : Array Value} {g : Nat} {M : List Value} (hM : M.length = 26) (hp : tmps.getD 2 undef = .pointer (some ⟨g, 0, none⟩)) (hb : Blk w g 45 M) : (results Tryz.f22 tmps).run Tryz.prog w = .ok (.tuple #[.agg M.toArray, tmps.getD 3 undef]) w := by
  rw [results_cell_tmp (fn := Tryz.f22) (p := 2) (u := 3) (ty := 45) rfl, hp]
  simp [asAddr, run_loadVar_row w g 45 45 M.toArray (0, 0) _ hb Tryz.underlying45 rfl (by rw [Tryz.size45]; simp [hM])]

theorem marks_len (f : Nat → Bool) : (marksL f).length = 26 := by simp [marksL]
theorem marks_one (f : Nat → Bool) : ∀ v ∈ marksL f, v.oneCell' = true := by
  intro v hv
  simp [marksL] at hv
  obtain ⟨a, _, rfl⟩ := hv
  rfl
theorem isSet_at {s : ByteArray} {k : Nat} (h : k < s.size) (last : Int) : isSet last ((bts s).drop k) = (decide (97 ≤ ((s[k]'h).toNat : Int)) && decide (((s[k]'h).toNat : Int) ≤ 122) && decide (last < ((s[k]'h).toNat : Int)) && isSet (s[k]'h).toNat ((bts s).drop (k + 1))) := by
  rw [drop_bts h, isSet]
def orM (f : Nat → Bool) (j : Nat) (i : Nat) : Bool := f i || i == j
theorem marks_set (f : Nat → Bool) (j : Nat) : (marksL f).set j (.bool true) = marksL (orM f j) := by
  apply List.ext_getElem?
  intro i
  simp only [marksL, List.getElem?_set, List.getElem?_map, List.length_map, List.length_range]
  by_cases hi : i < 26
  · by_cases hj : j = i
    · subst hj; simp [hi, orM]
    · rw [if_neg hj, List.getElem?_range hi]
      have : (i == j) = false := by simp; omega
      simp [orM, this]
  · rw [List.getElem?_eq_none (l := List.range 26) (by simpa using hi)]
    by_cases hj : j = i
    · subst hj; simp [hi]
    · simp [hj]
theorem marksOf_snoc (l : List UInt8) (c : UInt8) (h : 97 ≤ c.toNat) : marksOf (l ++ [c]) = orM (marksOf l) (c.toNat - 97) := by
  funext i
  unfold marksOf orM
  rw [List.any_append]
  congr 1
  simp only [List.any_cons, List.any_nil, Bool.or_false]
  rw [Bool.eq_iff_iff]
  simp
  omega
theorem take_bts {s : ByteArray} {k : Nat} (h : k < s.size) : (bts s).take (k + 1) = (bts s).take k ++ [s[k]'h] := by
  rw [List.take_add_one, bts_get h]; rfl

abbrev zeroV : Value := .agg #[.bool false, .bool false, .bool false, .bool false, .bool false, .bool false, .bool false, .bool false, .bool false, .bool false, .bool false, .bool false, .bool false, .bool false, .bool false, .bool false, .bool false, .bool false, .bool false, .bool false, .bool false, .bool false, .bool false, .bool false, .bool false, .bool false]
theorem zero_marks : zeroV = .agg (marksL fun _ => false).toArray := by simp [marksL, List.range, List.range.loop]
/-- what setOf gives for nails -/
def setV (l : List UInt8) : Value := nailsV (if isSet 0 l then marksOf l else fun _ => false)
set_option maxRecDepth 100000 in
set_option maxHeartbeats 400000 in
theorem setOf_any (s : ByteArray) (w : World) (hs : s.size ≤ 9223372036854775807) :
    Calls Tryz.prog 22 #[.string s] w fun e w' => e = .returned (.tuple #[setV (bts s), .bool (isSet 0 (bts s))]) ∧ Below w.heap.size w w' := by
  have hb0 : Blk (w.alloc (.cells (marksL (fun _ => false)).toArray 45)) w.heap.size 45 (marksL (fun _ => false)) := Blk.new w 45 _
  have HB0 := Lib.hid hb0
  clear hb0
  go_enter Tryz.func22, Tryz.ntmps22
  go_wp2_with fail
  go_loopw [4] (fun lv wr => ∃ (k : Nat) (last : Int), k ≤ s.size ∧ lv = .int .i32 last ∧ 0 ≤ last ∧ last ≤ 122 ∧ wr.heap[w.heap.size + 1]? = some (.stringIter s k) ∧ Hid (Blk wr w.heap.size 45 (marksL (marksOf ((bts s).take k)))) ∧ Below w.heap.size w wr ∧ Hid (isSet 0 (bts s) = isSet last ((bts s).drop k))) (fun _ wr => s.size - wr.iterPos (w.heap.size + 1))
  case atStart => exact ⟨0, 0, by omega, rfl, by omega, by omega, by have := World.iter_heap (w.alloc (.cells (marksL (fun _ => false)).toArray 45)) s 0; rw [World.size_alloc] at this; exact this, (show Hid _ from HB0.out.alloc _), ((Below.refl _ _).alloc (Nat.le_refl _) _).alloc (by simp) _, (show Hid (_ = _) from rfl)⟩
  case round =>
    clear HB0
    obtain ⟨k, last, hk, rfl, hl0, hl1, hit, HBK, hB, HA⟩ := hrel
    have hsz := hB.size
    by_cases hlt : k < s.size
    · have hst := isSet_at hlt last
      by_cases ha : (s[k]'hlt).toNat < 128
      · have hnx0 := fun ty => Lib.run_next_ascii_at (P := Tryz.prog) wr (w.heap.size + 1) s k ty hit hlt ha
        have hit2 := Lib.iterAt_heap wr (w.heap.size + 1) s k (k + 1) hit
        have hB2 := Lib.below_iterAt hB (by omega : w.heap.size ≤ w.heap.size + 1) s (k + 1)
        have hbk2 : Blk (wr.iterAt (w.heap.size + 1) s (k + 1)) w.heap.size 45 (marksL (marksOf ((bts s).take k))) := (Lib.iterAt_other wr (w.heap.size + 1) w.heap.size s (k + 1) (by omega)).trans HBK.out
        have htk := take_bts hlt
        generalize hw2 : wr.iterAt (w.heap.size + 1) s (k + 1) = w2 at *
        obtain ⟨c, hc⟩ : ∃ c, s[k]'hlt = c := ⟨_, rfl⟩
        rw [hc] at hnx0 hst ha htk
        obtain ⟨n, hn⟩ : ∃ n, c.toNat = n := ⟨_, rfl⟩
        have hsn := marksOf_snoc ((bts s).take k) c
        rw [hn] at hnx0 hst ha hsn
        rw [← htk] at hsn
        have hnx : ∀ ty, (Instr.next (.pointer (some ⟨w.heap.size + 1, 0, none⟩)) true ty).run Tryz.prog wr = .ok (.tuple #[.bool true, .int .i64 k, .int .i32 (n : Nat)]) w2 := hnx0
        have hpos : wr.iterPos (w.heap.size + 1) = k := by simp only [World.iterPos, hit]
        have HPOS := Lib.hid hpos
        have HIT2 := Lib.hid hit2
        have HB2 := Lib.hid hB2
        have HBK := Lib.hid hbk2
        have HSN := Lib.hid hsn
        clear hnx0 hw2 hc hit2 hit hpos hB2 hbk2 hn hsn htk
        by_cases b1 : (n : Int) < 97
        · have HM := Lib.hid (marks_len fun _ => false)
          have HM1 := Lib.hid (marks_one fun _ => false)
          have hfin : isSet 0 (bts s) = false := by rw [HA.out, hst]; rw [decide_eq_false (by omega)]; rfl
          have hE : Ending.returned (.tuple #[.agg (marksL (fun _ => false)).toArray, .bool false]) = Ending.returned (.tuple #[setV (bts s), .bool (isSet 0 (bts s))]) := by rw [setV, hfin]; rfl
          have HE := Lib.hid hE
          clear hE hfin hst HA
          obtain ⟨M, hMM⟩ : ∃ M, marksL (fun _ => false) = M := ⟨_, rfl⟩
          have hz : zeroV = Value.agg M.toArray := by rw [← hMM]; exact zero_marks
          rw [hMM] at HM HM1 HE
          have HZ := Lib.hid hz
          have hll : (marksL (marksOf ((bts s).take k))).length = M.length := by rw [marks_len, HM.out]
          have HLL := Lib.hid hll
          clear hz hMM hll
          go_wp2_with (with_reducible show wpList _ _ _ (Oper.mk _ (Op.store 45 _ _) _ _ _ _ :: _) _ _; (refine wpList_storeB (vs := M) HBK.out Tryz.size45 HM.out HLL.out HM1.out rfl _ _ rfl rfl (by simpa [Act.eval] using HZ.out) ?_))
          have hbk2 := HBK.out.setAll (vs := M) HLL.out
          have hB2 := below_setCells (g := w.heap.size) (Nat.le_refl _) M 0 HB2.out
          exact bodyPost_ret (ret61 HM.out rfl hbk2) rfl ⟨HE.out, hB2⟩
        · by_cases b2 : (122 : Int) < n
          · have HM := Lib.hid (marks_len fun _ => false)
            have HM1 := Lib.hid (marks_one fun _ => false)
            have hfin : isSet 0 (bts s) = false := by rw [HA.out, hst]; rw [decide_eq_false (by omega : ¬ (n : Int) ≤ 122)]; simp
            have hE : Ending.returned (.tuple #[.agg (marksL (fun _ => false)).toArray, .bool false]) = Ending.returned (.tuple #[setV (bts s), .bool (isSet 0 (bts s))]) := by rw [setV, hfin]; rfl
            have HE := Lib.hid hE
            clear hE hfin hst HA
            obtain ⟨M, hMM⟩ : ∃ M, marksL (fun _ => false) = M := ⟨_, rfl⟩
            have hz : zeroV = Value.agg M.toArray := by rw [← hMM]; exact zero_marks
            rw [hMM] at HM HM1 HE
            have HZ := Lib.hid hz
            have hll : (marksL (marksOf ((bts s).take k))).length = M.length := by rw [marks_len, HM.out]
            have HLL := Lib.hid hll
            clear hz hMM hll
            go_wp2_with (with_reducible show wpList _ _ _ (Oper.mk _ (Op.store 45 _ _) _ _ _ _ :: _) _ _; (refine wpList_storeB (vs := M) HBK.out Tryz.size45 HM.out HLL.out HM1.out rfl _ _ rfl rfl (by simpa [Act.eval] using HZ.out) ?_))
            have hbk2 := HBK.out.setAll (vs := M) HLL.out
            have hB2 := below_setCells (g := w.heap.size) (Nat.le_refl _) M 0 HB2.out
            exact bodyPost_ret (ret61 HM.out rfl hbk2) rfl ⟨HE.out, hB2⟩
          · by_cases b3 : (n : Int) ≤ last
            · have HM := Lib.hid (marks_len fun _ => false)
              have HM1 := Lib.hid (marks_one fun _ => false)
              have hfin : isSet 0 (bts s) = false := by rw [HA.out, hst]; rw [decide_eq_false (by omega : ¬ last < (n : Int))]; simp
              have hE : Ending.returned (.tuple #[.agg (marksL (fun _ => false)).toArray, .bool false]) = Ending.returned (.tuple #[setV (bts s), .bool (isSet 0 (bts s))]) := by rw [setV, hfin]; rfl
              have HE := Lib.hid hE
              clear hE hfin hst HA
              obtain ⟨M, hMM⟩ : ∃ M, marksL (fun _ => false) = M := ⟨_, rfl⟩
              have hz : zeroV = Value.agg M.toArray := by rw [← hMM]; exact zero_marks
              rw [hMM] at HM HM1 HE
              have HZ := Lib.hid hz
              have hll : (marksL (marksOf ((bts s).take k))).length = M.length := by rw [marks_len, HM.out]
              have HLL := Lib.hid hll
              clear hz hMM hll
              go_wp2_with (with_reducible show wpList _ _ _ (Oper.mk _ (Op.store 45 _ _) _ _ _ _ :: _) _ _; (refine wpList_storeB (vs := M) HBK.out Tryz.size45 HM.out HLL.out HM1.out rfl _ _ rfl rfl (by simpa [Act.eval] using HZ.out) ?_))
              have hbk2 := HBK.out.setAll (vs := M) HLL.out
              have hB2 := below_setCells (g := w.heap.size) (Nat.le_refl _) M 0 HB2.out
              exact bodyPost_ret (ret61 HM.out rfl hbk2) rfl ⟨HE.out, hB2⟩
            · rw [decide_eq_true (by omega), decide_eq_true (by omega), decide_eq_true (by omega)] at hst
              simp only [Bool.true_and] at hst
              have hms := marks_set (marksOf ((bts s).take k)) (n - 97)
              rw [← HSN.out (by omega)] at hms
              have hset := HBK.out.set (n - 97) (.bool true)
              rw [hms] at hset
              have hcell := HBK.out.cell (marks_get (f := marksOf ((bts s).take k)) (i := n - 97) (by omega))
              have hfree := HBK.out.free (n - 97)
              have HST := Lib.hid hst
              have HSET := Lib.hid hset
              have hn97 : (n : Int) - 97 = ((n - 97 : Nat) : Int) := by omega
              clear hst hms hset HSN
              go_wp2_with fail
              go_roundw
              case rel => exact ⟨k + 1, n, by omega, rfl, by omega, by omega, (heap_setCell_other w2 ⟨w.heap.size, n - 97, none⟩ (w.heap.size + 1) _ (by simp)).trans HIT2.out, HSET, HB2.out.setCell (p := ⟨w.heap.size, n - 97, none⟩) (by simp) _, by show _ = _; rw [HA.out, HST.out]⟩
              case measure => rw [HPOS.out]; simp only [World.iterPos, (heap_setCell_other w2 ⟨w.heap.size, n - 97, none⟩ (w.heap.size + 1) (.bool true) (by simp)).trans HIT2.out]; omega
      · have r1 := decode_high s k hlt (by omega)
        have hnx0 := fun ty => Lib.run_next_any_at (P := Tryz.prog) wr (w.heap.size + 1) s k ty hit hlt
        have hB2 := Lib.below_iterAt hB (by omega : w.heap.size ≤ w.heap.size + 1) s (k + (Utf8.decode s k).2)
        have hbk2 : Blk (wr.iterAt (w.heap.size + 1) s (k + (Utf8.decode s k).2)) w.heap.size 45 (marksL (marksOf ((bts s).take k))) := (Lib.iterAt_other wr (w.heap.size + 1) w.heap.size s (k + (Utf8.decode s k).2) (by omega)).trans HBK.out
        generalize wr.iterAt (w.heap.size + 1) s (k + (Utf8.decode s k).2) = w2 at *
        generalize (Utf8.decode s k).1 = n at *
        have hnx : ∀ ty, (Instr.next (.pointer (some ⟨w.heap.size + 1, 0, none⟩)) true ty).run Tryz.prog wr = .ok (.tuple #[.bool true, .int .i64 k, .int .i32 (n : Nat)]) w2 := hnx0
        have HB2 := Lib.hid hB2
        have HBK := Lib.hid hbk2
        have b1 : ¬ (n : Int) < 97 := by omega
        have b2 : (122 : Int) < n := by omega
        clear hnx0 hit hB2 hbk2
        have HM := Lib.hid (marks_len fun _ => false)
        have HM1 := Lib.hid (marks_one fun _ => false)
        have hfin : isSet 0 (bts s) = false := by rw [HA.out, hst]; rw [decide_eq_false (by omega : ¬ ((s[k]'hlt).toNat : Int) ≤ 122)]; simp
        have hE : Ending.returned (.tuple #[.agg (marksL (fun _ => false)).toArray, .bool false]) = Ending.returned (.tuple #[setV (bts s), .bool (isSet 0 (bts s))]) := by rw [setV, hfin]; rfl
        have HE := Lib.hid hE
        clear hE hfin hst HA
        obtain ⟨M, hMM⟩ : ∃ M, marksL (fun _ => false) = M := ⟨_, rfl⟩
        have hz : zeroV = Value.agg M.toArray := by rw [← hMM]; exact zero_marks
        rw [hMM] at HM HM1 HE
        have HZ := Lib.hid hz
        have hll : (marksL (marksOf ((bts s).take k))).length = M.length := by rw [marks_len, HM.out]
        have HLL := Lib.hid hll
        clear hz hMM hll
        go_wp2_with (with_reducible show wpList _ _ _ (Oper.mk _ (Op.store 45 _ _) _ _ _ _ :: _) _ _; (refine wpList_storeB (vs := M) HBK.out Tryz.size45 HM.out HLL.out HM1.out rfl _ _ rfl rfl (by simpa [Act.eval] using HZ.out) ?_))
        have hbk2 := HBK.out.setAll (vs := M) HLL.out
        have hB2 := below_setCells (g := w.heap.size) (Nat.le_refl _) M 0 HB2.out
        exact bodyPost_ret (ret61 HM.out rfl hbk2) rfl ⟨HE.out, hB2⟩
    · obtain rfl : k = s.size := by omega
      have hnx := fun ty => Lib.run_next_end_at (P := Tryz.prog) wr (w.heap.size + 1) s s.size ty hit hlt
      have hw : isSet 0 (bts s) = true := by rw [HA.out, List.drop_of_length_le (by rw [bts_len]; exact Nat.le_refl _)]; rfl
      rw [List.take_of_length_le (by rw [bts_len]; exact Nat.le_refl _)] at HBK
      have hE : Ending.returned (.tuple #[.agg (marksL (marksOf (bts s))).toArray, .bool true]) = Ending.returned (.tuple #[setV (bts s), .bool (isSet 0 (bts s))]) := by rw [setV, hw, if_pos rfl]
      have HE := Lib.hid hE
      have hM := marks_len (marksOf (bts s))
      have hM1 := marks_one (marksOf (bts s))
      clear hE hit HA hw
      generalize marksL (marksOf (bts s)) = M at *
      have HM := Lib.hid hM
      have HM1 := Lib.hid hM1
      clear hM hM1
      go_wp2_with (first
        | (with_reducible show wpList _ _ _ (Oper.mk _ (Op.load 45 _) _ _ _ _ :: _) _ _; (refine wpList_loadB HBK.out Tryz.size45 HM.out Tryz.underlying45 rfl rfl _ rfl rfl ?_))
        | (with_reducible show wpList _ _ _ (Oper.mk _ (Op.store 45 _ _) _ _ _ _ :: _) _ _; (refine wpList_storeB (vs := M) HBK.out Tryz.size45 HM.out rfl HM1.out rfl _ _ rfl rfl rfl ?_)))
      have hbk2 := HBK.out.setAll (vs := M) rfl
      have hB2 : Below w.heap.size w (wr.setCells w.heap.size 0 M) := below_setCells (Nat.le_refl _) _ 0 hB
      exact bodyPost_ret (ret61 HM.out rfl hbk2) rfl ⟨HE.out, hB2⟩
end Go.Proofs.YtjdmmgaddbleeaaGreat

/- Whether a word falls: the program's Falls: the walk. -/
namespace Go.Proofs.YtjdmmgaddbleeaaGreat
open Go.RowKit

set_option maxRecDepth 100000 in
set_option maxHeartbeats 400000 in
theorem Falls_bad (s p : ByteArray) (w : World) (hs : s.size ≤ 9223372036854775807) (h : wordErr s ≠ 0) :
    Calls Tryz.prog 8 #[.string s, .string p] w fun e w' => e = .returned (.tuple #[.bool false, .int .i64 (wordErr s)]) ∧ Below w.heap.size w w' := by
  have hck := check_any s w hs
  have t0 : (wordErr s != 0) = true := by simpa using h
  generalize wordErr s = E at *
  have HCK := Lib.hid hck
  clear hck h
  go_enter Tryz.func8, Tryz.ntmps8
  go_wp2_with (go_at_call 5; refine HCK.out.mono ?_; rintro e w1 ⟨rfl, hb1⟩)
  go_ret2
  exact ⟨rfl, hb1⟩

set_option maxRecDepth 100000 in
set_option maxHeartbeats 1000000 in
theorem Falls_any (s p : ByteArray) (w : World) (hp : p.size ≤ 9223372036854775807) (h : wordErr s = 0) (hset : isSet 0 (bts p) = true) :
    Calls Tryz.prog 8 #[.string s, .string p] w fun e w' => e = .returned (.tuple #[.bool (redL (marksOf (bts p)) (bts s)).isEmpty, .int .i64 0]) ∧ Below w.heap.size w w' := by
  obtain ⟨h1, h2⟩ := word_size h
  have hck := check_any s w (by omega)
  rw [h] at hck
  have hso := fun W => setOf_any p W hp
  rw [hset, setV, hset, if_pos rfl] at hso
  have hre := fun W => reduce_one (marksOf (bts p)) s W h1 (by omega)
  generalize redL (marksOf (bts p)) (bts s) = R at *
  have hM := marks_len (marksOf (bts p))
  have hM1 := marks_one (marksOf (bts p))
  unfold nailsV at hso hre
  generalize marksL (marksOf (bts p)) = M at *
  obtain ⟨Z, hZ⟩ : ∃ Z, marksL (fun _ => false) = Z := ⟨_, rfl⟩
  have hz : zeroV = Value.agg Z.toArray := by rw [← hZ]; exact zero_marks
  have hll : Z.length = M.length := by rw [← hZ, marks_len, hM]
  have HCK := Lib.hid hck
  have HSO := Lib.hid hso
  have HRE := Lib.hid hre
  have HM := Lib.hid hM
  have HM1 := Lib.hid hM1
  have HZ := Lib.hid hz
  have HLL := Lib.hid hll
  clear hck hso hre hM hM1 hz hll hZ h h1 h2 hset
  go_enter Tryz.func8, Tryz.ntmps8
  go_wp2_with (first
    | (go_at_call 23; refine (HRE.out _).mono ?_; rintro e w3 ⟨rfl, hb3⟩)
    | (go_at_call 22; refine (HSO.out _).mono ?_; rintro e w2 ⟨rfl, hb2⟩; have hbn := Blk.new w2 45 [.bool false, .bool false, .bool false, .bool false, .bool false, .bool false, .bool false, .bool false, .bool false, .bool false, .bool false, .bool false, .bool false, .bool false, .bool false, .bool false, .bool false, .bool false, .bool false, .bool false, .bool false, .bool false, .bool false, .bool false, .bool false, .bool false]; have hbl : List.length (α := Value) [.bool false, .bool false, .bool false, .bool false, .bool false, .bool false, .bool false, .bool false, .bool false, .bool false, .bool false, .bool false, .bool false, .bool false, .bool false, .bool false, .bool false, .bool false, .bool false, .bool false, .bool false, .bool false, .bool false, .bool false, .bool false, .bool false] = M.length := (by rw [HM.out]; simp))
    | (go_at_call 5; refine HCK.out.mono ?_; rintro e w1 ⟨rfl, hb1⟩)
    | (with_reducible show wpList _ _ _ (Oper.mk _ (Op.store 45 _ _) _ _ _ _ :: _) _ _; refine wpList_storeB (vs := M) hbn Tryz.size45 HM.out hbl HM1.out rfl _ _ rfl rfl rfl ?_; have hbk := hbn.setAll (vs := M) hbl)
    | (with_reducible show wpList _ _ _ (Oper.mk _ (Op.load 45 _) _ _ _ _ :: _) _ _; (refine wpList_loadB hbk Tryz.size45 HM.out Tryz.underlying45 rfl rfl _ rfl rfl ?_)))
  have hB2 := hb1.trans (hb2.mono hb1.size)
  have hB3 := fun o => below_setCells (g := w2.heap.size) hB2.size M 0 (hB2.alloc hB2.size o)
  go_ret2
  exact ⟨rfl, (hB3 _).trans (hb3.mono (hB3 _).size)⟩
end Go.Proofs.YtjdmmgaddbleeaaGreat

/- The ends of a word that undo each other: the reference's walk. -/
namespace Go.Proofs.YtjdmmgaddbleeaaGreat
open Go.RowKit

/-- from k on: how many letters at the ends undo each other -/
def coreK (l : List UInt8) : Nat → Nat → Nat
  | 0, k => k
  | f + 1, k => if 2 * k + 1 < l.length ∧ l[k]? = (l[l.length - 1 - k]?).map invB then coreK l f (k + 1) else k
def coreN (l : List UInt8) : Nat := coreK l l.length 0

end Go.Proofs.YtjdmmgaddbleeaaGreat

/- A reduced word as one that is turned round: the walk. -/
namespace Go.Proofs.YtjdmmgaddbleeaaGreat
open Go.RowKit

theorem Tryz.size90 : (Tryz.prog.info? 90).map (·.size) = some 2 := by kernel_rfl
theorem ret66 {w : World} {tmps : Array Value} {g : Nat} {x y : Value} (hp : tmps.getD 2 undef = .pointer (some ⟨g, 0, none⟩)) (hb : Blk w g 90 [x, y]) : (results Tryz.f63 tmps).run Tryz.prog w = .ok (.agg #[x, y]) w :=
  results_cell_row rfl tmps w g 90 _ (0, 0) _ hp hb Tryz.underlying90 rfl Tryz.size90

set_option maxRecDepth 100000 in
set_option maxHeartbeats 1000000 in
theorem unwound_any (s : ByteArray) (w : World) (hs : s.size ≤ 100000000) :
    Calls Tryz.prog 63 #[.string s] w fun e w' => e = .returned (.agg #[.string (s.extract 0 (coreN (bts s))), .string (s.extract (coreN (bts s)) (s.size - coreN (bts s)))]) ∧ Below w.heap.size w w' := by
  generalize hF : coreN (bts s) = F
  obtain ⟨w0, hw0⟩ : ∃ w0, w.alloc (.cells #[.string ⟨#[]⟩, .string ⟨#[]⟩] 90) = w0 := ⟨_, rfl⟩
  have hb0 : Blk w0 w.heap.size 90 [.string ⟨#[]⟩, .string ⟨#[]⟩] := by rw [← hw0]; exact Blk.new w 90 _
  have hB0 : Below w.heap.size w w0 := by rw [← hw0]; exact (Below.refl _ _).alloc (Nat.le_refl _) _
  have HB0 := Lib.hid hb0
  have HBB := Lib.hid hB0
  have HW0 := Lib.hid hw0
  have HFF := Lib.hid hF
  clear hF hb0 hB0 hw0
  go_enter Tryz.func63, Tryz.ntmps63
  go_wp2_with fail
  rw [HW0.out]
  go_loopw [3] (fun iv wr => ∃ k q f : Nat, 2 * k ≤ s.size ∧ s.size ≤ k + f ∧ iv = .int .i64 k ∧ Hid (wr = w0.drewN q) ∧ Hid (coreK (bts s) f k = F)) (fun iv _ => s.size - (intOf iv).toNat)
  case atStart => exact ⟨0, 0, s.size, by omega, by omega, rfl, (show Hid (_ = _) from rfl), by show _ = _; rw [← HFF.out, coreN, bts_len]⟩
  case round =>
    clear HFF
    obtain ⟨k, q, f, hk, hf, rfl, HQ, HA⟩ := hrel
    by_cases h1 : 2 * k + 1 < s.size
    · have hka : k < s.size := by omega
      have hkb : s.size - 1 - k < s.size := by omega
      obtain ⟨m, hm⟩ : ∃ m, m = s.size - 1 - k := ⟨_, rfl⟩
      rw [← hm] at hkb
      have hmi : (s.size : Int) - 1 - k = m := by omega
      have hot := fun W => inverse_any (s[m]'hkb) W
      have hi1 : 2 * (k : Int) < s.size - 1 := by omega
      obtain ⟨f, rfl⟩ : ∃ g, f = g + 1 := ⟨f - 1, by omega⟩
      have hst : coreK (bts s) (f + 1) k = if s[k]'hka = invB (s[m]'hkb) then coreK (bts s) f (k + 1) else k := by
        rw [coreK, bts_len, ← hm, bts_get hka, bts_get hkb]
        simp [h1]
      have hw1 : IntKind.i64.wrap (2 * (k : Int)) = 2 * (k : Int) := by rw [IntKind.wrap_i64]; omega
      have hw2 : IntKind.i64.wrap (2 * (k : Int) + 1) = 2 * (k : Int) + 1 := by rw [IntKind.wrap_i64]; omega
      have hw3 : IntKind.i64.wrap ((s.size : Int) - 1) = (s.size : Int) - 1 := by rw [IntKind.wrap_i64]; omega
      have hw4 : IntKind.i64.wrap ((s.size : Int) - 1 - (k : Int)) = (m : Int) := by rw [IntKind.wrap_i64]; omega
      have HST := Lib.hid hst
      have HOT := Lib.hid hot
      have HM := Lib.hid hm
      clear hst hot hm hmi
      by_cases he : s[k]'hka = invB (s[m]'hkb)
      · rw [if_pos he] at HST
        have ht : (((s[k]'hka).toNat : Int) == ((invB (s[m]'hkb)).toNat : Int)) = true := by rw [he]; simp
        clear he
        go_wp2_with fail
        go_quiet ((go_at_call 32; exact Calls.quiet_of_same (HOT.out _)))
        go_wp2_with fail
        go_roundw
        case rel => exact ⟨k + 1, q + nq, f, by omega, by omega, by go_num, by show _ = _; rw [HQ.out, World.drewN_drewN], by show _ = _; rw [← HST.out]; exact HA.out⟩
        case measure => simp [intOf]; omega
      · have ht : (((s[k]'hka).toNat : Int) == ((invB (s[m]'hkb)).toNat : Int)) = false := by
          simp
          exact fun h => he (UInt8.toNat_inj.1 (by omega))
        have hFk : F = k := by rw [← HA.out, HST.out, if_neg he]
        have hw5 : IntKind.i64.wrap ((s.size : Int) - (k : Int)) = ((s.size - k : Nat) : Int) := by rw [IntKind.wrap_i64]; omega
        have hk1 : k ≤ s.size := by omega
        have hk2 : k ≤ s.size - k := by omega
        have HFK := Lib.hid hFk
        clear hFk HA
        go_wp2_with fail
        go_quiet ((go_at_call 32; exact Calls.quiet_of_same (HOT.out _)))
        go_wp2_with fail
        generalize hwx : wr.drewN nq = wx at *
        have HWX := Lib.hid hwx
        clear hwx
        have hbx : Blk wx w.heap.size 90 [.string ⟨#[]⟩, .string ⟨#[]⟩] := by rw [← HWX.out, HQ.out]; exact HB0.out
        have cx0 := hbx.cell (j := 0) rfl
        have cx1 := hbx.cell (j := 1) rfl
        have fx0 := hbx.free 0
        have fx1 := hbx.free 1
        have hset := (hbx.set 0 (.string (s.extract 0 k))).set 1 (.string (s.extract k (s.size - k)))
        have hBx : Below w.heap.size w wx := by rw [← HWX.out, HQ.out]; exact (HBB.out.drewN' q).drewN' nq
        have hB9 := ((hBx.setCell (p := ⟨w.heap.size, 0, none⟩) (Nat.le_refl _) (.string (s.extract 0 k))).setCell (p := ⟨w.heap.size, 1, none⟩) (Nat.le_refl _) (.string (s.extract k (s.size - k)))).drewN' 1
        go_region
        go_wp2_with fail
        exact bodyPost_ret (ret66 rfl (by exact hset)) rfl ⟨by rw [HFK.out], hB9⟩
    · have h1i : ¬ 2 * (k : Int) < (s.size : Int) - 1 := by omega
      have h1d : decide (2 * (k : Int) < (s.size : Int) - 1) = false := by simpa using h1i
      have hw3 : IntKind.i64.wrap ((s.size : Int) - 1) = (s.size : Int) - 1 := by rw [IntKind.wrap_i64]; omega
      have hw1 : IntKind.i64.wrap (2 * (k : Int)) = 2 * (k : Int) := by rw [IntKind.wrap_i64]; omega
      have hw2 : IntKind.i64.wrap (2 * (k : Int) + 1) = 2 * (k : Int) + 1 := by rw [IntKind.wrap_i64]; omega
      have hFk : F = k := by
        rw [← HA.out]
        cases f with
        | zero => rfl
        | succ f => rw [coreK, bts_len, if_neg (by omega)]
      have hw5 : IntKind.i64.wrap ((s.size : Int) - (k : Int)) = ((s.size - k : Nat) : Int) := by rw [IntKind.wrap_i64]; omega
      have hk1 : k ≤ s.size := by omega
      have hk2 : k ≤ s.size - k := by omega
      have HFK := Lib.hid hFk
      clear hFk HA
      go_wp2_with fail
      go_quiet (fail)
      go_wp2_with fail
      generalize hwx : wr.drewN nq = wx at *
      have HWX := Lib.hid hwx
      clear hwx
      have hbx : Blk wx w.heap.size 90 [.string ⟨#[]⟩, .string ⟨#[]⟩] := by rw [← HWX.out, HQ.out]; exact HB0.out
      have cx0 := hbx.cell (j := 0) rfl
      have cx1 := hbx.cell (j := 1) rfl
      have fx0 := hbx.free 0
      have fx1 := hbx.free 1
      have hset := (hbx.set 0 (.string (s.extract 0 k))).set 1 (.string (s.extract k (s.size - k)))
      have hBx : Below w.heap.size w wx := by rw [← HWX.out, HQ.out]; exact (HBB.out.drewN' q).drewN' nq
      have hB9 := ((hBx.setCell (p := ⟨w.heap.size, 0, none⟩) (Nat.le_refl _) (.string (s.extract 0 k))).setCell (p := ⟨w.heap.size, 1, none⟩) (Nat.le_refl _) (.string (s.extract k (s.size - k)))).drewN' 1
      go_region
      go_wp2_with fail
      exact bodyPost_ret (ret66 rfl (by exact hset)) rfl ⟨by rw [HFK.out], hB9⟩
end Go.Proofs.YtjdmmgaddbleeaaGreat

/- Whether all nails are in others: the walk. -/
namespace Go.Proofs.YtjdmmgaddbleeaaGreat
open Go.RowKit

theorem idx67 {M : List Value} {k : Nat} {b : Bool} (hk : k < 26) (h : M[k]? = some (.bool b)) (W : World) : (Instr.index 45 (.agg M.toArray) (.int .i64 (k : Int))).run Tryz.prog W = .ok (.bool b) W := by
  have hz : ∀ w, (Go.sizeOf 4).run Tryz.prog w = .ok 1 w := Tryz.sizeOf4
  simp [Instr.index, run_underlying Tryz.underlying45, asIntOf, go_sem, hz, h]
  intro h2
  omega
def inM (f g : Nat → Bool) : Bool := (List.range 26).all fun i => !f i || g i
theorem inM_drop (f g : Nat → Bool) {k : Nat} (h : k < 26) : ((List.range 26).drop k).all (fun i => !f i || g i) = ((!f k || g k) && ((List.range 26).drop (k + 1)).all fun i => !f i || g i) := by
  have hk : k < (List.range 26).length := by simpa using h
  rw [List.drop_eq_getElem_cons hk, List.all_cons, List.getElem_range]

set_option maxRecDepth 100000 in
set_option maxHeartbeats 400000 in
theorem in_any (f g : Nat → Bool) (w : World) : Calls Tryz.prog 55 #[nailsV f, nailsV g] w fun e w' => e = .returned (.bool (inM f g)) ∧ Below w.heap.size w w' := by
  have hf : ∀ b, inM f g = b → Ending.returned (.bool b) = Ending.returned (.bool (inM f g)) := fun b h => by rw [h]
  have hgf : ∀ k, k < 26 → (marksL f)[k]? = some (.bool (f k)) := fun k h => marks_get h
  have hgg : ∀ k, k < 26 → (marksL g)[k]? = some (.bool (g k)) := fun k h => marks_get h
  have hA := Lib.hid (show inM f g = ((List.range 26).drop 0).all (fun i => !f i || g i) from rfl)
  have hlf := marks_len f
  have hb2 := (Blk.new w 45 (marksL f)).alloc (.cells (marksL g).toArray 45)
  have hb3 := Blk.new (w.alloc (.cells (marksL f).toArray 45)) 45 (marksL g)
  rw [World.size_alloc] at hb3
  unfold nailsV
  generalize marksL f = M at *
  generalize marksL g = N at *
  generalize hF : inM f g = F at *
  have HF := Lib.hid hf
  have HGF := Lib.hid hgf
  have HGG := Lib.hid hgg
  have HM := Lib.hid hlf
  have HB2 := Lib.hid hb2
  have HB3 := Lib.hid hb3
  clear hf hgf hgg hlf hb2 hb3 hF
  go_enter Tryz.func55, Tryz.ntmps55
  go_wp2_with (with_reducible show wpList _ _ _ (Oper.mk _ (Op.load 45 _) _ _ _ _ :: _) _ _; (refine wpList_loadB HB2.out Tryz.size45 HM.out Tryz.underlying45 rfl rfl _ rfl rfl ?_))
  go_loopw [8] (fun iv wr => ∃ k : Nat, k ≤ 26 ∧ iv = .int .i64 k ∧ wr = (w.alloc (.cells M.toArray 45)).alloc (.cells N.toArray 45) ∧ Hid (F = ((List.range 26).drop k).all (fun i => !f i || g i))) (fun iv _ => 26 - (intOf iv).toNat)
  case atStart => exact ⟨0, by omega, rfl, rfl, hA⟩
  case round =>
    clear hA
    obtain ⟨k, hk, rfl, rfl, HA⟩ := hrel
    by_cases hlt : k < 26
    · have h1 := HGF.out k hlt
      have c3 := HB3.out.cell (HGG.out k hlt)
      have hst := inM_drop f g hlt
      generalize f k = x at *
      generalize g k = y at *
      have HST := Lib.hid hst
      have hix := idx67 hlt h1
      clear hst
      cases x
      · go_wp2_with fail
        go_roundw
        case rel => exact ⟨k + 1, by omega, by go_num, trivial, by show _ = _; rw [HA.out, HST.out]; rfl⟩
        case measure => simp [intOf]; omega
      · cases y
        · have hb : F = false := by rw [HA.out, HST.out]; rfl
          have HB := Lib.hid (HF.out _ hb)
          clear hb HF
          go_wp2_with fail
          go_ret
          exact ⟨HB.out, ((Below.refl _ _).alloc (Nat.le_refl _) _).alloc (by simp) _⟩
        · go_wp2_with fail
          go_roundw
          case rel => exact ⟨k + 1, by omega, by go_num, trivial, by show _ = _; rw [HA.out, HST.out]; rfl⟩
          case measure => simp [intOf]; omega
    · obtain rfl : k = 26 := by omega
      have hb : F = true := by rw [HA.out, List.drop_of_length_le (by simp)]; rfl
      have HB := Lib.hid (HF.out _ hb)
      clear hb HF
      go_wp2_with fail
      go_ret
      exact ⟨HB.out, ((Below.refl _ _).alloc (Nat.le_refl _) _).alloc (by simp) _⟩
end Go.Proofs.YtjdmmgaddbleeaaGreat

/- Whether two sets of nails meet: the walk. -/
namespace Go.Proofs.YtjdmmgaddbleeaaGreat
open Go.RowKit

def meetM (f g : Nat → Bool) : Bool := (List.range 26).any fun i => f i && g i
theorem meetM_drop (f g : Nat → Bool) {k : Nat} (h : k < 26) : ((List.range 26).drop k).any (fun i => f i && g i) = ((f k && g k) || ((List.range 26).drop (k + 1)).any fun i => f i && g i) := by
  have hk : k < (List.range 26).length := by simpa using h
  rw [List.drop_eq_getElem_cons hk, List.any_cons, List.getElem_range]

set_option maxRecDepth 100000 in
set_option maxHeartbeats 400000 in
theorem meets_any (f g : Nat → Bool) (w : World) : Calls Tryz.prog 60 #[nailsV f, nailsV g] w fun e w' => e = .returned (.bool (meetM f g)) ∧ Below w.heap.size w w' := by
  have hf : ∀ b, meetM f g = b → Ending.returned (.bool b) = Ending.returned (.bool (meetM f g)) := fun b h => by rw [h]
  have hgf : ∀ k, k < 26 → (marksL f)[k]? = some (.bool (f k)) := fun k h => marks_get h
  have hgg : ∀ k, k < 26 → (marksL g)[k]? = some (.bool (g k)) := fun k h => marks_get h
  have hA := Lib.hid (show meetM f g = ((List.range 26).drop 0).any (fun i => f i && g i) from rfl)
  have hlf := marks_len f
  have hb2 := (Blk.new w 45 (marksL f)).alloc (.cells (marksL g).toArray 45)
  have hb3 := Blk.new (w.alloc (.cells (marksL f).toArray 45)) 45 (marksL g)
  rw [World.size_alloc] at hb3
  unfold nailsV
  generalize marksL f = M at *
  generalize marksL g = N at *
  generalize hF : meetM f g = F at *
  have HF := Lib.hid hf
  have HGF := Lib.hid hgf
  have HGG := Lib.hid hgg
  have HM := Lib.hid hlf
  have HB2 := Lib.hid hb2
  have HB3 := Lib.hid hb3
  clear hf hgf hgg hlf hb2 hb3 hF
  go_enter Tryz.func60, Tryz.ntmps60
  go_wp2_with (with_reducible show wpList _ _ _ (Oper.mk _ (Op.load 45 _) _ _ _ _ :: _) _ _; (refine wpList_loadB HB2.out Tryz.size45 HM.out Tryz.underlying45 rfl rfl _ rfl rfl ?_))
  go_loopw [8] (fun iv wr => ∃ k : Nat, k ≤ 26 ∧ iv = .int .i64 k ∧ wr = (w.alloc (.cells M.toArray 45)).alloc (.cells N.toArray 45) ∧ Hid (F = ((List.range 26).drop k).any (fun i => f i && g i))) (fun iv _ => 26 - (intOf iv).toNat)
  case atStart => exact ⟨0, by omega, rfl, rfl, hA⟩
  case round =>
    clear hA
    obtain ⟨k, hk, rfl, rfl, HA⟩ := hrel
    by_cases hlt : k < 26
    · have h1 := HGF.out k hlt
      have c3 := HB3.out.cell (HGG.out k hlt)
      have hst := meetM_drop f g hlt
      generalize f k = x at *
      generalize g k = y at *
      have HST := Lib.hid hst
      have hix := idx67 hlt h1
      clear hst
      cases x
      · go_wp2_with fail
        go_roundw
        case rel => exact ⟨k + 1, by omega, by go_num, trivial, by show _ = _; rw [HA.out, HST.out]; rfl⟩
        case measure => simp [intOf]; omega
      · cases y
        · go_wp2_with fail
          go_roundw
          case rel => exact ⟨k + 1, by omega, by go_num, trivial, by show _ = _; rw [HA.out, HST.out]; rfl⟩
          case measure => simp [intOf]; omega
        · have hb : F = true := by rw [HA.out, HST.out]; rfl
          have HB := Lib.hid (HF.out _ hb)
          clear hb HF
          go_wp2_with fail
          go_ret
          exact ⟨HB.out, ((Below.refl _ _).alloc (Nat.le_refl _) _).alloc (by simp) _⟩
    · obtain rfl : k = 26 := by omega
      have hb : F = false := by rw [HA.out, List.drop_of_length_le (by simp)]; rfl
      have HB := Lib.hid (HF.out _ hb)
      clear hb HF
      go_wp2_with fail
      go_ret
      exact ⟨HB.out, ((Below.refl _ _).alloc (Nat.le_refl _) _).alloc (by simp) _⟩
end Go.Proofs.YtjdmmgaddbleeaaGreat

/- Whether a word falls, with what is no set: the walk. -/
namespace Go.Proofs.YtjdmmgaddbleeaaGreat
open Go.RowKit

set_option maxRecDepth 100000 in
set_option maxHeartbeats 1000000 in
theorem Falls_unset (s p : ByteArray) (w : World) (hp : p.size ≤ 9223372036854775807) (h : wordErr s = 0) (hset : isSet 0 (bts p) = false) :
    Calls Tryz.prog 8 #[.string s, .string p] w fun e w' => e = .returned (.tuple #[.bool false, .int .i64 1]) ∧ Below w.heap.size w w' := by
  obtain ⟨h1, h2⟩ := word_size h
  have hck := check_any s w (by omega)
  rw [h] at hck
  have hso := fun W => setOf_any p W hp
  rw [hset, setV, hset] at hso
  have hM := marks_len (fun _ => false)
  have hM1 := marks_one (fun _ => false)
  simp only [Bool.false_eq_true, if_false] at hso
  unfold nailsV at hso
  generalize marksL (fun _ => false) = M at *
  have HCK := Lib.hid hck
  have HSO := Lib.hid hso
  have HM := Lib.hid hM
  have HM1 := Lib.hid hM1
  clear hck hso hM hM1 h h1 h2 hset
  go_enter Tryz.func8, Tryz.ntmps8
  go_wp2_with (first
    | (go_at_call 22; refine (HSO.out _).mono ?_; rintro e w2 ⟨rfl, hb2⟩; have hbn := Blk.new w2 45 [.bool false, .bool false, .bool false, .bool false, .bool false, .bool false, .bool false, .bool false, .bool false, .bool false, .bool false, .bool false, .bool false, .bool false, .bool false, .bool false, .bool false, .bool false, .bool false, .bool false, .bool false, .bool false, .bool false, .bool false, .bool false, .bool false]; have hbl : List.length (α := Value) [.bool false, .bool false, .bool false, .bool false, .bool false, .bool false, .bool false, .bool false, .bool false, .bool false, .bool false, .bool false, .bool false, .bool false, .bool false, .bool false, .bool false, .bool false, .bool false, .bool false, .bool false, .bool false, .bool false, .bool false, .bool false, .bool false] = M.length := (by rw [HM.out]; simp))
    | (go_at_call 5; refine HCK.out.mono ?_; rintro e w1 ⟨rfl, hb1⟩)
    | (with_reducible show wpList _ _ _ (Oper.mk _ (Op.store 45 _ _) _ _ _ _ :: _) _ _; refine wpList_storeB (vs := M) hbn Tryz.size45 HM.out hbl HM1.out rfl _ _ rfl rfl rfl ?_))
  have hB2 := hb1.trans (hb2.mono hb1.size)
  have hB3 := fun o => below_setCells (g := w2.heap.size) hB2.size M 0 (hB2.alloc hB2.size o)
  go_ret2
  exact ⟨rfl, hB3 _⟩
end Go.Proofs.YtjdmmgaddbleeaaGreat

/- Plain laws of reduced words: the group that they form. -/
namespace Go.Proofs.YtjdmmgaddbleeaaGreat
open Go.RowKit

theorem inv_inv : ∀ c : UInt8, invB (invB c) = c := for_bytes (by decide +kernel)
theorem inv_ne : ∀ c : UInt8, invB c ≠ c := for_bytes (by decide +kernel)
theorem low_inv : ∀ c : UInt8, lowB (invB c) = lowB c := for_bytes (by decide +kernel)
theorem nail_inv (c : UInt8) : nailB (invB c) = nailB c := by unfold nailB; rw [low_inv]

/-- no two letters beside one another undo each other -/
inductive Rd : List UInt8 → Prop
  | nil : Rd []
  | one (c : UInt8) : Rd [c]
  | cons (a b : UInt8) (l : List UInt8) : a ≠ invB b → Rd (b :: l) → Rd (a :: b :: l)

theorem Rd.tail {a : UInt8} {l : List UInt8} (h : Rd (a :: l)) : Rd l := by
  cases h with
  | one => exact .nil
  | cons _ _ _ _ h => exact h
theorem Rd.ne {a b : UInt8} {l : List UInt8} (h : Rd (a :: b :: l)) : a ≠ invB b := by
  cases h with
  | cons _ _ _ h _ => exact h
theorem Rd.app_left {l : List UInt8} : ∀ {k : List UInt8}, Rd (k ++ l) → Rd k
  | [], _ => .nil
  | [a], _ => .one a
  | a :: b :: k, h => .cons a b k (Rd.ne h) (Rd.app_left (k := b :: k) h.tail)
theorem Rd.app_right {l : List UInt8} : ∀ {k : List UInt8}, Rd (k ++ l) → Rd l
  | [], h => h
  | _ :: k, h => Rd.app_right (k := k) (Rd.tail h)
theorem Rd.snoc {x c : UInt8} : ∀ {l : List UInt8}, Rd (l ++ [x]) → x ≠ invB c → Rd (l ++ [x, c])
  | [], _, h => .cons x c [] h (.one c)
  | [a], h, h2 => .cons a x [c] (Rd.ne h) (.cons x c [] h2 (.one c))
  | a :: b :: l, h, h2 => .cons a b _ (Rd.ne h) (Rd.snoc (l := b :: l) h.tail h2)
theorem Rd.join {x y : UInt8} {k : List UInt8} : ∀ {l : List UInt8}, Rd (l ++ [x]) → Rd (y :: k) → x ≠ invB y → Rd (l ++ x :: y :: k)
  | [], _, h2, h3 => .cons x y k h3 h2
  | [a], h, h2, h3 => .cons a x _ (Rd.ne h) (.cons x y k h3 h2)
  | a :: b :: l, h, h2, h3 => .cons a b _ (Rd.ne h) (Rd.join (l := b :: l) h.tail h2 h3)

theorem putL_cases (l : List UInt8) (c : UInt8) : (∃ k, l = k ++ [invB c] ∧ putL l c = k) ∨ (l = [] ∧ putL l c = [c]) ∨ ∃ k x, l = k ++ [x] ∧ x ≠ invB c ∧ putL l c = k ++ [x, c] := by
  rcases List.eq_nil_or_concat l with rfl | ⟨k, x, rfl⟩
  · exact .inr (.inl ⟨rfl, putL_nil c⟩)
  · rw [List.concat_eq_append]
    by_cases hx : x = invB c
    · subst hx; exact .inl ⟨k, rfl, putL_pop rfl⟩
    · exact .inr (.inr ⟨k, x, rfl, hx, putL_push hx⟩)
theorem putL_rd {l : List UInt8} (h : Rd l) (c : UInt8) : Rd (putL l c) := by
  rcases putL_cases l c with ⟨k, rfl, e⟩ | ⟨rfl, e⟩ | ⟨k, x, rfl, hx, e⟩
  · rw [e]; exact h.app_left
  · rw [e]; exact .one c
  · rw [e]; exact h.snoc hx
theorem putL_back {l : List UInt8} (h : Rd l) (c : UInt8) : putL (putL l c) (invB c) = l := by
  rcases putL_cases l c with ⟨k, rfl, e⟩ | ⟨rfl, e⟩ | ⟨k, x, rfl, hx, e⟩
  · rw [e]
    rcases List.eq_nil_or_concat k with rfl | ⟨k, x, rfl⟩
    · exact putL_nil _
    · rw [List.concat_eq_append] at *
      rw [putL_push]
      · simp
      · have h2 : Rd ([x] ++ [invB c]) := by
          refine Rd.app_right (k := k) ?_
          simpa using h
        exact Rd.ne h2
  · rw [e]
    exact putL_pop (l := []) (inv_inv c).symm
  · rw [e, show k ++ [x, c] = (k ++ [x]) ++ [c] by simp]
    exact putL_pop (inv_inv c).symm

/-- the word's letters put behind -/
def act (st w : List UInt8) : List UInt8 := w.foldl putL st
theorem act_nil (st : List UInt8) : act st [] = st := rfl
theorem act_cons (st : List UInt8) (c : UInt8) (w : List UInt8) : act st (c :: w) = act (putL st c) w := rfl
theorem act_app (st u w : List UInt8) : act st (u ++ w) = act (act st u) w := List.foldl_append ..
theorem act_rd {st : List UInt8} (h : Rd st) : ∀ (w : List UInt8), Rd (act st w)
  | [] => h
  | c :: w => act_rd (putL_rd h c) w
theorem stepR_false : stepR (fun _ => false) = putL := by funext l c; simp [stepR]
theorem redW_act (l : List UInt8) : redW l = act [] l := by unfold redW redL act; rw [stepR_false]
theorem redW_rd (l : List UInt8) : Rd (redW l) := by rw [redW_act]; exact act_rd .nil l
theorem redW_snoc (l : List UInt8) (c : UInt8) : redW (l ++ [c]) = putL (redW l) c := by rw [redW_act, redW_act, act_app]; rfl

theorem act_red {st : List UInt8} (h : Rd st) (l : List UInt8) : act st (redW l) = act st l := by
  suffices H : ∀ (n : Nat) (l : List UInt8), l.length = n → act st (redW l) = act st l from H _ l rfl
  intro n
  induction n with
  | zero => intro l hl; obtain rfl := List.eq_nil_of_length_eq_zero hl; rfl
  | succ n ih =>
    intro l hl
    rcases List.eq_nil_or_concat l with rfl | ⟨k, c, rfl⟩
    · rfl
    · rw [List.concat_eq_append] at *
      have hk := ih k (by simpa using hl)
      rw [redW_snoc, act_app, ← hk]
      rcases putL_cases (redW k) c with ⟨m, e1, e⟩ | ⟨e1, e⟩ | ⟨m, x, e1, hx, e⟩
      · rw [e, e1, act_app]
        have := putL_back (act_rd h m) (invB c)
        rw [inv_inv] at this
        exact this.symm
      · rw [e, e1]; rfl
      · rw [e, e1, ← act_app]; simp

theorem act_self {l : List UInt8} : ∀ (k : List UInt8), Rd (k ++ l) → act k l = k ++ l := by
  induction l with
  | nil => intro k _; simp [act_nil]
  | cons c l ih =>
    intro k h
    rw [act_cons]
    have e : putL k c = k ++ [c] := by
      rcases putL_cases k c with ⟨m, rfl, _⟩ | ⟨rfl, e⟩ | ⟨m, x, rfl, hx, e⟩
      · exfalso
        have h2 : Rd (invB c :: c :: l) := by refine Rd.app_right (k := m) ?_; simpa using h
        exact Rd.ne h2 rfl
      · exact e
      · rw [e]; simp
    rw [e, ih _ (by simpa using h)]
    simp
theorem redW_self {l : List UInt8} (h : Rd l) : redW l = l := by
  rw [redW_act, act_self [] (by simpa using h)]; rfl
theorem redW_idem (l : List UInt8) : redW (redW l) = redW l := redW_self (redW_rd l)
theorem redW_app (a b : List UInt8) : redW (a ++ b) = act (redW a) b := by rw [redW_act, act_app, ← redW_act]
theorem redW_right (a b : List UInt8) : redW (a ++ redW b) = redW (a ++ b) := by rw [redW_app, redW_app, act_red (redW_rd a)]
theorem redW_left (a b : List UInt8) : redW (redW a ++ b) = redW (a ++ b) := by rw [redW_app, redW_app, redW_idem]
theorem redW_nil : redW [] = [] := rfl

/-- the same wire -/
def Eqv (a b : List UInt8) : Prop := redW a = redW b
theorem Eqv.refl (a : List UInt8) : Eqv a a := rfl
theorem Eqv.symm {a b : List UInt8} (h : Eqv a b) : Eqv b a := Eq.symm h
theorem Eqv.trans {a b c : List UInt8} (h : Eqv a b) (h2 : Eqv b c) : Eqv a c := Eq.trans h h2
theorem Eqv.red (a : List UInt8) : Eqv (redW a) a := redW_idem a
theorem Eqv.app {a b c d : List UInt8} (h : Eqv a b) (h2 : Eqv c d) : Eqv (a ++ c) (b ++ d) := by
  unfold Eqv at *
  rw [← redW_left, ← redW_right, h, h2, redW_right, redW_left]
theorem Eqv.left (x : List UInt8) {a b : List UInt8} (h : Eqv a b) : Eqv (x ++ a) (x ++ b) := (Eqv.refl x).app h
theorem Eqv.right (x : List UInt8) {a b : List UInt8} (h : Eqv a b) : Eqv (a ++ x) (b ++ x) := h.app (Eqv.refl x)
theorem Eqv.of_rd {a b : List UInt8} (h : Eqv a b) (ha : Rd a) (hb : Rd b) : a = b := by
  have := h; unfold Eqv at this; rwa [redW_self ha, redW_self hb] at this

theorem redW_pair (c : UInt8) : redW [c, invB c] = [] := by
  rw [show [c, invB c] = [c] ++ [invB c] from rfl, redW_snoc, redW_self (.one c)]
  exact putL_pop (l := []) (inv_inv c).symm
theorem invL_app (a b : List UInt8) : invL (a ++ b) = invL b ++ invL a := by unfold invL; simp
theorem invL_cons (c : UInt8) (a : List UInt8) : invL (c :: a) = invL a ++ [invB c] := by unfold invL; simp
theorem invL_inv (a : List UInt8) : invL (invL a) = a := by
  unfold invL
  rw [List.map_reverse, List.reverse_reverse, List.map_map]
  conv => rhs; rw [← List.map_id a]
  congr 1
  funext c
  exact inv_inv c
theorem Eqv.inv_right : ∀ (a : List UInt8), Eqv (a ++ invL a) []
  | [] => rfl
  | c :: a => by
    rw [invL_cons, show c :: a ++ (invL a ++ [invB c]) = [c] ++ ((a ++ invL a) ++ [invB c]) by simp]
    refine (Eqv.left [c] (Eqv.right [invB c] (Eqv.inv_right a))).trans ?_
    exact redW_pair c
theorem Eqv.inv_left (a : List UInt8) : Eqv (invL a ++ a) [] := by
  have := Eqv.inv_right (invL a)
  rwa [invL_inv] at this
theorem Eqv.inv {a b : List UInt8} (h : Eqv a b) : Eqv (invL a) (invL b) := by
  have h1 : Eqv (invL a) (invL a ++ (b ++ invL b)) := by
    have := Eqv.left (invL a) (Eqv.inv_right b).symm
    simpa using this
  have h2 : Eqv (invL a ++ (b ++ invL b)) ((invL a ++ a) ++ invL b) := by
    rw [← List.append_assoc]
    exact Eqv.right _ (Eqv.left _ h.symm)
  have h3 : Eqv ((invL a ++ a) ++ invL b) (invL b) := by
    have := Eqv.right (invL b) (Eqv.inv_left a)
    simpa using this
  exact h1.trans (h2.trans h3)
theorem Rd.rev {l : List UInt8} (h : Rd l) : Rd (invL l) := by
  induction h with
  | nil => exact .nil
  | one c => exact .one _
  | cons a b l hab _ ih =>
    rw [invL_cons, invL_cons, List.append_assoc]
    rw [invL_cons] at ih
    refine Rd.snoc ih ?_
    intro e
    rw [inv_inv] at e
    exact hab e.symm
theorem redW_inv (l : List UInt8) : redW (invL l) = invL (redW l) := by
  have h1 : Eqv (invL l) (invL (redW l)) := (Eqv.red l).symm.inv
  have h2 := h1
  unfold Eqv at h2
  rw [h2, redW_self (redW_rd l).rev]

/-- the letters of other nails -/
def keep (f : Nat → Bool) (l : List UInt8) : List UInt8 := l.filter fun c => !f (nailB c)
theorem redL_keep (f : Nat → Bool) (l : List UInt8) : redL f l = redW (keep f l) := by
  have H : ∀ (l acc : List UInt8), l.foldl (stepR f) acc = act acc (keep f l) := by
    intro l
    induction l with
    | nil => intro acc; rfl
    | cons c l ih =>
      intro acc
      rw [List.foldl_cons, ih]
      unfold keep stepR
      cases hf : f (nailB c)
      · rw [List.filter_cons_of_pos (by simp [hf])]; rfl
      · rw [List.filter_cons_of_neg (by simp [hf])]; rfl
  rw [redW_act]
  exact H l []
theorem keep_app (f : Nat → Bool) (a b : List UInt8) : keep f (a ++ b) = keep f a ++ keep f b := by simp [keep]
theorem keep_inv (f : Nat → Bool) (a : List UInt8) : keep f (invL a) = invL (keep f a) := by
  unfold keep invL
  rw [List.filter_reverse, List.filter_map]
  congr 2
  apply List.filter_congr
  intro c _
  simp [nail_inv]
theorem keep_red (f : Nat → Bool) (l : List UInt8) : Eqv (keep f (redW l)) (keep f l) := by
  suffices H : ∀ (n : Nat) (l : List UInt8), l.length = n → Eqv (keep f (redW l)) (keep f l) from H _ l rfl
  intro n
  induction n with
  | zero => intro l hl; obtain rfl := List.eq_nil_of_length_eq_zero hl; rfl
  | succ n ih =>
    intro l hl
    rcases List.eq_nil_or_concat l with rfl | ⟨k, c, rfl⟩
    · rfl
    · rw [List.concat_eq_append] at *
      have hk := ih k (by simpa using hl)
      rw [redW_snoc, keep_app]
      refine Eqv.trans ?_ (Eqv.right _ hk)
      rcases putL_cases (redW k) c with ⟨m, e1, e⟩ | ⟨e1, e⟩ | ⟨m, x, e1, hx, e⟩
      · rw [e, e1, keep_app, List.append_assoc]
        have : Eqv (keep f [invB c] ++ keep f [c]) [] := by
          unfold keep
          cases hf : f (nailB c)
          · rw [List.filter_cons_of_pos (by simp [hf, nail_inv]), List.filter_cons_of_pos (by simp [hf])]
            have := redW_pair (invB c)
            rw [inv_inv] at this
            exact this
          · rw [List.filter_cons_of_neg (by simp [hf, nail_inv]), List.filter_cons_of_neg (by simp [hf])]
            rfl
        have := Eqv.left (keep f m) this.symm
        simpa using this
      · rw [e, e1]; exact Eqv.refl _
      · rw [e, e1, ← keep_app]
        simp [Eqv.refl]
theorem Eqv.keep {a b : List UInt8} (f : Nat → Bool) (h : Eqv a b) : Eqv (keep f a) (keep f b) := by
  have h1 := keep_red f a
  have h2 := keep_red f b
  rw [show redW a = redW b from h] at h1
  exact h1.symm.trans h2
theorem keep_keep (f g : Nat → Bool) (h : ∀ i, f i = true → g i = true) (l : List UInt8) : Go.Proofs.YtjdmmgaddbleeaaGreat.keep g (Go.Proofs.YtjdmmgaddbleeaaGreat.keep f l) = Go.Proofs.YtjdmmgaddbleeaaGreat.keep g l := by
  unfold Go.Proofs.YtjdmmgaddbleeaaGreat.keep
  rw [List.filter_filter]
  apply List.filter_congr
  intro c _
  cases hg : g (nailB c)
  · cases hf : f (nailB c)
    · rfl
    · rw [h _ hf] at hg; cases hg
  · rfl
/-- what falls with some nails falls with more -/
theorem falls_more {f g : Nat → Bool} (h : ∀ i, f i = true → g i = true) {l : List UInt8} (hf : redL f l = []) : redL g l = [] := by
  rw [redL_keep] at *
  have : Eqv (keep f l) [] := hf
  have h2 := this.keep g
  rw [keep_keep f g h] at h2
  exact h2
theorem redL_congr {f g : Nat → Bool} {l : List UInt8} (h : ∀ c ∈ l, f (nailB c) = g (nailB c)) : redL f l = redL g l := by
  rw [redL_keep, redL_keep]
  congr 1
  unfold keep
  apply List.filter_congr
  intro c hc
  rw [h c hc]
theorem redL_eqv {f : Nat → Bool} {a b : List UInt8} (h : Eqv a b) : redL f a = redL f b := by
  rw [redL_keep, redL_keep]
  exact h.keep f
end Go.Proofs.YtjdmmgaddbleeaaGreat
