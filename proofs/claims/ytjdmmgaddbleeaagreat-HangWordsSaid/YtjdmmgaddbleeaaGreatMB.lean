/- Letters, and what is wrong with a word: the walks. -/
import Derived.Test.YtjdmmgaddbleeaaGreatMA
import Derived.Test.YtjdmmgaddbleeaaGreatProg
import Derived.Lib.OthersKept
import Derived.Laws.AppendOwn
import Derived.Lib.SlBytesRow
import Derived.Lib.BufferRead
namespace Go.Proofs.YtjdmmgaddbleeaaGreat
open Go.RowKit

def letter (x : Int) : Bool := decide (97 ≤ x ∧ x ≤ 122) || decide (65 ≤ x ∧ x ≤ 90)

theorem isLetter_any (x : Int) (w : World) : Calls Tryz.prog 19 #[.int .i32 x] w fun e w' => e = .returned (.bool (letter x)) ∧ w' = w := by
  have hf : ∀ b, letter x = b → Ending.returned (.bool b) = Ending.returned (.bool (letter x)) := fun b h => by rw [h]
  unfold letter at hf
  by_cases h1 : 97 ≤ x
  · by_cases h2 : x ≤ 122
    · have HF := Lib.hid (hf true (by simp; omega)).symm
      clear hf
      go_enter Tryz.func19, Tryz.ntmps19
      go_wp2_with fail
      go_ret
      exact ⟨HF.out.symm, rfl⟩
    · have h3 : 65 ≤ x := by omega
      have h4 : ¬ x ≤ 90 := by omega
      have HF := Lib.hid (hf false (by simp; omega)).symm
      clear hf
      go_enter Tryz.func19, Tryz.ntmps19
      go_wp2_with fail
      go_ret
      exact ⟨HF.out.symm, rfl⟩
  · by_cases h3 : 65 ≤ x
    · by_cases h4 : x ≤ 90
      · have HF := Lib.hid (hf true (by simp; omega)).symm
        clear hf
        go_enter Tryz.func19, Tryz.ntmps19
        go_wp2_with fail
        go_ret
        exact ⟨HF.out.symm, rfl⟩
      · have HF := Lib.hid (hf false (by simp; omega)).symm
        clear hf
        go_enter Tryz.func19, Tryz.ntmps19
        go_wp2_with fail
        go_ret
        exact ⟨HF.out.symm, rfl⟩
    · have HF := Lib.hid (hf false (by simp; omega)).symm
      clear hf
      go_enter Tryz.func19, Tryz.ntmps19
      go_wp2_with fail
      go_ret
      exact ⟨HF.out.symm, rfl⟩
theorem rLetter_any (x : Int) (w : World) : Calls Tryz.prog 18 #[.int .u8 x] w fun e w' => e = .returned (.bool (letter x)) ∧ w' = w := by
  have hf : ∀ b, letter x = b → Ending.returned (.bool b) = Ending.returned (.bool (letter x)) := fun b h => by rw [h]
  unfold letter at hf
  by_cases h1 : 97 ≤ x
  · by_cases h2 : x ≤ 122
    · have HF := Lib.hid (hf true (by simp; omega)).symm
      clear hf
      go_enter Tryz.func18, Tryz.ntmps18
      go_wp2_with fail
      go_ret
      exact ⟨HF.out.symm, rfl⟩
    · have h3 : 65 ≤ x := by omega
      have h4 : ¬ x ≤ 90 := by omega
      have HF := Lib.hid (hf false (by simp; omega)).symm
      clear hf
      go_enter Tryz.func18, Tryz.ntmps18
      go_wp2_with fail
      go_ret
      exact ⟨HF.out.symm, rfl⟩
  · by_cases h3 : 65 ≤ x
    · by_cases h4 : x ≤ 90
      · have HF := Lib.hid (hf true (by simp; omega)).symm
        clear hf
        go_enter Tryz.func18, Tryz.ntmps18
        go_wp2_with fail
        go_ret
        exact ⟨HF.out.symm, rfl⟩
      · have HF := Lib.hid (hf false (by simp; omega)).symm
        clear hf
        go_enter Tryz.func18, Tryz.ntmps18
        go_wp2_with fail
        go_ret
        exact ⟨HF.out.symm, rfl⟩
    · have HF := Lib.hid (hf false (by simp; omega)).symm
      clear hf
      go_enter Tryz.func18, Tryz.ntmps18
      go_wp2_with fail
      go_ret
      exact ⟨HF.out.symm, rfl⟩

/-- the bytes of a string -/
abbrev bts (s : ByteArray) : List UInt8 := s.data.toList
def isWord (l : List UInt8) : Bool := l.all fun c => letter (c.toNat : Int)
/-- what Check answers -/
def wordErr (s : ByteArray) : Int := if isWord (bts s) then (if 30000 < s.size then 2 else 0) else 40
theorem bts_get {s : ByteArray} {k : Nat} (h : k < s.size) : (bts s)[k]? = some (s[k]'h) := by
  rw [List.getElem?_eq_getElem (by simpa using h)]; rfl
theorem bts_len (s : ByteArray) : (bts s).length = s.size := by simp
theorem all_drop {f : UInt8 → Bool} {l : List UInt8} {k : Nat} {c : UInt8} (h : l[k]? = some c) : (l.drop k).all f = (f c && (l.drop (k + 1)).all f) := by
  obtain ⟨hk, rfl⟩ := List.getElem?_eq_some_iff.1 h
  rw [List.drop_eq_getElem_cons hk, List.all_cons]

set_option maxHeartbeats 1000000 in
theorem rCheck_any (s : ByteArray) (w : World) (hs : s.size ≤ 9223372036854775807) : Calls Tryz.prog 4 #[.string s] w fun e w' => e = .returned (.int .i64 (wordErr s)) ∧ w' = w := by
  have hf : ∀ b, wordErr s = b → Ending.returned (.int .i64 b) = Ending.returned (.int .i64 (wordErr s)) := fun b h => by rw [h]
  have HF := Lib.hid hf
  clear hf
  go_enter Tryz.func4, Tryz.ntmps4
  go_wp2_with fail
  go_loopw [3] (fun iv wr => ∃ k : Nat, k ≤ s.size ∧ iv = .int .i64 k ∧ wr = w ∧ Hid (isWord (bts s) = ((bts s).drop k).all fun c => letter (c.toNat : Int))) (fun iv _ => s.size - (intOf iv).toNat)
  case atStart => exact ⟨0, by omega, rfl, rfl, (show Hid (_ = _) from rfl)⟩
  case round =>
    obtain ⟨k, hk, rfl, rfl, HA⟩ := hrel
    by_cases hlt : k < s.size
    · have hst := all_drop (f := fun c => letter (c.toNat : Int)) (bts_get hlt)
      have hca := fun W => rLetter_any ((s[k]'hlt).toNat : Int) W
      cases hl : letter ((s[k]'hlt).toNat : Int)
      · rw [hl] at hst hca
        have hb : wordErr s = 40 := by unfold wordErr; rw [HA.out, hst]; rfl
        have HB := Lib.hid (HF.out _ hb)
        have HCA := Lib.hid hca
        clear hb hl HF hst hca HA
        go_wp2_with (go_at_call 18; refine (HCA.out _).mono ?_; rintro e w1 ⟨rfl, rfl⟩)
        go_ret
        exact ⟨HB.out, rfl⟩
      · rw [hl, Bool.true_and] at hst
        rw [hl] at hca
        have HST := Lib.hid hst
        have HCA := Lib.hid hca
        clear hl hst hca HF
        go_wp2_with (go_at_call 18; refine (HCA.out _).mono ?_; rintro e w1 ⟨rfl, rfl⟩)
        go_roundw
        case rel => exact ⟨k + 1, by omega, by go_num, trivial, by show _ = _; rw [HA.out, HST.out]⟩
        case measure => simp [intOf]; omega
    · obtain rfl : k = s.size := by omega
      have hw : isWord (bts s) = true := by rw [HA.out, List.drop_of_length_le (by rw [bts_len]; exact Nat.le_refl _)]; rfl
      by_cases hbig : 30000 < s.size
      · have hbi : (30000 : Int) < (s.size : Int) := by omega
        have hb : wordErr s = 2 := by unfold wordErr; rw [hw, if_pos rfl, if_pos hbig]
        have HB := Lib.hid (HF.out _ hb)
        clear hb HF hw HA hbig
        go_wp2_with fail
        go_ret
        exact ⟨HB.out, rfl⟩
      · have hbi : ¬ (30000 : Int) < (s.size : Int) := by omega
        have hb : wordErr s = 0 := by unfold wordErr; rw [hw, if_pos rfl, if_neg hbig]
        have HB := Lib.hid (HF.out _ hb)
        clear hb HF hw HA hbig
        go_wp2_with fail
        go_ret
        exact ⟨HB.out, rfl⟩

set_option maxHeartbeats 1000000 in
theorem check_any (s : ByteArray) (w : World) (hs : s.size ≤ 9223372036854775807) : Calls Tryz.prog 5 #[.string s] w fun e w' => e = .returned (.int .i64 (wordErr s)) ∧ Below w.heap.size w w' := by
  have hf : ∀ b, wordErr s = b → Ending.returned (.int .i64 b) = Ending.returned (.int .i64 (wordErr s)) := fun b h => by rw [h]
  have HF := Lib.hid hf
  clear hf
  go_enter Tryz.func5, Tryz.ntmps5
  go_wp2_with fail
  go_loopw [4] (fun _ wr => ∃ k : Nat, k ≤ s.size ∧ wr.heap[w.heap.size]? = some (.stringIter s k) ∧ Below w.heap.size w wr ∧ Hid (isWord (bts s) = ((bts s).drop k).all fun c => letter (c.toNat : Int))) (fun _ wr => s.size - wr.iterPos w.heap.size)
  case atStart => exact ⟨0, by omega, World.iter_heap w s 0, (Below.refl _ _).alloc (Nat.le_refl _) _, (show Hid (_ = _) from rfl)⟩
  case round =>
    obtain ⟨k, hk, hit, hB, HA⟩ := hrel
    have hsz := hB.size
    by_cases hlt : k < s.size
    · have hst := all_drop (f := fun c => letter (c.toNat : Int)) (bts_get hlt)
      by_cases ha : (s[k]'hlt).toNat < 128
      · have hnx0 := fun ty => Lib.run_next_ascii_at (P := Tryz.prog) wr w.heap.size s k ty hit hlt ha
        have hit2 := Lib.iterAt_heap wr w.heap.size s k (k + 1) hit
        have hB2 := Lib.below_iterAt hB (Nat.le_refl _) s (k + 1)
        generalize hw2 : wr.iterAt w.heap.size s (k + 1) = w2 at *
        obtain ⟨c, hc⟩ : ∃ c, (s[k]'hlt).toNat = c := ⟨_, rfl⟩
        simp only [hc] at hnx0 hst ha
        have hnx : ∀ ty, (Instr.next (.pointer (some ⟨w.heap.size, 0, none⟩)) true ty).run Tryz.prog wr = .ok (.tuple #[.bool true, .int .i64 k, .int .i32 (c : Nat)]) w2 := hnx0
        have hpos : wr.iterPos w.heap.size = k := by simp only [World.iterPos, hit]
        have hpos2 : w2.iterPos w.heap.size = k + 1 := by simp only [World.iterPos, hit2]
        have hca := fun W => isLetter_any (c : Int) W
        have HPOS := Lib.hid hpos
        have HPOS2 := Lib.hid hpos2
        have HIT2 := Lib.hid hit2
        have HB2 := Lib.hid hB2
        clear hnx0 hw2 hc hit2 hit hpos hpos2 hB2
        cases hl : letter (c : Int)
        · rw [hl] at hst hca
          have hb : wordErr s = 40 := by unfold wordErr; rw [HA.out, hst]; rfl
          have HB := Lib.hid (HF.out _ hb)
          have HCA := Lib.hid hca
          clear hb hl HF hst hca HA
          go_wp2_with (go_at_call 19; refine (HCA.out _).mono ?_; rintro e w1 ⟨rfl, rfl⟩)
          go_ret
          exact ⟨HB.out, HB2.out⟩
        · rw [hl, Bool.true_and] at hst
          rw [hl] at hca
          have HST := Lib.hid hst
          have HCA := Lib.hid hca
          clear hl hst hca HF
          go_wp2_with (go_at_call 19; refine (HCA.out _).mono ?_; rintro e w1 ⟨rfl, rfl⟩)
          go_roundw
          case rel => exact ⟨k + 1, by omega, HIT2.out, HB2.out, by show _ = _; rw [HA.out, HST.out]⟩
          case measure => rw [HPOS.out, HPOS2.out]; omega
      · have r1 := decode_high s k hlt (by omega)
        have r3 := decode_le s k
        have hnx0 := fun ty => Lib.run_next_any_at (P := Tryz.prog) wr w.heap.size s k ty hit hlt
        have hB2 := Lib.below_iterAt hB (Nat.le_refl _) s (k + (Utf8.decode s k).2)
        generalize wr.iterAt w.heap.size s (k + (Utf8.decode s k).2) = w2 at *
        generalize (Utf8.decode s k).1 = r at *
        have hnx : ∀ ty, (Instr.next (.pointer (some ⟨w.heap.size, 0, none⟩)) true ty).run Tryz.prog wr = .ok (.tuple #[.bool true, .int .i64 k, .int .i32 (r : Nat)]) w2 := hnx0
        have hca := fun W => isLetter_any (r : Int) W
        have hl : letter (r : Int) = false := by unfold letter; simp; omega
        have hl2 : letter ((s[k]'hlt).toNat : Int) = false := by unfold letter; simp; omega
        rw [hl2] at hst
        rw [hl] at hca
        have hb : wordErr s = 40 := by unfold wordErr; rw [HA.out, hst]; rfl
        have HB := Lib.hid (HF.out _ hb)
        have HCA := Lib.hid hca
        have HB2 := Lib.hid hB2
        clear hb hl hl2 HF hst hca HA hnx0 hit hB2
        go_wp2_with (go_at_call 19; refine (HCA.out _).mono ?_; rintro e w1 ⟨rfl, rfl⟩)
        go_ret
        exact ⟨HB.out, HB2.out⟩
    · obtain rfl : k = s.size := by omega
      have hnx := fun ty => Lib.run_next_end_at (P := Tryz.prog) wr w.heap.size s s.size ty hit hlt
      have hw : isWord (bts s) = true := by rw [HA.out, List.drop_of_length_le (by rw [bts_len]; exact Nat.le_refl _)]; rfl
      clear hit
      by_cases hbig : 30000 < s.size
      · have hbi : (30000 : Int) < (s.size : Int) := by omega
        have hb : wordErr s = 2 := by unfold wordErr; rw [hw, if_pos rfl, if_pos hbig]
        have HB := Lib.hid (HF.out _ hb)
        clear hb HF hw HA hbig
        go_wp2_with fail
        go_ret
        exact ⟨HB.out, hB⟩
      · have hbi : ¬ (30000 : Int) < (s.size : Int) := by omega
        have hb : wordErr s = 0 := by unfold wordErr; rw [hw, if_pos rfl, if_neg hbig]
        have HB := Lib.hid (HF.out _ hb)
        clear hb HF hw HA hbig
        go_wp2_with fail
        go_ret
        exact ⟨HB.out, hB⟩
end Go.Proofs.YtjdmmgaddbleeaaGreat

/- Lists of bytes that a call itself makes: laws. -/
namespace Go.Proofs.YtjdmmgaddbleeaaGreat
open Go.RowKit

theorem Tryz.info5 : (Tryz.prog.info? 5).map (fun i => (i.zero, i.size, i.bytes)) = some (some (.int .u8 0), 1, 1) := by kernel_rfl

abbrev B8s (bs : List UInt8) : List Value := bs.map fun c => Value.int .u8 (c.toNat : Int)
/-- the value v owns the bytes bs; its room may be less than its block -/
def OwnB (w : World) (base : Nat) (v : Value) (bs : List UInt8) : Prop :=
  (v = .slice none 0 0 ∧ bs = []) ∨
  ∃ g cap cur, v = .slice (some ⟨g, 0, none⟩) bs.length cap ∧ base ≤ g ∧ w.heap[g]? = some (.cells cur 5 (0, 0)) ∧ bs.length ≤ cap ∧ cap ≤ maxLen ∧ cap ≤ cur.size ∧ cur.toList.take bs.length = B8s bs
theorem OwnB.nil (w : World) (base : Nat) : OwnB w base (.slice none 0 0) [] := .inl ⟨rfl, rfl⟩
theorem OwnB.lt {w : World} {base : Nat} {v : Value} {bs : List UInt8} (h : OwnB w base v bs) : ∀ k, v.ownBlock = some k → base ≤ k ∧ k < w.heap.size := by
  intro k hk
  rcases h with ⟨rfl, _⟩ | ⟨g, cap, cur, rfl, hb, hg, _⟩
  · cases hk
  · cases hk
    exact ⟨hb, (Array.getElem?_eq_some_iff.1 hg).1⟩
theorem OwnB.kept {w w' : World} {base : Nat} {v : Value} {bs : List UInt8} (h : OwnB w base v bs) (hk : ∀ g, v.ownBlock = some g → w'.heap[g]? = w.heap[g]?) : OwnB w' base v bs := by
  rcases h with h | ⟨g, cap, cur, rfl, hb, hg, rest⟩
  · exact .inl h
  · exact .inr ⟨g, cap, cur, rfl, hb, (hk g rfl).trans hg, rest⟩
theorem OwnB.keep {w w' : World} {base : Nat} {v : Value} {bs : List UInt8} (h : OwnB w base v bs) (hb : Below w.heap.size w w') : OwnB w' base v bs :=
  h.kept fun g hg => hb.block g (h.lt g hg).2
theorem OwnB.alloc {w : World} {base : Nat} {v : Value} {bs : List UInt8} (h : OwnB w base v bs) (o : Obj) : OwnB (w.alloc o) base v bs := h.keep ((Below.refl _ _).alloc (Nat.le_refl _) o)
theorem OwnB.mono {w : World} {base base' : Nat} {v : Value} {bs : List UInt8} (h : OwnB w base v bs) (hb : base' ≤ base) : OwnB w base' v bs := by
  rcases h with h | ⟨g, cap, cur, rfl, hg, rest⟩
  · exact .inl h
  · exact .inr ⟨g, cap, cur, rfl, Nat.le_trans hb hg, rest⟩
theorem OwnB.shape {w : World} {base : Nat} {v : Value} {bs : List UInt8} (h : OwnB w base v bs) {n : Nat} (hn : bs.length = n) : ∃ a c, v = .slice a n c ∧ n ≤ c ∧ c ≤ 9223372036854775807 := by
  subst hn
  rcases h with ⟨rfl, rfl⟩ | ⟨g, cap, cur, rfl, hb, hg, hl, hm, _⟩
  · exact ⟨_, _, rfl, by simp, by simp⟩
  · exact ⟨_, _, rfl, hl, by unfold maxLen at hm; omega⟩
theorem OwnB.at_ {w : World} {base : Nat} {v : Value} {bs : List UInt8} (h : OwnB w base v bs) {n : Nat} (hn : bs.length = n) (h0 : 0 < n) : ∃ g cap, v = .slice (some ⟨g, 0, none⟩) n cap ∧ base ≤ g ∧ g < w.heap.size ∧ n ≤ cap ∧
    ∀ j c, bs[j]? = some c → w.cell? ⟨g, j, none⟩ = some (.int .u8 (c.toNat : Int)) := by
  subst hn
  rcases h with ⟨rfl, rfl⟩ | ⟨g, cap, cur, rfl, hb, hg, hl, hm, hc, ht⟩
  · simp at h0
  · refine ⟨g, cap, rfl, hb, (Array.getElem?_eq_some_iff.1 hg).1, hl, fun j c hj => ?_⟩
    rw [cell_of_row w g j cur 5 (0, 0) hg]
    have h2 : (B8s bs)[j]? = some (.int .u8 (c.toNat : Int)) := by simp [B8s, hj]
    rw [← ht, List.getElem?_take] at h2
    split at h2
    · simpa using h2
    · cases h2
/-- a byte less, its room cut or kept -/
theorem OwnB.pop {w : World} {base g n cap cap' : Nat} {bs : List UInt8} {c : UInt8} (h : OwnB w base (.slice (some ⟨g, 0, none⟩) (n + 1) cap) (bs ++ [c])) (hn : bs.length = n) (h1 : n ≤ cap') (h2 : cap' ≤ cap) : OwnB w base (.slice (some ⟨g, 0, none⟩) n cap') bs := by
  subst hn
  rcases h with ⟨h, _⟩ | ⟨g', cap0, cur, hv, hb, hg, hl, hm, hc, ht⟩
  · cases h
  · have hv2 := hv
    simp at hv2
    obtain ⟨rfl, rfl⟩ := hv2
    refine .inr ⟨g, cap', cur, rfl, hb, hg, h1, Nat.le_trans h2 hm, Nat.le_trans h2 hc, ?_⟩
    have h3 : (cur.toList.take (bs ++ [c]).length).take bs.length = (B8s (bs ++ [c])).take bs.length := by rw [ht]
    rw [List.take_take, Nat.min_eq_left (by simp)] at h3
    rw [h3]
    simp [B8s]

theorem run_append_B {P : Program} {w : World} (base : Nat) (t ty : TypeId) (i : TypeInfo) (ht : P.underlying t = some (.slice 5)) (hi : P.info? 5 = some i) (hz : i.zero = some (.int .u8 0))
    (hsize : i.size = 1) (hby : i.bytes = 1) (v : Value) (bs : List UInt8) (hown : OwnB w base v bs) (a : Addr) (c : Nat) (b : UInt8) (hnew : w.cell? a = some (.int .u8 (b.toNat : Int)))
    (hl : bs.length < 1000000000) (hbase : base ≤ w.heap.size) :
    ∃ v' w', (Builtin.append_ #[t, t] ty #[v, .slice (some a) 1 c]).run P w = .ok v' w' ∧ OwnB w' base v' (bs ++ [b]) ∧ w.grownBy w' v.ownBlock ∧ w.drawn ≤ w'.drawn := by
  have hnews : ∀ j u, [Value.int .u8 (b.toNat : Int)][j]? = some u → w.cell? (a.add j) = some u := by
    intro j u hj
    cases j with
    | zero => simp at hj; subst hj; simpa [Addr.add] using hnew
    | succ j => simp at hj
  have hsn : B8s (bs ++ [b]) = B8s bs ++ [Value.int .u8 (b.toNat : Int)] := by simp [B8s]
  have grown : ∀ (old : Nat), old < bs.length + 1 → ∀ (row : Option Nat),
      OwnB (w.drew.alloc (.cells ((B8s bs).toArray ++ [Value.int .u8 (b.toNat : Int)].toArray ++ Builtin.zeroCells (Value.int .u8 0).cells (grownCap w (bs.length + 1) old 5 - (bs.length + 1))) 5)) base
        (.slice (some ⟨w.heap.size, 0, none⟩) (bs.length + 1) (grownCap w (bs.length + 1) old 5)) (bs ++ [b]) ∧
      w.grownBy (w.drew.alloc (.cells ((B8s bs).toArray ++ [Value.int .u8 (b.toNat : Int)].toArray ++ Builtin.zeroCells (Value.int .u8 0).cells (grownCap w (bs.length + 1) old 5 - (bs.length + 1))) 5)) row := by
    intro old ho row
    have hge := grownCap_ge w (bs.length + 1) old 5
    have hcm : grownCap w (bs.length + 1) old 5 ≤ maxLen := grownCap_le_maxLen w (bs.length + 1) old 5 (by unfold maxLen; omega)
    refine ⟨.inr ⟨w.heap.size, _, _, by simp, hbase, heap_alloc_new w.drew _, by simpa using hge, hcm, ?_, ?_⟩, ⟨rfl, rfl, rfl, by simp, fun k hk _ => Below.heap_alloc w.drew _ k hk⟩⟩
    · simp [size_zeroCells, Value.cells]
      omega
    · rw [hsn]
      simp only [Array.toList_append]
      rw [show (bs ++ [b]).length = ((B8s bs).toArray.toList ++ [Value.int .u8 (b.toNat : Int)].toArray.toList).length by simp [B8s]]
      exact List.take_left
  rcases hown with ⟨rfl, rfl⟩ | ⟨g, cap, cur, rfl, hbg, hg, hnc, hcm, hcs, htake⟩
  · have hr := run_append_nil (P := P) w t ty 5 i _ ht hi hz a 1 c [Value.int .u8 (b.toNat : Int)] (by simp [hsize]) hnews (by omega) (by omega) (by rw [hby]; omega)
    have hgr := grown 0 (by simp) (Value.ownBlock (.slice none 0 0))
    simp only [List.length_nil, Nat.zero_add, List.nil_append, List.map_nil, Array.empty_append, B8s] at hgr
    exact ⟨_, _, hr, hgr.1, hgr.2, Nat.le_succ _⟩
  · by_cases hroom : bs.length + 1 ≤ cap
    · have hr := run_append_room (P := P) w t ty 5 i ht hi g bs.length cap cur hg a 1 c [Value.int .u8 (b.toNat : Int)] (by simp [hsize]) hnews (by simp [Value.oneCell']) hroom (by rw [hsize]; simp; omega)
      refine ⟨_, _, hr, .inr ⟨g, cap, _, by simp, hbg, setRow_heap w g cur _ 5 _ hg, by simpa using hroom, hcm, ?_, ?_⟩, ⟨rfl, rfl, rfl, by simp, fun k _ hk => setRow_other w g k _ (fun e => hk (by simp [Value.ownBlock, e]))⟩, Nat.le_refl _⟩
      · rw [hsize]
        simp
        omega
      · rw [hsize, hsn]
        simp only [Nat.mul_one]
        rw [htake]
        rw [show (bs ++ [b]).length = (B8s bs ++ [Value.int .u8 (b.toNat : Int)]).length by simp [B8s]]
        exact List.take_left
    · have holds : ∀ j u, (B8s bs)[j]? = some u → w.cell? ((⟨g, 0, none⟩ : Addr).add j) = some u := by
        intro j u hj
        have h2 := hj
        rw [← htake, List.getElem?_take] at h2
        split at h2
        · rw [show (⟨g, 0, none⟩ : Addr).add j = ⟨g, j, none⟩ by simp [Addr.add_lit], cell_of_row w g j cur 5 (0, 0) hg]
          simpa using h2
        · cases h2
      have hr := run_append_grow (P := P) w t ty 5 i _ ht hi hz ⟨g, 0, none⟩ bs.length cap (B8s bs) (by simp [hsize, B8s]) holds a 1 c [Value.int .u8 (b.toNat : Int)] (by simp [hsize]) hnews (by omega) (by omega) (growslice_fits (by omega) (by rw [hby]; omega))
      have hgr := grown cap (by omega) (Value.ownBlock (.slice (some ⟨g, 0, none⟩) bs.length cap))
      exact ⟨_, _, hr, hgr.1, hgr.2, Nat.le_succ _⟩

/-- append of one byte, which the walk has just laid in a new block. -/
theorem wpList_appB {P : Program} {w : World} {ops : Array Oper} {rest : List Oper} {o : Oper} {a : Act} {Q : Exit → Act → World → Prop} {t : TypeId}
    (hinfo : (P.info? 5).map (fun i => (i.zero, i.size, i.bytes)) = some (some (.int .u8 0), 1, 1)) (ht : P.underlying t = some (.slice 5))
    {base : Nat} {v : Value} {bs : List UInt8} (hown : OwnB w base v bs) (hb : base ≤ w.heap.size) (hl : bs.length < 1000000000)
    (hgd : o.guard = none) (s x : Operand) (ho : o.op = .call { callee := .builtin .append, args := #[s, x], argTypes := #[t, t] })
    {c : UInt8} (hs : a.eval s = v) (hx : a.eval x = .slice (some ⟨w.heap.size, 0, none⟩) 1 1)
    (hK : ∀ v' w', OwnB w' base v' (bs ++ [c]) → w.grownBy w' v.ownBlock → Below base w w' → wpList P ops Q rest (a.put o.dst v') w') :
    wpList P ops Q (o :: rest) a (w.alloc (.cells #[.int .u8 (c.toNat : Int)] 5)) := by
  obtain ⟨i, h2, h3, h4, h5⟩ := info_parts hinfo
  refine wpList_plain hgd fun K hK' => ?_
  obtain ⟨v', w1, hr, hown1, hg1, _⟩ := run_append_B (P := P) (w := w.alloc (.cells #[.int .u8 (c.toNat : Int)] 5)) base t o.type i ht h2 h3 h4 h5 v bs (hown.alloc _) ⟨w.heap.size, 0, none⟩ 1 c (cell_one_new _ _ _ 0 _ rfl) hl (by simp; omega)
  unfold Oper.wp execOp
  simp only [ho, resolve, invoke, builtin, Sem.run_bind, Sem.run_pure, Result.andThen_ok, List.map_toArray, List.map_cons, List.map_nil, hs, hx, hr]
  have hlt := hown.lt
  have hb1 : Below base w w1 := by
    refine ((Below.refl base w).alloc hb _).grown hg1 (by simp; omega) ?_
    intro k hk
    exact (hlt k hk).1
  refine hK' _ _ (hK v' w1 hown1 ?_ hb1)
  refine ⟨hg1.os, hg1.tape, hg1.output, Nat.le_trans (by simp) hg1.size, fun k hk hne => ?_⟩
  rw [hg1.block k (by simp; omega) hne]
  exact Below.heap_alloc w _ k hk

/-- append of one byte, which the walk has just laid in a new block, with the count of draws. -/
theorem wpList_appU {P : Program} {w : World} {ops : Array Oper} {rest : List Oper} {o : Oper} {a : Act} {Q : Exit → Act → World → Prop} {t : TypeId}
    (hinfo : (P.info? 5).map (fun i => (i.zero, i.size, i.bytes)) = some (some (.int .u8 0), 1, 1)) (ht : P.underlying t = some (.slice 5))
    {base : Nat} {v : Value} {bs : List UInt8} (hown : OwnB w base v bs) (hb : base ≤ w.heap.size) (hl : bs.length < 1000000000)
    (hgd : o.guard = none) (s x : Operand) (ho : o.op = .call { callee := .builtin .append, args := #[s, x], argTypes := #[t, t] })
    {c : UInt8} (hs : a.eval s = v) (hx : a.eval x = .slice (some ⟨w.heap.size, 0, none⟩) 1 1)
    (hK : ∀ v' w', OwnB w' base v' (bs ++ [c]) → w.grownBy w' v.ownBlock → Below base w w' → w.drawn ≤ w'.drawn → wpList P ops Q rest (a.put o.dst v') w') :
    wpList P ops Q (o :: rest) a (w.alloc (.cells #[.int .u8 (c.toNat : Int)] 5)) := by
  obtain ⟨i, h2, h3, h4, h5⟩ := info_parts hinfo
  refine wpList_plain hgd fun K hK' => ?_
  obtain ⟨v', w1, hr, hown1, hg1, hd1⟩ := run_append_B (P := P) (w := w.alloc (.cells #[.int .u8 (c.toNat : Int)] 5)) base t o.type i ht h2 h3 h4 h5 v bs (hown.alloc _) ⟨w.heap.size, 0, none⟩ 1 c (cell_one_new _ _ _ 0 _ rfl) hl (by simp; omega)
  unfold Oper.wp execOp
  simp only [ho, resolve, invoke, builtin, Sem.run_bind, Sem.run_pure, Result.andThen_ok, List.map_toArray, List.map_cons, List.map_nil, hs, hx, hr]
  have hlt := hown.lt
  have hb1 : Below base w w1 := by
    refine ((Below.refl base w).alloc hb _).grown hg1 (by simp; omega) ?_
    intro k hk
    exact (hlt k hk).1
  refine hK' _ _ (hK v' w1 hown1 ?_ hb1 hd1)
  refine ⟨hg1.os, hg1.tape, hg1.output, Nat.le_trans (by simp) hg1.size, fun k hk hne => ?_⟩
  rw [hg1.block k (by simp; omega) hne]
  exact Below.heap_alloc w _ k hk
end Go.Proofs.YtjdmmgaddbleeaaGreat

/- Letters: the nail, the other letter: the walks. -/
namespace Go.Proofs.YtjdmmgaddbleeaaGreat
open Go.RowKit

def invB (c : UInt8) : UInt8 := c ^^^ 32
def lowB (c : UInt8) : UInt8 := c ||| 32
def nailB (c : UInt8) : Nat := (lowB c).toNat - 97
theorem for_bytes {p : UInt8 → Prop} (h : ∀ n : Fin 256, p (UInt8.ofNat n.val)) (c : UInt8) : p c := by
  have := h ⟨c.toNat, c.toNat_lt⟩
  simpa using this
theorem bits_inv : ∀ c : UInt8, bits .xor .u8 (c.toNat : Int) 32 = ((invB c).toNat : Int) := for_bytes (by decide +kernel)
theorem bits_low : ∀ c : UInt8, bits .or .u8 (c.toNat : Int) 32 = ((lowB c).toNat : Int) := for_bytes (by decide +kernel)
theorem letter_low : ∀ c : UInt8, letter (c.toNat : Int) = true → 97 ≤ (lowB c).toNat ∧ (lowB c).toNat ≤ 122 := for_bytes (by decide +kernel)
theorem letter_inv : ∀ c : UInt8, letter (c.toNat : Int) = true → letter ((invB c).toNat : Int) = true ∧ invB (invB c) = c ∧ invB c ≠ c ∧ lowB (invB c) = lowB c := for_bytes (by decide +kernel)
theorem letter_other : ∀ c : UInt8, letter (c.toNat : Int) = true → ((97 : Int) ≤ (c.toNat : Int) → IntKind.u8.wrap ((c.toNat : Int) - 32) = ((invB c).toNat : Int) ∧ lowB c = c) ∧ (¬ (97 : Int) ≤ (c.toNat : Int) → IntKind.u8.wrap ((c.toNat : Int) + 32) = ((invB c).toNat : Int) ∧ lowB c = invB c) := for_bytes (by decide +kernel)
theorem inv_inj {a b : UInt8} (h : invB a = invB b) : a = b := by
  have : ∀ c : UInt8, invB (invB c) = c := for_bytes (by decide +kernel)
  rw [← this a, h, this]
theorem nail_eq {a b : UInt8} (ha : letter (a.toNat : Int) = true) (hb : letter (b.toNat : Int) = true) (h : nailB a = nailB b) : b = a ∨ b = invB a := by
  have h1 : ∀ a b : Fin 128, letter (a.val : Int) = true → letter (b.val : Int) = true → nailB (UInt8.ofNat a.val) = nailB (UInt8.ofNat b.val) → UInt8.ofNat b.val = UInt8.ofNat a.val ∨ UInt8.ofNat b.val = invB (UInt8.ofNat a.val) := by decide +kernel
  have la : a.toNat < 128 := by unfold letter at ha; simp at ha; omega
  have lb : b.toNat < 128 := by unfold letter at hb; simp at hb; omega
  have := h1 ⟨a.toNat, la⟩ ⟨b.toNat, lb⟩ ha hb (by simpa using h)
  simpa using this
theorem inverse_any (c : UInt8) (w : World) : Calls Tryz.prog 32 #[.int .u8 c.toNat] w fun e w' => e = .returned (.int .u8 (invB c).toNat) ∧ w' = w := by
  have hb := bits_inv c
  go_enter Tryz.func32, Tryz.ntmps32
  go_wp2_with fail
  go_ret
  exact ⟨by rw [← hb]; rfl, rfl⟩
theorem nailOf_any (c : UInt8) (w : World) (h : letter c.toNat = true) : Calls Tryz.prog 33 #[.int .u8 c.toNat] w fun e w' => e = .returned (.int .i64 (nailB c)) ∧ w' = w := by
  have hb := bits_low c
  have hl := letter_low c h
  have hw : wrap64 (wrap64 (bits BinOp.or IntKind.u8 (c.toNat : Int) 32) - 97) = (nailB c : Int) := by
    rw [hb]; unfold wrap64 nailB; omega
  clear hb hl
  go_enter Tryz.func33, Tryz.ntmps33
  go_wp2_with fail
  go_ret
  exact ⟨by rw [← hw]; rfl, rfl⟩
theorem other_any (c : UInt8) (w : World) (h : letter c.toNat = true) : Calls Tryz.prog 25 #[.int .u8 c.toNat] w fun e w' => e = .returned (.int .u8 (invB c).toNat) ∧ w' = w := by
  obtain ⟨h1, h2⟩ := letter_other c h
  by_cases hc : (97 : Int) ≤ (c.toNat : Int)
  · have hb := (h1 hc).1
    clear h1 h2
    go_enter Tryz.func25, Tryz.ntmps25
    go_wp2_with fail
    go_ret
    exact ⟨by rw [← hb]; rfl, rfl⟩
  · have hb := (h2 hc).1
    clear h1 h2
    go_enter Tryz.func25, Tryz.ntmps25
    go_wp2_with fail
    go_ret
    exact ⟨by rw [← hb]; rfl, rfl⟩
theorem rNail_any (c : UInt8) (w : World) (h : letter c.toNat = true) : Calls Tryz.prog 27 #[.int .u8 c.toNat] w fun e w' => e = .returned (.int .u8 (lowB c).toNat) ∧ w' = w := by
  obtain ⟨h1, h2⟩ := letter_other c h
  by_cases hc : (97 : Int) ≤ (c.toNat : Int)
  · have hb := (h1 hc).2
    clear h1 h2
    go_enter Tryz.func27, Tryz.ntmps27
    go_wp2_with fail
    go_ret
    exact ⟨by rw [hb]; rfl, rfl⟩
  · obtain ⟨hb, hb2⟩ := h2 hc
    clear h1 h2
    go_enter Tryz.func27, Tryz.ntmps27
    go_wp2_with fail
    go_ret
    exact ⟨rfl, rfl⟩

set_option maxHeartbeats 1000000 in
/-- whether a string has a byte -/
theorem has_any (s : ByteArray) (c : UInt8) (w : World) (hs : s.size ≤ 9223372036854775807) : Calls Tryz.prog 26 #[.string s, .int .u8 c.toNat] w fun e w' => e = .returned (.bool ((bts s).contains c)) ∧ w' = w := by
  have hf : ∀ b, (bts s).contains c = b → Ending.returned (.bool b) = Ending.returned (.bool ((bts s).contains c)) := fun b h => by rw [h]
  have HF := Lib.hid hf
  clear hf
  go_enter Tryz.func26, Tryz.ntmps26
  go_wp2_with fail
  go_loopw [5] (fun iv wr => ∃ k : Nat, k ≤ s.size ∧ iv = .int .i64 k ∧ wr = w ∧ Hid ((bts s).contains c = ((bts s).drop k).contains c)) (fun iv _ => s.size - (intOf iv).toNat)
  case atStart => exact ⟨0, by omega, rfl, rfl, (show Hid (_ = _) from rfl)⟩
  case round =>
    obtain ⟨k, hk, rfl, rfl, HA⟩ := hrel
    by_cases hlt : k < s.size
    · have hst : ((bts s).drop k).contains c = (s[k]'hlt == c || ((bts s).drop (k + 1)).contains c) := by
        obtain ⟨hk2, he⟩ := List.getElem?_eq_some_iff.1 (bts_get hlt)
        rw [List.drop_eq_getElem_cons hk2, List.contains_cons, he]
        cases hbb : (s[k]'hlt == c)
        · have : (c == s[k]'hlt) = false := by simp at hbb ⊢; exact fun e => hbb e.symm
          rw [this]
        · have : (c == s[k]'hlt) = true := by simp at hbb ⊢; exact hbb.symm
          rw [this]
      by_cases he : s[k]'hlt = c
      · have ht : (((s[k]'hlt).toNat : Int) == (c.toNat : Int)) = true := by rw [he]; simp
        have hb : (bts s).contains c = true := by rw [HA.out, hst]; simp [he]
        have HB := Lib.hid (HF.out _ hb)
        clear hb HF hst HA he
        go_wp2_with fail
        go_ret
        exact ⟨HB.out, rfl⟩
      · have ht : (((s[k]'hlt).toNat : Int) == (c.toNat : Int)) = false := by
          simp
          exact fun h => he (UInt8.toNat_inj.1 (by omega))
        rw [show (s[k]'hlt == c) = false by simpa using he, Bool.false_or] at hst
        have HST := Lib.hid hst
        clear hst he HF
        go_wp2_with fail
        go_roundw
        case rel => exact ⟨k + 1, by omega, by go_num, trivial, by show _ = _; rw [HA.out, HST.out]⟩
        case measure => simp [intOf]; omega
    · obtain rfl : k = s.size := by omega
      have hb : (bts s).contains c = false := by rw [HA.out, List.drop_of_length_le (by rw [bts_len]; exact Nat.le_refl _)]; rfl
      have HB := Lib.hid (HF.out _ hb)
      clear hb HF HA
      go_wp2_with fail
      go_ret
      exact ⟨HB.out, rfl⟩
end Go.Proofs.YtjdmmgaddbleeaaGreat

/- Putting a letter behind a reduced word: the walk. -/
namespace Go.Proofs.YtjdmmgaddbleeaaGreat
open Go.RowKit

def putL (l : List UInt8) (c : UInt8) : List UInt8 := if l.getLast? = some (invB c) then l.dropLast else l ++ [c]
theorem putL_nil (c : UInt8) : putL [] c = [c] := by simp [putL]
theorem putL_pop {l : List UInt8} {c x : UInt8} (h : x = invB c) : putL (l ++ [x]) c = l := by simp [putL, h]
theorem putL_push {l : List UInt8} {c x : UInt8} (h : x ≠ invB c) : putL (l ++ [x]) c = l ++ [x, c] := by simp [putL, h]
theorem putL_len (l : List UInt8) (c : UInt8) : (putL l c).length ≤ l.length + 1 := by unfold putL; split <;> simp; omega

set_option maxRecDepth 100000 in
set_option maxHeartbeats 4000000 in
theorem put_any (v : Value) (bs : List UInt8) (c : UInt8) (w : World) (base : Nat) (hv : OwnB w base v bs) (hb : base ≤ w.heap.size) (hl : bs.length < 100000000) :
    Calls Tryz.prog 34 #[v, .int .u8 c.toNat] w fun e w' => ∃ v', e = .returned v' ∧ OwnB w' base v' (putL bs c) ∧ w.grownBy w' v.ownBlock ∧ Below base w w' := by
  rcases List.eq_nil_or_concat bs with rfl | ⟨l, x, rfl⟩
  · obtain ⟨a, cp, rfl, h1, h2⟩ := hv.shape (n := 0) rfl
    rw [putL_nil]
    have HV := Lib.hid hv
    clear hv hl
    go_enter Tryz.func34, Tryz.ntmps34
    go_wp2_with fail
    go_quiet (fail)
    have hv2 : OwnB (w.drewN nq) base (.slice a 0 cp) [] := HV.out
    go_wp2_with (at_builtin; refine wpList_appB Tryz.info5 Tryz.underlying50 hv2 (by simpa using hb) (by simp) rfl _ _ rfl (c := c) rfl rfl ?_; intro v6 w6 hown6 hgrow6 hb6)
    go_ret
    exact ⟨_, rfl, hown6, ⟨hgrow6.os, hgrow6.tape, hgrow6.output, hgrow6.size, hgrow6.block⟩, ((Below.refl _ w).drewN' nq).trans hb6⟩
  · rw [List.concat_eq_append] at *
    obtain ⟨m, hm⟩ : ∃ m, l.length = m := ⟨_, rfl⟩
    have hlen : (l ++ [x]).length = m + 1 := by simp [hm]
    rw [hlen] at hl
    obtain ⟨g, cp, rfl, hg1, hg2, hcp, hcell⟩ := hv.at_ hlen (by omega)
    obtain ⟨_, _, hv3, _, hcp2⟩ := hv.shape hlen
    have hcp3 : cp ≤ 9223372036854775807 := by
      have e : (Value.slice (some ⟨g, 0, none⟩) (m + 1) cp) = _ := hv3
      simp at e
      omega
    clear hv3 hcp2
    have hc0 := hcell m x (by simp [← hm])
    have hinv := fun W => inverse_any c W
    have HV := Lib.hid hv
    have HM := Lib.hid hm
    have HINV := Lib.hid hinv
    clear hv hcell hm hinv hlen
    by_cases hx : x = invB c
    · rw [putL_pop hx]
      have ht : ((x.toNat : Int) == ((invB c).toNat : Int)) = true := by rw [hx]; simp
      clear hx
      go_enter Tryz.func34, Tryz.ntmps34
      go_wp2_with fail
      go_quiet ((go_at_call 32; exact Calls.quiet_of_same (HINV.out _)))
      go_wp2_with fail
      go_ret
      exact ⟨_, rfl, OwnB.pop (w := w.drewN nq) (by exact HV.out) HM.out (Nat.le_refl _) (by omega), ⟨rfl, rfl, rfl, Nat.le_refl _, fun _ _ _ => rfl⟩, (Below.refl _ w).drewN' nq⟩
    · rw [putL_push hx]
      have ht : ((x.toNat : Int) == ((invB c).toNat : Int)) = false := by
        simp
        exact fun h => hx (UInt8.toNat_inj.1 (by omega))
      clear hx
      go_enter Tryz.func34, Tryz.ntmps34
      go_wp2_with fail
      go_quiet ((go_at_call 32; exact Calls.quiet_of_same (HINV.out _)))
      have hv2 : OwnB (w.drewN nq) base (.slice (some ⟨g, 0, none⟩) (m + 1) cp) (l ++ [x]) := HV.out
      have hlen : (l ++ [x]).length < 1000000000 := by simp [HM.out]; omega
      have HLEN := Lib.hid hlen
      clear hlen
      go_wp2_with (at_builtin; refine wpList_appB Tryz.info5 Tryz.underlying50 hv2 (by simpa using hb) HLEN.out rfl _ _ rfl (c := c) rfl rfl ?_; intro v6 w6 hown6 hgrow6 hb6)
      go_ret
      exact ⟨_, rfl, by simpa using hown6, ⟨hgrow6.os, hgrow6.tape, hgrow6.output, hgrow6.size, hgrow6.block⟩, ((Below.refl _ w).drewN' nq).trans hb6⟩
end Go.Proofs.YtjdmmgaddbleeaaGreat

/- Reduced words: the walks of reduce and product. -/
namespace Go.Proofs.YtjdmmgaddbleeaaGreat
open Go.RowKit

/-- the value v reads as the strings ss -/
def Strs (w : World) (v : Value) (ss : List ByteArray) : Prop :=
  ∃ (a : Option Addr) (cap : Nat), v = .slice a ss.length cap ∧ (ss.length ≤ cap ∧ cap ≤ 9223372036854775807) ∧
    (0 < ss.length → ∃ b o, a = some ⟨b, o, none⟩ ∧ b < w.heap.size ∧ ∀ j s, ss[j]? = some s → w.cell? ⟨b, o + j, none⟩ = some (.string s))
theorem Strs.keep {w w' : World} {v : Value} {ss : List ByteArray} (h : Strs w v ss) (hb : Below w.heap.size w w') : Strs w' v ss := by
  obtain ⟨a, cap, rfl, hl, h⟩ := h
  refine ⟨a, cap, rfl, hl, fun hp => ?_⟩
  obtain ⟨b, o, rfl, hlt, hc⟩ := h hp
  exact ⟨b, o, rfl, Nat.lt_of_lt_of_le hlt hb.size, fun j x hj => (hb.cell (p := ⟨b, o + j, none⟩) hlt).trans (hc j x hj)⟩
theorem Strs.open {w : World} {v : Value} {ss : List ByteArray} (h : Strs w v ss) : ∃ a n cap, v = .slice a n cap ∧ Hid (ss.length = n) ∧ n ≤ cap ∧ cap ≤ 9223372036854775807 := by
  obtain ⟨a', cap', hv, hl, h⟩ := h
  exact ⟨a', _, cap', hv, rfl, hl.1, hl.2⟩
theorem Strs.at_ {w : World} {a : Option Addr} {n cap : Nat} {ss : List ByteArray} (h : Strs w (.slice a n cap) ss) {k : Nat} (hk : k < n) :
    ∃ b o s, a = some ⟨b, o, none⟩ ∧ b < w.heap.size ∧ Hid (ss[k]? = some s) ∧ w.cell? ⟨b, o + k, none⟩ = some (.string s) := by
  obtain ⟨a', cap', hv, hl, h⟩ := h
  obtain ⟨rfl, rfl, rfl⟩ : a = a' ∧ n = ss.length ∧ cap = cap' := by simpa using hv
  obtain ⟨b, o, rfl, hlt, hc⟩ := h (by omega)
  have e : ss[k]? = some ss[k] := List.getElem?_eq_getElem hk
  exact ⟨b, o, ss[k], rfl, hlt, e, hc k _ e⟩
theorem Strs.lit (w : World) (e : TypeId) (ss : List ByteArray) (hl : ss.length ≤ 1000000) : Strs (w.alloc (.cells (ss.map Value.string).toArray e)) (.slice (some ⟨w.heap.size, 0, none⟩) ss.length ss.length) ss := by
  refine ⟨_, _, rfl, ⟨Nat.le_refl _, by omega⟩, fun _ => ⟨_, 0, rfl, by simp, fun j s hj => ?_⟩⟩
  exact (Blk.new w e (ss.map Value.string)).cell (by simp [hj])

/-- nails as a value: a mark for each -/
def marksL (f : Nat → Bool) : List Value := (List.range 26).map fun i => .bool (f i)
abbrev nailsV (f : Nat → Bool) : Value := .agg (marksL f).toArray
theorem marks_get {f : Nat → Bool} {i : Nat} (h : i < 26) : (marksL f)[i]? = some (.bool (f i)) := by simp [marksL, h]

def stepR (f : Nat → Bool) (acc : List UInt8) (c : UInt8) : List UInt8 := if f (nailB c) then acc else putL acc c
/-- the reduced form, without some nails -/
def redL (f : Nat → Bool) (l : List UInt8) : List UInt8 := l.foldl (stepR f) []
theorem stepR_len (f : Nat → Bool) (acc : List UInt8) (c : UInt8) : (stepR f acc c).length ≤ acc.length + 1 := by
  unfold stepR
  split
  · omega
  · exact putL_len _ _
theorem fold_len (f : Nat → Bool) : ∀ (l acc : List UInt8), (l.foldl (stepR f) acc).length ≤ acc.length + l.length
  | [], acc => by simp
  | c :: l, acc => by
    rw [List.foldl_cons]
    have h1 := fold_len f l (stepR f acc c)
    have h2 := stepR_len f acc c
    rw [List.length_cons]
    omega
theorem conv_own {w : World} {base : Nat} {v : Value} {bs : List UInt8} (h : OwnB w base v bs) : (convert 50 9 v).run Tryz.prog w = .ok (.string ⟨bs.toArray⟩) w := by
  rcases h with ⟨rfl, rfl⟩ | ⟨g, cap, cur, rfl, hb, hg, hl, hm, hc, ht⟩
  · exact Lib.run_convert_nil_bytes w 50 9 5 0 Tryz.underlying50 Tryz.underlying5 Tryz.underlying9
  · have hbt : Lib.Bytes w g 0 ⟨bs.toArray⟩ := by
      intro i hi
      rw [cell_of_row w g (0 + i) cur 5 (0, 0) hg, Nat.zero_add]
      have hi2 : i < bs.length := by simpa [ByteArray.size] using hi
      have h2 : (B8s bs)[i]? = some (.int .u8 ((bs[i]'hi2).toNat : Int)) := by simp [B8s, hi2]
      rw [← ht, List.getElem?_take, if_pos hi2] at h2
      rw [← Array.getElem?_toList, h2]
      simp [ByteArray.getElem_eq_getElem_data]
    exact Lib.run_convert_whole w 50 5 9 Tryz.underlying50 Tryz.underlying5 Tryz.underlying9 g 0 ⟨bs.toArray⟩ hbt cap
end Go.Proofs.YtjdmmgaddbleeaaGreat

/- Reduced words: the walk of reduce. -/
namespace Go.Proofs.YtjdmmgaddbleeaaGreat
open Go.RowKit

theorem letter_at {s : ByteArray} (h : isWord (bts s) = true) {k : Nat} (hk : k < s.size) : letter ((s[k]'hk).toNat : Int) = true := by
  have := List.all_eq_true.1 h _ (List.mem_of_getElem? (bts_get hk))
  simpa using this
theorem nail_lt {c : UInt8} (h : letter (c.toNat : Int) = true) : nailB c < 26 := by
  have := letter_low c h
  unfold nailB; omega
theorem drop_bts {s : ByteArray} {k : Nat} (h : k < s.size) : (bts s).drop k = (s[k]'h) :: (bts s).drop (k + 1) := by
  obtain ⟨hk2, he⟩ := List.getElem?_eq_some_iff.1 (bts_get h)
  rw [List.drop_eq_getElem_cons hk2, he]
def restL (ss : List ByteArray) (k : Nat) : List UInt8 := ((ss.drop k).map bts).flatten
theorem rest_at {ss : List ByteArray} {k : Nat} {s : ByteArray} (h : ss[k]? = some s) : restL ss k = bts s ++ restL ss (k + 1) := by
  obtain ⟨hk, rfl⟩ := List.getElem?_eq_some_iff.1 h
  rw [restL, List.drop_eq_getElem_cons hk]
  rfl

structure RS (w W : World) (f : Nat → Bool) (ov : Value) (bs R : List UInt8) (F : List UInt8) (T : Nat) : Prop where
  own : OwnB W (w.heap.size + 1) ov bs
  blk : Blk W w.heap.size 45 (marksL f)
  below : Below w.heap.size w W
  eq : F = R.foldl (stepR f) bs
  len : bs.length + R.length ≤ T
theorem RS.skip {w W : World} {f : Nat → Bool} {ov : Value} {bs R : List UInt8} {F : List UInt8} {T : Nat} {c : UInt8} (h : RS w W f ov bs (c :: R) F T) (hf : f (nailB c) = true) : RS w W f ov bs R F T :=
  ⟨h.own, h.blk, h.below, by rw [h.eq, List.foldl_cons, stepR, hf]; rfl, by have := h.len; rw [List.length_cons] at this; omega⟩
theorem RS.put {w W W' : World} {f : Nat → Bool} {ov ov' : Value} {bs R : List UInt8} {F : List UInt8} {T : Nat} {c : UInt8} (h : RS w W f ov bs (c :: R) F T) (hf : f (nailB c) = false)
    (ho : OwnB W' (w.heap.size + 1) ov' (putL bs c)) (hg : W.grownBy W' ov.ownBlock) (hb : Below (w.heap.size + 1) W W') : RS w W' f ov' (putL bs c) R F T :=
  ⟨ho, h.blk.grown hg (fun e => by have := (h.own.lt _ e.symm).1; omega), h.below.trans (hb.mono (by omega)), by rw [h.eq, List.foldl_cons, stepR, hf]; rfl, by have := h.len; have := putL_len bs c; rw [List.length_cons] at *; omega⟩

set_option maxRecDepth 100000 in
set_option maxHeartbeats 4000000 in
theorem reduce_any (f : Nat → Bool) (v : Value) (ss : List ByteArray) (w : World) (hv : Strs w v ss) (hw : ∀ s ∈ ss, isWord (bts s) = true) (hl : (restL ss 0).length < 100000000) :
    Calls Tryz.prog 23 #[nailsV f, v] w fun e w' => e = .returned (.string ⟨(redL f (restL ss 0)).toArray⟩) ∧ Below w.heap.size w w' := by
  obtain ⟨a, n, cap, rfl, HN, hn1, hn2⟩ := hv.open
  have hrs : RS w (w.alloc (.cells (marksL f).toArray 45)) f (.slice none 0 0) [] (restL ss 0) (redL f (restL ss 0)) (restL ss 0).length := ⟨OwnB.nil _ _, Blk.new _ _ _, (Below.refl _ _).alloc (Nat.le_refl _) _, rfl, by simp⟩
  obtain ⟨T, hT⟩ : ∃ T, (restL ss 0).length = T := ⟨_, rfl⟩
  rw [hT] at hl hrs
  generalize hF : redL f (restL ss 0) = F at *
  have HRS := Lib.hid hrs
  have HV := Lib.hid hv
  have HW := Lib.hid hw
  clear hrs hv hw hF hT
  go_enter Tryz.func23, Tryz.ntmps23
  go_wp2_with fail
  go_loopw [5, 11] (fun ov iv wr => ∃ (k : Nat) (bs : List UInt8), k ≤ n ∧ iv = .int .i64 k ∧ Hid (RS w wr f ov bs (restL ss k) F T)) (fun _ iv _ => n - (intOf iv).toNat)
  case atStart => exact ⟨0, [], by omega, rfl, HRS⟩
  case round =>
    clear HRS
    obtain ⟨k, bs, hk, rfl, HR⟩ := hrel
    by_cases hlt : k < n
    · obtain ⟨b, o, s, rfl, hbl, hgs, hc0⟩ := HV.out.at_ hlt
      have hc1 := (HR.out.below.cell (p := ⟨b, o + k, none⟩) hbl).trans hc0
      have hR := rest_at hgs.out
      have hws := HW.out s (List.mem_of_getElem? hgs.out)
      rw [hR] at HR
      have hsz : s.size ≤ 100000000 := by have := HR.out.len; rw [List.length_append, bts_len] at this; omega
      have HWS := Lib.hid hws
      clear hc0 hR hws hgs
      go_wp2_with fail
      go_loopw [5, 17] (fun ov iv wx => ∃ (j : Nat) (bs : List UInt8), j ≤ s.size ∧ iv = .int .i64 j ∧ Hid (RS w wx f ov bs ((bts s).drop j ++ restL ss (k + 1)) F T)) (fun _ iv _ => s.size - (intOf iv).toNat)
      case atStart => exact ⟨0, bs, by omega, rfl, HR⟩
      case round =>
        clear HR
        obtain ⟨j, bs, hj, rfl, HR⟩ := hrel
        by_cases hlt2 : j < s.size
        · rw [drop_bts hlt2, List.cons_append] at HR
          have hlet := letter_at HWS.out hlt2
          have hno := fun W => nailOf_any (s[j]'hlt2) W hlet
          have hn26 := nail_lt hlet
          have hcell := HR.out.blk.cell (marks_get (f := f) hn26)
          have hT := HR.out.len
          rw [List.length_cons] at hT
          generalize hfn : f (nailB (s[j]'hlt2)) = b1 at *
          obtain ⟨oa, oc, rfl, _, _⟩ := HR.out.own.shape rfl
          have HNO := Lib.hid hno
          clear hno hlet
          cases b1
          · have hpu := put_any _ bs (s[j]'hlt2) wr (w.heap.size + 1) HR.out.own (by have := HR.out.blk.lt; omega) (by omega)
            have HPU := Lib.hid hpu
            have HFN := Lib.hid hfn
            clear hpu hfn hT
            go_wp2_with (first
              | (go_at_call 33; refine (HNO.out _).mono ?_; rintro e w2 ⟨rfl, rfl⟩)
              | (go_at_call 34; refine HPU.out.mono ?_; rintro e w3 ⟨v3, rfl, ho3, hg3, hb3⟩))
            go_roundw
            case rel => exact ⟨j + 1, _, by omega, by go_num, (show Hid _ from HR.out.put HFN.out ho3 hg3 hb3)⟩
            case measure => simp [intOf]; omega
          · have HFN := Lib.hid hfn
            clear hfn hT
            go_wp2_with (go_at_call 33; refine (HNO.out _).mono ?_; rintro e w2 ⟨rfl, rfl⟩)
            go_roundw
            case rel => exact ⟨j + 1, bs, by omega, by go_num, (show Hid _ from HR.out.skip HFN.out)⟩
            case measure => simp [intOf]; omega
        · obtain rfl : j = s.size := by omega
          rw [List.drop_of_length_le (by rw [bts_len]; exact Nat.le_refl _), List.nil_append] at HR
          go_wp2_with fail
          go_roundw
          case rel => exact ⟨k + 1, bs, by omega, by go_num, HR⟩
          case measure => simp [intOf]; omega
    · obtain rfl : k = n := by omega
      have hr0 : restL ss k = [] := by rw [restL, List.drop_of_length_le (by rw [HN.out]; exact Nat.le_refl _)]; rfl
      rw [hr0] at HR
      have hF : F = bs := HR.out.eq
      subst hF
      have hcv := conv_own HR.out.own
      have HBB := Lib.hid HR.out.below
      obtain ⟨oa, oc, rfl, _, _⟩ := HR.out.own.shape rfl
      clear HR hr0
      go_wp2_with fail
      go_ret
      exact ⟨rfl, HBB.out⟩
end Go.Proofs.YtjdmmgaddbleeaaGreat

/- Reduced words: product, Reduce, and the reference's Reduce: the walks. -/
namespace Go.Proofs.YtjdmmgaddbleeaaGreat
open Go.RowKit

/-- the reduced form -/
def redW (l : List UInt8) : List UInt8 := redL (fun _ => false) l
abbrev strB (l : List UInt8) : ByteArray := ⟨l.toArray⟩
theorem bts_str (l : List UInt8) : bts (strB l) = l := rfl
theorem size_str (l : List UInt8) : (strB l).size = l.length := rfl
theorem rest_one (s : ByteArray) : restL [s] 0 = bts s := by simp [restL]
theorem redW_len (l : List UInt8) : (redW l).length ≤ l.length := by
  have := fold_len (fun _ => false) l []
  simpa [redW, redL] using this

theorem product_any (v : Value) (ss : List ByteArray) (w : World) (hv : Strs w v ss) (hw : ∀ s ∈ ss, isWord (bts s) = true) (hl : (restL ss 0).length < 100000000) :
    Calls Tryz.prog 20 #[v] w fun e w' => e = .returned (.string (strB (redW (restL ss 0)))) ∧ Below w.heap.size w w' := by
  have hca : Calls Tryz.prog 23 #[nailsV (fun _ => false), v] w fun e w' => e = .returned (.string (strB (redW (restL ss 0)))) ∧ Below w.heap.size w w' := reduce_any (fun _ => false) v ss w hv hw hl
  obtain ⟨a, n, cap, rfl, _, _, _⟩ := hv.open
  have HCA := Lib.hid hca
  clear hca hw hl hv
  go_enter Tryz.func20, Tryz.ntmps20
  go_wp2_with (go_at_call 23; refine HCA.out.mono ?_; rintro e w1 ⟨rfl, hb1⟩)
  go_ret
  exact ⟨rfl, hb1⟩

theorem word_size {s : ByteArray} (h : wordErr s = 0) : isWord (bts s) = true ∧ s.size ≤ 30000 := by
  unfold wordErr at h
  split at h
  · rename_i hw
    split at h
    · cases h
    · exact ⟨hw, by omega⟩
  · cases h
theorem err_cases (s : ByteArray) : wordErr s = 0 ∨ wordErr s = 2 ∨ wordErr s = 40 := by
  unfold wordErr
  split
  · split
    · exact .inr (.inl rfl)
    · exact .inl rfl
  · exact .inr (.inr rfl)

theorem product_one (s : ByteArray) (W : World) (h : isWord (bts s) = true) (hl : s.size < 100000000) :
    Calls Tryz.prog 20 #[.slice (some ⟨W.heap.size, 0, none⟩) 1 1] (W.alloc (.cells #[.string s] 9)) fun e w' => e = .returned (.string (strB (redW (bts s)))) ∧ Below W.heap.size W w' := by
  have h1 := product_any (.slice (some ⟨W.heap.size, 0, none⟩) 1 1) [s] (W.alloc (.cells #[.string s] 9)) (Strs.lit W 9 [s] (by simp)) (by simpa using h) (by rw [rest_one, bts_len]; exact hl)
  rw [rest_one] at h1
  refine h1.mono ?_
  rintro e w' ⟨rfl, hb⟩
  exact ⟨rfl, ((Below.refl _ _).alloc (Nat.le_refl _) _).trans (hb.mono (by simp))⟩
theorem reduce_one (f : Nat → Bool) (s : ByteArray) (W : World) (h : isWord (bts s) = true) (hl : s.size < 100000000) :
    Calls Tryz.prog 23 #[nailsV f, .slice (some ⟨W.heap.size, 0, none⟩) 1 1] (W.alloc (.cells #[.string s] 9)) fun e w' => e = .returned (.string (strB (redL f (bts s)))) ∧ Below W.heap.size W w' := by
  have h1 := reduce_any f (.slice (some ⟨W.heap.size, 0, none⟩) 1 1) [s] (W.alloc (.cells #[.string s] 9)) (Strs.lit W 9 [s] (by simp)) (by simpa using h) (by rw [rest_one, bts_len]; exact hl)
  rw [rest_one] at h1
  refine h1.mono ?_
  rintro e w' ⟨rfl, hb⟩
  exact ⟨rfl, ((Below.refl _ _).alloc (Nat.le_refl _) _).trans (hb.mono (by simp))⟩

/-- what Reduce answers -/
theorem Reduce_any (s : ByteArray) (w : World) (hs : s.size ≤ 9223372036854775807) :
    Calls Tryz.prog 6 #[.string s] w fun e w' => e = .returned (.tuple #[.string (if wordErr s = 0 then strB (redW (bts s)) else ⟨#[]⟩), .int .i64 (wordErr s)]) ∧ Below w.heap.size w w' := by
  have hck := check_any s w hs
  rcases err_cases s with h0 | h0
  · obtain ⟨h1, h2⟩ := word_size h0
    have hpr := fun W => product_one s W h1 (by omega)
    rw [h0] at hck ⊢
    rw [if_pos rfl]
    generalize redW (bts s) = R at *
    have HCK := Lib.hid hck
    have HPR := Lib.hid hpr
    clear hck hpr h0 h1 h2
    go_enter Tryz.func6, Tryz.ntmps6
    go_wp2_with (first
      | (go_at_call 20; go_loud (refine (HPR.out _).mono ?_; rintro e w2 ⟨rfl, hb2⟩))
      | (go_at_call 5; refine HCK.out.mono ?_; rintro e w1 ⟨rfl, hb1⟩))
    go_ret2
    exact ⟨rfl, hb1.trans (hb2.mono hb1.size)⟩
  · have hne : wordErr s ≠ 0 := by omega
    have t0 : (wordErr s != 0) = true := by simpa using hne
    rw [if_neg hne]
    generalize wordErr s = E at *
    have HCK := Lib.hid hck
    clear hck hne h0
    go_enter Tryz.func6, Tryz.ntmps6
    go_wp2_with (go_at_call 5; refine HCK.out.mono ?_; rintro e w1 ⟨rfl, hb1⟩)
    go_ret2
    exact ⟨rfl, hb1⟩

/-- make of no bytes, with room for n. -/
theorem wpList_makeB {P : Program} {w : World} {ops : Array Oper} {rest : List Oper} {o : Oper} {a : Act} {Q : Exit → Act → World → Prop} {t : TypeId}
    (hinfo : (P.info? 5).map (fun i => (i.zero, i.size, i.bytes)) = some (some (.int .u8 0), 1, 1)) (ht : P.underlying t = some (.slice 5)) {base : Nat} (hb : base ≤ w.heap.size)
    (hg : o.guard = none) (l c : Operand) (hop : o.op = Op.makeSlice t l c) (n : Nat)
    {kl kc : IntKind} {C : Int} (hl : a.eval l = .int kl 0) (hc : a.eval c = .int kc C) (hC : C = (n : Int)) (hn : n ≤ 100000000)
    (hK : ∀ w', OwnB w' base (.slice (some ⟨w.heap.size, 0, none⟩) 0 n) [] → Below w.heap.size w w' → w'.heap.size = w.heap.size + 1 → wpList P ops Q rest (a.put o.dst (.slice (some ⟨w.heap.size, 0, none⟩) 0 n)) w') :
    wpList P ops Q (o :: rest) a w := by
  obtain ⟨i, h2, h3, h4, h5⟩ := info_parts hinfo
  refine wpList_plain hg fun K hK' => ?_
  subst hC
  have hrun := run_make (P := P) w t 5 i _ ht h2 h3 kl kc 0 (n : Int) (by omega) (by omega) (by rw [h5]; omega) (by omega)
  unfold Oper.wp
  simp [execOp, hop, hl, hc, hrun, Result.andThen, h4, Value.cells]
  refine hK' _ _ (hK _ (.inr ⟨w.heap.size, n, _, rfl, hb, heap_alloc_new w _, by simp, by unfold maxLen; omega, ?_, by simp⟩) ?_ ?_)
  · rw [← Array.length_toList, toList_madeCells_one]
    simp
  · exact (Below.refl _ _).alloc (Nat.le_refl _) _
  · simp
end Go.Proofs.YtjdmmgaddbleeaaGreat

/- The reference's Reduce: the walk. -/
namespace Go.Proofs.YtjdmmgaddbleeaaGreat
open Go.RowKit

theorem redW_at {s : ByteArray} {k : Nat} (h : k < s.size) (acc : List UInt8) : ((bts s).drop k).foldl (stepR fun _ => false) acc = ((bts s).drop (k + 1)).foldl (stepR fun _ => false) (putL acc (s[k]'h)) := by
  rw [drop_bts h, List.foldl_cons, stepR]
  rfl

set_option maxRecDepth 100000 in
set_option maxHeartbeats 4000000 in
theorem rReduce_any (s : ByteArray) (w : World) (hw : isWord (bts s) = true) (hs : s.size < 100000000) :
    Calls Tryz.prog 10 #[.string s] w fun e w' => e = .returned (.string (strB (redW (bts s)))) ∧ Below w.heap.size w w' := by
  generalize hF : redW (bts s) = F
  have HW := Lib.hid hw
  have HFF := Lib.hid hF
  clear hw hF
  go_enter Tryz.func10, Tryz.ntmps10
  go_wp2_with (refine wpList_makeB (base := w.heap.size) Tryz.info5 Tryz.underlying50 (Nat.le_refl _) rfl _ _ rfl s.size rfl rfl rfl (by omega) ?_; intro w1 hown1 hb1 hz1)
  have HO := Lib.hid hown1
  have HB := Lib.hid hb1
  clear hown1 hb1
  go_loopw [3, 4] (fun ov iv wr => ∃ (k : Nat) (bs : List UInt8), k ≤ s.size ∧ iv = .int .i64 k ∧ bs.length ≤ k ∧ Hid (OwnB wr w.heap.size ov bs) ∧ Below w.heap.size w wr ∧ Hid (F = ((bts s).drop k).foldl (stepR fun _ => false) bs)) (fun _ iv _ => s.size - (intOf iv).toNat)
  case atStart => exact ⟨0, [], by omega, rfl, by simp, HO, HB.out, (show Hid (_ = _) from HFF.out.symm)⟩
  case round =>
    clear HO HB
    obtain ⟨k, bs, hk, rfl, hbl, HO, hB, HA⟩ := hrel
    have hsz := hB.size
    by_cases hlt : k < s.size
    · have hlet := letter_at HW.out hlt
      have hot := fun W => other_any (s[k]'hlt) W hlet
      have hst := redW_at hlt bs
      have HOT := Lib.hid hot
      have HST := Lib.hid hst
      clear hot hst hlet
      rcases List.eq_nil_or_concat bs with rfl | ⟨l, x, rfl⟩
      · obtain ⟨a, cp, rfl, h1, h2⟩ := HO.out.shape (n := 0) rfl
        rw [putL_nil] at HST
        go_wp2_with fail
        go_quiet (fail)
        have hv2 : OwnB (wr.drewN nq) w.heap.size (.slice a 0 cp) [] := HO.out
        go_wp2_with (at_builtin; refine wpList_appB Tryz.info5 Tryz.underlying50 hv2 (by simpa using hsz) (by simp) rfl _ _ rfl (c := s[k]'hlt) rfl rfl ?_; intro v6 w6 hown6 hgrow6 hb6)
        go_roundw
        case rel => exact ⟨k + 1, [s[k]'hlt], by omega, by go_num, by simp, hown6, (hB.drewN' nq).trans hb6, by show _ = _; rw [HA.out, HST.out]⟩
        case measure => simp [intOf]; omega
      · rw [List.concat_eq_append] at *
        obtain ⟨m, hm⟩ : ∃ m, l.length = m := ⟨_, rfl⟩
        have hlen : (l ++ [x]).length = m + 1 := by simp [hm]
        rw [hlen] at hbl
        obtain ⟨g, cp, rfl, hg1, hg2, hcp, hcell⟩ := HO.out.at_ hlen (by omega)
        obtain ⟨_, _, hv3, _, hcp2⟩ := HO.out.shape hlen
        have hcp3 : cp ≤ 9223372036854775807 := by
          have e : (Value.slice (some ⟨g, 0, none⟩) (m + 1) cp) = _ := hv3
          simp at e
          omega
        clear hv3 hcp2
        have hc0 := hcell m x (by simp [← hm])
        have HM := Lib.hid hm
        clear hcell hm hlen
        by_cases hx : x = invB (s[k]'hlt)
        · rw [putL_pop hx] at HST
          have ht : ((x.toNat : Int) == ((invB (s[k]'hlt)).toNat : Int)) = true := by rw [hx]; simp
          clear hx
          go_wp2_with fail
          go_quiet ((go_at_call 25; exact Calls.quiet_of_same (HOT.out _)))
          go_wp2_with fail
          go_roundw
          case rel => exact ⟨k + 1, l, by omega, by go_num, by rw [HM.out]; omega, OwnB.pop (w := wr.drewN nq) (by exact HO.out) HM.out (by omega) (Nat.le_refl _), hB.drewN' nq, by show _ = _; rw [HA.out, HST.out]⟩
          case measure => simp [intOf]; omega
        · rw [putL_push hx] at HST
          have ht : ((x.toNat : Int) == ((invB (s[k]'hlt)).toNat : Int)) = false := by
            simp
            exact fun h => hx (UInt8.toNat_inj.1 (by omega))
          clear hx
          go_wp2_with fail
          go_quiet ((go_at_call 25; exact Calls.quiet_of_same (HOT.out _)))
          have hv2 : OwnB (wr.drewN nq) w.heap.size (.slice (some ⟨g, 0, none⟩) (m + 1) cp) (l ++ [x]) := HO.out
          have hlen : (l ++ [x]).length < 1000000000 := by simp [HM.out]; omega
          have HLEN := Lib.hid hlen
          clear hlen
          go_wp2_with (at_builtin; refine wpList_appB Tryz.info5 Tryz.underlying50 hv2 (by simpa using hsz) HLEN.out rfl _ _ rfl (c := s[k]'hlt) rfl rfl ?_; intro v6 w6 hown6 hgrow6 hb6)
          go_roundw
          case rel => exact ⟨k + 1, l ++ [x, s[k]'hlt], by omega, by go_num, by simp [HM.out]; omega, by simpa [Hid] using hown6, (hB.drewN' nq).trans hb6, by show _ = _; rw [HA.out, HST.out]⟩
          case measure => simp [intOf]; omega
    · obtain rfl : k = s.size := by omega
      have hF2 : F = bs := by rw [HA.out, List.drop_of_length_le (by rw [bts_len]; exact Nat.le_refl _)]; rfl
      have hcv := conv_own HO.out
      obtain ⟨oa, oc, rfl, _, _⟩ := HO.out.shape rfl
      subst hF2
      clear HA HFF
      go_wp2_with fail
      go_ret
      exact ⟨rfl, hB⟩
end Go.Proofs.YtjdmmgaddbleeaaGreat

/- Inverses: the reference's walk. -/
namespace Go.Proofs.YtjdmmgaddbleeaaGreat
open Go.RowKit

/-- the inverse -/
def invL (l : List UInt8) : List UInt8 := (l.map invB).reverse
theorem invL_len (l : List UInt8) : (invL l).length = l.length := by simp [invL]
theorem invL_drop {s : ByteArray} {k : Nat} (h : k < s.size) : invL ((bts s).drop k) = invL ((bts s).drop (k + 1)) ++ [invB (s[k]'h)] := by
  rw [drop_bts h, invL, List.map_cons, List.reverse_cons]; rfl

set_option maxHeartbeats 2000000 in
theorem rInverse_any (s : ByteArray) (w : World) (hw : isWord (bts s) = true) (hs : s.size < 100000000) :
    Calls Tryz.prog 11 #[.string s] w fun e w' => e = .returned (.string (strB (invL (bts s)))) ∧ Below w.heap.size w w' := by
  have HW := Lib.hid hw
  clear hw
  go_enter Tryz.func11, Tryz.ntmps11
  go_wp2_with (refine wpList_makeB (base := w.heap.size) Tryz.info5 Tryz.underlying50 (Nat.le_refl _) rfl _ _ rfl s.size rfl rfl rfl (by omega) ?_; intro w1 hown1 hb1 hz1)
  have HO := Lib.hid hown1
  have HB := Lib.hid hb1
  clear hown1 hb1
  go_loopw [3, 4] (fun ov iv wr => ∃ (k : Nat), k ≤ s.size ∧ iv = .int .i64 ((k : Int) - 1) ∧ Hid (OwnB wr w.heap.size ov (invL ((bts s).drop k))) ∧ Below w.heap.size w wr) (fun _ iv _ => (intOf iv + 1).toNat)
  case atStart => exact ⟨s.size, by omega, by go_num, by rw [List.drop_of_length_le (by rw [bts_len]; exact Nat.le_refl _)]; exact HO, HB.out⟩
  case round =>
    clear HO HB
    obtain ⟨k, hk, rfl, HO, hB⟩ := hrel
    have hsz := hB.size
    rcases k with _ | k
    · have hi : ¬ (0 : Int) ≤ ((0 : Nat) : Int) - 1 := by omega
      have hcv := conv_own HO.out
      obtain ⟨oa, oc, rfl, _, _⟩ := HO.out.shape rfl
      simp only [List.drop_zero] at hcv ⊢
      go_wp2_with fail
      go_ret
      exact ⟨rfl, hB⟩
    · have hlt : k < s.size := by omega
      have hlet := letter_at HW.out hlt
      have hot := fun W => other_any (s[k]'hlt) W hlet
      have hl : (invL ((bts s).drop (k + 1))).length < 1000000000 := by rw [invL_len, List.length_drop, bts_len]; omega
      have hd := invL_drop hlt
      generalize invL ((bts s).drop (k + 1)) = bs at *
      have HOT := Lib.hid hot
      have HL := Lib.hid hl
      have HD := Lib.hid hd
      clear hot hl hd hlet
      rw [show ((k + 1 : Nat) : Int) - 1 = k by omega]
      obtain ⟨oa, oc, rfl, _, _⟩ := HO.out.shape rfl
      go_wp2_with (first
        | (go_at_call 25; refine (HOT.out _).mono ?_; rintro e w2 ⟨rfl, rfl⟩)
        | (at_builtin; refine wpList_appB Tryz.info5 Tryz.underlying50 HO.out (by simpa using hsz) HL.out rfl _ _ rfl (c := invB (s[k]'hlt)) rfl rfl ?_; intro v6 w6 hown6 hgrow6 hb6))
      go_roundw
      case rel => exact ⟨k, by omega, rfl, by show Hid _; rw [HD.out]; exact hown6, hB.trans hb6⟩
      case measure => simp [intOf]
end Go.Proofs.YtjdmmgaddbleeaaGreat
