/- strings.Builder's WriteByte (after the shelf's own text). -/
import Derived.Test.YtgajaccnjjiiaaaW9
import Derived.Test.YtgajaccnjjiiaaaShelf
import Derived.Lib.Builder
import Derived.Lib.UnsafeStr
import Derived.Laws.Externs
namespace Go.Proofs.Ytgajaccnjjiiaaa
open Go.RowKit

theorem Try.sizeB86 : (Try.prog.info? 86).map (·.size) = some 2 := by kernel_rfl
theorem Try.liesB86 : liesAt Try.prog Try.prog.depth 86 (2 / Try.prog.cellsOf 86) 0 86 1 = true := by kernel_rfl
theorem Try.info5b : (Try.prog.info? 5).map (fun i => (i.zero, i.size, i.bytes)) = some (some (.int .u8 0), 1, 1) := by kernel_rfl

set_option maxHeartbeats 1000000 in
set_option maxRecDepth 100000 in
theorem copyCheck_used (b : Nat) (w : World) (h0 : w.cell? ⟨b, 0, none⟩ = some (.pointer (some ⟨b, 0, none⟩))) :
    Calls Try.prog 99 #[.pointer (some ⟨b, 0, none⟩)] w fun e w' => e = .returned (.tuple #[]) ∧ w' = w := by
  obtain ⟨j, hj, _⟩ := Option.map_eq_some_iff.1 Try.sizeB86
  go_enter Try.func99, Try.ntmps99
  go_wp2
  rw [Lib.run_neq_ptr_same _ _ Try.underlying83 hj]
  go_wp2
  go_end0
  exact ⟨rfl, rfl⟩

set_option maxHeartbeats 1000000 in
set_option maxRecDepth 100000 in
theorem copyCheck_fresh (b : Nat) (w : World) (h0 : w.cell? ⟨b, 0, none⟩ = some (.pointer none)) (hsh : w.shape? b = some (86, 2)) (hfz : w.frozen? ⟨b, 0, none⟩ = false) :
    Calls Try.prog 99 #[.pointer (some ⟨b, 0, none⟩)] w fun e w' => e = .returned (.tuple #[]) ∧ w' = w.setCell ⟨b, 0, none⟩ (.pointer (some ⟨b, 0, none⟩)) := by
  obtain ⟨j, hj, hjs⟩ := Option.map_eq_some_iff.1 Try.sizeB86
  go_enter Try.func99, Try.ntmps99
  go_wp2
  rw [Lib.run_to_unsafe _ ⟨b, 0, none⟩ Try.underlying83 Try.underlying128 hj (by rw [hjs]; decide) hsh (Nat.zero_lt_succ 1)]
  simp only [Result.andThen]
  rw [Oper.upon_value]
  go_wp2
  rw [run_callFunc_extern Try.func111 (by kernel_rfl) (by kernel_rfl) (by kernel_rfl) (e := Extern.AbiNoEscape.same) (by kernel_rfl)]
  rw [Lib.run_noEscape]
  simp only [Result.andThen]
  rw [Oper.upon_value]
  go_wp2
  rw [Lib.run_from_unsafe _ ⟨b, 0, none⟩ Try.underlying128 Try.underlying83 hj hsh Try.liesB86]
  simp only [Result.andThen]
  rw [Oper.upon_value]
  go_wp2
  go_end0
  exact ⟨rfl, rfl⟩

/-- a builder at block b, its buffer v -/
structure Bld (B : Nat) (w : World) (b : Nat) (p v : Value) (bs : List Value) : Prop where
  hB : B ≤ b
  blk : w.heap[b]? = some (.cells #[p, v] 86 (0, 0))
  own : w.ownsRow B 5 1 v bs.length bs
  ne : v.ownBlock ≠ some b
  used : p = .pointer none ∨ p = .pointer (some ⟨b, 0, none⟩)
theorem Bld.is {B : Nat} {w : World} {b : Nat} {p v : Value} {bs : List Value} (h : Bld B w b p v bs) : Lib.IsBuilder 86 5 B b bs w := by
  obtain ⟨h1, h2, h3, h4, rfl | rfl⟩ := h
  · exact .inl ⟨h1, v, h2, h3, h4⟩
  · exact .inr ⟨h1, v, h2, h3, h4⟩
theorem Bld.lt {B : Nat} {w : World} {b : Nat} {p v : Value} {bs : List Value} (h : Bld B w b p v bs) : b < w.heap.size := (Array.getElem?_eq_some_iff.1 h.blk).1
/-- another row may have turned -/
theorem Bld.grown {B : Nat} {w w' : World} {b : Nat} {p v : Value} {bs : List Value} (h : Bld B w b p v bs) {row : Option Nat} (hg : w.grownBy w' row) (h1 : some b ≠ row) (h2 : v.ownBlock = none ∨ v.ownBlock ≠ row) : Bld B w' b p v bs :=
  ⟨h.hB, (hg.block b h.lt h1).trans h.blk, h.own.kept hg h2, h.ne, h.used⟩

theorem copyCheck_any (B b : Nat) (p v : Value) (bs : List Value) (w : World) (h : Bld B w b p v bs) :
    Calls Try.prog 99 #[.pointer (some ⟨b, 0, none⟩)] w fun e w' => e = .returned (.tuple #[]) ∧ Bld B w' b (.pointer (some ⟨b, 0, none⟩)) v bs ∧ w.grownBy w' (some b) := by
  have h0 : w.cell? ⟨b, 0, none⟩ = some p := by rw [Lib.cell_of_heap h.blk]; rfl
  rcases h.used with rfl | rfl
  · refine (copyCheck_fresh b w h0 (by simp [World.shape?, h.blk]) (Lib.frozen_of_heap h.blk 0)).mono ?_
    rintro e w' ⟨rfl, rfl⟩
    have hg : w.grownBy (w.setCell ⟨b, 0, none⟩ (.pointer (some ⟨b, 0, none⟩))) (some b) := ⟨rfl, rfl, rfl, by simp, fun k _ hk => heap_setCell_other w ⟨b, 0, none⟩ k _ (fun e => hk (by simp [e]))⟩
    refine ⟨rfl, ⟨h.hB, ?_, h.own.kept hg (.inr h.ne), h.ne, .inr rfl⟩, hg⟩
    have := heap_setCell_same w b 0 _ 86 (.pointer (some ⟨b, 0, none⟩)) h.blk
    simpa using this
  · refine (copyCheck_used b w h0).mono ?_
    rintro e w' ⟨rfl, rfl⟩
    exact ⟨rfl, h, ⟨rfl, rfl, rfl, Nat.le_refl _, fun _ _ _ => rfl⟩⟩

set_option maxHeartbeats 2000000 in
set_option maxRecDepth 100000 in
theorem writeByte_any (B b : Nat) (p v : Value) (bs : List Value) (c : Int) (w : World) (h : Bld B w b p v bs) (hlen : bs.length + 1 ≤ 1000000000) (hBw : B ≤ w.heap.size) :
    Calls Try.prog 67 #[.pointer (some ⟨b, 0, none⟩), .int .u8 c] w fun e w' => e = .returned .nilIface ∧ (∃ v', Bld B w' b (.pointer (some ⟨b, 0, none⟩)) v' (bs ++ [.int .u8 c])) ∧
      (∀ k, k < w.heap.size → k ≠ b → some k ≠ v.ownBlock → w'.heap[k]? = w.heap[k]?) ∧ Below B w w' := by
  obtain ⟨i0, hi, hz0, hz1, hz2⟩ := info_parts Try.info5b
  go_enter Try.func67, Try.ntmps67
  go_wp2_with (go_at_call 99; refine (copyCheck_any B b p v bs _ h).mono ?_)
  rintro e w1 ⟨rfl, h1, hg1⟩
  have hbk := h1.blk
  have hown := h1.own
  have hne := h1.ne
  have hsz := hg1.size
  have c0 : w1.cell? ⟨b, 0, none⟩ = some (.pointer (some ⟨b, 0, none⟩)) := by rw [Lib.cell_of_heap hbk]; rfl
  have c1 : w1.cell? ⟨b, 1, none⟩ = some v := by rw [Lib.cell_of_heap hbk]; rfl
  go_wp2_with (at_builtin; refine wpList_append_own _ rfl _ _ 84 rfl B 5 i0 (.int .u8 0) 1 1 Try.underlying84 hi hz0 hz1 hz2 rfl (by decide) _ _ _ rfl (hown.alloc _) ⟨w1.heap.size, 0, none⟩ 1 1 [.int .u8 c] rfl rfl ?c1 ?c2 ?c3 ?c4 ?c5 ?_)
  case c1 =>
    intro j u hj
    match j, hj with
    | 0, hj => simp at hj; subst hj; simp [Addr.add]
  case c2 => intro u hu; simp at hu; subst hu; rfl
  case c3 => unfold maxLen; omega
  case c4 => omega
  case c5 => simp; omega
  intro v' w2 hown' hgrow _
  have hlt : b < w1.heap.size := h1.lt
  have hb2 : w2.heap[b]? = some (.cells #[.pointer (some ⟨b, 0, none⟩), v] 86 (0, 0)) := by
    rw [hgrow.block b (by simp; omega) (fun e => hne e.symm), Lib.alloc_old w1 _ b hlt]
    exact hbk
  have d0 : w2.cell? ⟨b, 0, none⟩ = some (.pointer (some ⟨b, 0, none⟩)) := by rw [Lib.cell_of_heap hb2]; rfl
  have d1 : w2.cell? ⟨b, 1, none⟩ = some v := by rw [Lib.cell_of_heap hb2]; rfl
  have f1 : w2.frozen? ⟨b, 1, none⟩ = false := Lib.frozen_of_heap hb2 1
  obtain ⟨g, cap, rfl⟩ : ∃ g cap, v' = .slice (some ⟨g, 0, none⟩) (bs.length + 1) cap := by
    rcases hown'.2 with ⟨_, h0⟩ | ⟨g, cap, cur, hv, _⟩
    · omega
    · exact ⟨g, cap, hv⟩
  go_wp2
  go_ret
  refine ⟨rfl, ⟨.slice (some ⟨g, 0, none⟩) (bs.length + 1) cap, ?_⟩, ?_, ?_⟩
  · obtain ⟨q1, v2, q2, q3, q4⟩ := Lib.BuilderAt.put (T := 86) (e := 5) h.hB hb2 (bs' := bs ++ [.int .u8 c]) (by simpa using hown') (by decide)
    have : v2 = .slice (some ⟨g, 0, none⟩) (bs.length + 1) cap := by
      have h3 := heap_setCell_same w2 b 1 _ 86 (.slice (some ⟨g, 0, none⟩) (bs.length + 1) cap) hb2
      rw [h3] at q2
      simp at q2
      exact q2.symm
    subst this
    exact ⟨q1, q2, q3, q4, .inr rfl⟩
  · intro k hk hkb hkv
    rw [heap_setCell_other w2 ⟨b, 1, none⟩ k _ hkb, hgrow.block k (by simp; omega) hkv, Lib.alloc_old w1 _ k (by omega), hg1.block k hk (by simp; exact hkb)]
  · have hb0 : Below B w w1 := (Below.refl B w).grown hg1 hBw (fun k e => by cases e; exact h.hB)
    exact ((hb0.alloc (by omega) _).grown hgrow (by simp; omega) (fun k hk => (hown.lt k hk).1)).setCell (p := ⟨b, 1, none⟩) h.hB _
end Go.Proofs.Ytgajaccnjjiiaaa
