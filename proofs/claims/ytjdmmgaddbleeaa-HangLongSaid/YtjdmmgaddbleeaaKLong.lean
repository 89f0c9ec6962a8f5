/- HangLong: the bytes of the word. -/
import Derived.Test.YtjdmmgaddbleeaaMJ
import Derived.Test.YtjdmmgaddbleeaaMI
namespace Go.Proofs.Ytjdmmgaddbleeaa
open Go.RowKit

/-- block g holds the bytes cs and no more -/
def RowZ (w : World) (g : Nat) (cs : List UInt8) : Prop := ∃ cur : Array Value, w.heap[g]? = some (.cells cur 5 (0, 0)) ∧ cur.toList = B8s cs
theorem RowZ.lt {w : World} {g : Nat} {cs : List UInt8} (h : RowZ w g cs) : g < w.heap.size := by
  obtain ⟨cur, hg, _⟩ := h
  exact (Array.getElem?_eq_some_iff.1 hg).1
theorem RowZ.cell {w : World} {g : Nat} {cs : List UInt8} (h : RowZ w g cs) {j : Nat} {c : UInt8} (hj : cs[j]? = some c) : w.cell? ⟨g, j, none⟩ = some (.int .u8 (c.toNat : Int)) := by
  obtain ⟨cur, hg, h3⟩ := h
  rw [cell_of_row w g j cur 5 (0, 0) hg]
  have h4 : (B8s cs)[j]? = some (.int .u8 (c.toNat : Int)) := by simp [B8s, hj]
  rw [← h3] at h4
  simpa using h4
theorem RowZ.free {w : World} {g : Nat} {cs : List UInt8} (h : RowZ w g cs) (j : Nat) : w.frozen? ⟨g, j, none⟩ = false := by
  obtain ⟨cur, hg, _⟩ := h
  simp [World.frozen?, hg]
theorem RowZ.set {w : World} {g : Nat} {cs : List UInt8} (h : RowZ w g cs) (j : Nat) (c : UInt8) : RowZ (w.setCell ⟨g, j, none⟩ (.int .u8 (c.toNat : Int))) g (cs.set j c) := by
  obtain ⟨cur, hg, h3⟩ := h
  refine ⟨_, Lib.heap_setCell_same hg _, ?_⟩
  rw [Array.toList_setIfInBounds, h3]
  simp [B8s, List.map_set]
theorem RowZ.own {w : World} {g : Nat} {cs : List UInt8} (h : RowZ w g cs) (hl : cs.length ≤ 1000000) : OwnB w g (.slice (some ⟨g, 0, none⟩) cs.length cs.length) cs := by
  obtain ⟨cur, hg, h3⟩ := h
  have h4 : cur.size = cs.length := by rw [← Array.length_toList, h3]; simp [B8s]
  exact .inr ⟨g, cs.length, cur, rfl, Nat.le_refl _, hg, Nat.le_refl _, by unfold maxLen; omega, by omega, by rw [h3]; exact List.take_of_length_le (by simp [B8s])⟩

/-- make of n bytes -/
theorem wpList_makeZ {P : Program} {w : World} {ops : Array Oper} {rest : List Oper} {o : Oper} {a : Act} {Q : Exit → Act → World → Prop} {t : TypeId}
    (hinfo : (P.info? 5).map (fun i => (i.zero, i.size, i.bytes)) = some (some (.int .u8 0), 1, 1)) (ht : P.underlying t = some (.slice 5))
    (hg : o.guard = none) (l c : Operand) (hop : o.op = Op.makeSlice t l c) (n : Nat)
    {kl kc : IntKind} (hl : a.eval l = .int kl (n : Int)) (hc : a.eval c = .int kc (n : Int)) (hn : n ≤ 100000000)
    (hK : ∀ w', RowZ w' w.heap.size (List.replicate n 0) → Below w.heap.size w w' → w'.heap.size = w.heap.size + 1 → wpList P ops Q rest (a.put o.dst (.slice (some ⟨w.heap.size, 0, none⟩) n n)) w') :
    wpList P ops Q (o :: rest) a w := by
  obtain ⟨i, h2, h3, h4, h5⟩ := info_parts hinfo
  refine wpList_plain hg fun K hK' => ?_
  have hrun := run_make (P := P) w t 5 i _ ht h2 h3 kl kc (n : Int) (n : Int) (by omega) (by omega) (by rw [h5]; omega) (by omega)
  unfold Oper.wp
  simp [execOp, hop, hl, hc, hrun, Result.andThen, h4, Value.cells]
  refine hK' _ _ (hK _ ⟨_, heap_alloc_new w _, ?_⟩ ?_ ?_)
  · rw [toList_madeCells_one]
    simp
  · exact (Below.refl _ _).alloc (Nat.le_refl _) _
  · simp

/-- the letters of the law's long word -/
def letZ (d : Nat) (i : Nat) : UInt8 := UInt8.ofNat ((if i % 5 < 2 then 65 else 97) + (i * i + i / 7 + d) % 3)
def longL (d M : Nat) : List UInt8 := (List.range M).map (letZ d)
def preL (d M k : Nat) : List UInt8 := (List.range k).map (letZ d) ++ List.replicate (M - k) 0
theorem preL_zero (d M : Nat) : preL d M 0 = List.replicate M 0 := rfl
theorem preL_all (d M : Nat) : preL d M M = longL d M := by unfold preL longL; simp
theorem preL_len {d M k : Nat} (h : k ≤ M) : (preL d M k).length = M := by unfold preL; simp; omega
theorem preL_set {d M k : Nat} (h : k < M) : (preL d M k).set k (letZ d k) = preL d M (k + 1) := by
  unfold preL
  rw [List.set_append_right _ _ (by simp), show k - ((List.range k).map (letZ d)).length = 0 by simp, show M - k = (M - (k + 1)) + 1 by omega, List.replicate_succ, List.set_cons_zero, List.range_succ, List.map_append]
  simp

theorem letZ_ok (d i : Nat) : letter ((letZ d i).toNat : Int) = true ∧ nailB (letZ d i) < 3 := by
  unfold letZ
  have e1 : (i * i + i / 7 + d) % 3 < 3 := Nat.mod_lt _ (by omega)
  generalize (i * i + i / 7 + d) % 3 = q at *
  obtain rfl | rfl | rfl : q = 0 ∨ q = 1 ∨ q = 2 := by omega
  all_goals split <;> exact ⟨by decide, by decide⟩
theorem long_word (d M : Nat) : isWord (longL d M) = true := by
  refine List.all_eq_true.2 fun c hc => ?_
  obtain ⟨i, _, rfl⟩ := List.mem_map.1 hc
  exact (letZ_ok d i).1
theorem long_nails (d M : Nat) : (strN (nailsOf (longL d M))).length ≤ 10 := by
  have := nails_few (n := 3) (l := longL d M) (by
    intro c hc
    obtain ⟨i, _, rfl⟩ := List.mem_map.1 hc
    exact (letZ_ok d i).2)
  omega
theorem long_len (d M : Nat) : (longL d M).length = M := by unfold longL; simp

set_option maxRecDepth 100000 in
set_option maxHeartbeats 4000000 in
theorem HangLong_any (n : Int) (s : ByteArray) (w : World) :
    Calls Try.prog 5 #[.int .i64 n, .string s] w fun e w' => e = .returned (.bool true) ∧ Below w.heap.size w w' := by
  obtain ⟨m, hm⟩ : ∃ m : Nat, IntKind.u64.wrap n = (m : Int) := ⟨(n % 2 ^ 64).toNat, by simp only [IntKind.wrap, IntKind.bits, IntKind.signed, Bool.false_and, Bool.false_eq_true, if_false]; omega⟩
  obtain ⟨r, hr⟩ : ∃ r : Nat, (m : Int) % 3 = (r : Int) := ⟨m % 3, by omega⟩
  obtain ⟨d, hd⟩ : ∃ d : Nat, (m : Int) % 5 = (d : Int) := ⟨m % 5, by omega⟩
  obtain ⟨M, hM⟩ : ∃ M : Nat, (29999 : Int) + (r : Int) = (M : Int) := ⟨29999 + r, by omega⟩
  have hM1 : 29999 ≤ M := by omega
  have hM2 : M ≤ 30001 := by omega
  have hd5 : d ≤ 4 := by omega
  go_enter Try.func5, Try.ntmps5
  go_wp2_with (refine wpList_makeZ Try.info5 Try.underlying40 rfl _ _ rfl M rfl rfl (by omega) ?_; intro w1 hz1 hb1 hsz1)
  rw [← preL_zero d] at hz1
  have HZ := Lib.hid hz1
  have HB := Lib.hid hb1
  clear hz1 hb1
  go_loopw [7] (fun iv wr => ∃ k : Nat, k ≤ M ∧ iv = .int .i64 k ∧ Hid (RowZ wr w.heap.size (preL d M k)) ∧ Hid (Below w.heap.size w wr) ∧ w.heap.size < wr.heap.size) (fun iv _ => M - (intOf iv).toNat)
  case atStart => exact ⟨0, by omega, rfl, HZ, HB, by omega⟩
  case round =>
    clear HZ HB hsz1
    obtain ⟨k, hk, rfl, HZ, HB, hsz1⟩ := hrel
    by_cases hlt : k < M
    · have hget : (preL d M k)[k]? = some 0 := by
        unfold preL
        rw [List.getElem?_append_right (by simp), show k - ((List.range k).map (letZ d)).length = 0 by simp, show M - k = (M - (k + 1)) + 1 by omega, List.replicate_succ]
        rfl
      have cx := HZ.out.cell hget
      have fx := HZ.out.free k
      have hset := HZ.out.set k (letZ d k)
      rw [preL_set hlt] at hset
      have HSET := Lib.hid hset
      clear hset hget
      have hkk : k * k ≤ 30001 * 30001 := Nat.mul_le_mul (by omega) (by omega)
      have hval : ((letZ d k).toNat : Int) = (if (k : Int) % 5 < 2 then 65 else 97) + (((k : Int) * k + (k : Int) / 7 + d) % 3) := by
        unfold letZ
        have e1 : (k * k + k / 7 + d) % 3 < 3 := Nat.mod_lt _ (by omega)
        have e2 : (((k : Int) * k + (k : Int) / 7 + d) % 3) = (((k * k + k / 7 + d) % 3 : Nat) : Int) := by push_cast; rfl
        rw [e2]
        generalize (k * k + k / 7 + d) % 3 = q at *
        rw [ofNat_nat (by split <;> omega)]
        by_cases h5 : k % 5 < 2
        · rw [if_pos h5, if_pos (by omega)]; push_cast; rfl
        · rw [if_neg h5, if_neg (by omega)]; push_cast; rfl
      by_cases h5 : (k : Int) % 5 < 2
      · rw [if_pos h5] at hval
        rw [hval] at HSET
        clear hval
        go_wp2_with fail
        go_roundw
        case rel => exact ⟨k + 1, by omega, by go_num, HSET, HB.out.setCell (p := ⟨w.heap.size, k, none⟩) (Nat.le_refl _) _, by simpa using hsz1⟩
        case measure => simp [intOf]; omega
      · rw [if_neg h5] at hval
        rw [hval] at HSET
        clear hval
        go_wp2_with fail
        go_roundw
        case rel => exact ⟨k + 1, by omega, by go_num, HSET, HB.out.setCell (p := ⟨w.heap.size, k, none⟩) (Nat.le_refl _) _, by simpa using hsz1⟩
        case measure => simp [intOf]; omega
    · obtain rfl : k = M := by omega
      rw [preL_all] at HZ
      have hcv := conv_own (HZ.out.own (by rw [long_len]; omega))
      rw [long_len, show (⟨(longL d k).toArray⟩ : ByteArray) = strB (longL d k) from rfl] at hcv
      have hLl := long_len d k
      have hLw := long_word d k
      have hLn := long_nails d k
      generalize longL d k = L at *
      have HAW := Lib.hid awake_any
      have hszL : (strB L).size = k := by rw [size_str]; exact hLl
      have HBB := Lib.hid HB.out
      clear HZ HB hsz1
      by_cases hbig : 30000 < k
      · have hE : wordErr (strB L) = 2 := by unfold wordErr; rw [bts_str, if_pos hLw, if_pos (by omega)]
        have c22 := fun W => Reduce_any (strB L) W (by omega)
        have c23 := fun W => Inverse_any (strB L) W (by omega)
        have c24 := fun W => Root_bad (strB L) W (by omega) (by rw [hE]; decide)
        have c11 := fun W => Sets_bad (strB L) W (by omega) (by rw [hE]; decide)
        simp only [hE, if_neg (show ¬ (2 : Int) = 0 by decide)] at c22 c23 c24 c11
        generalize strB L = SW at *
        have C22 := Lib.hid c22
        have C23 := Lib.hid c23
        have C24 := Lib.hid c24
        have C11 := Lib.hid c11
        clear c22 c23 c24 c11 hE hLl hLw hLn hszL
        go_wp2_with (first
          | (go_at_call 22; refine (C22.out _).mono ?_; rintro e w2 ⟨rfl, hb2⟩)
          | (go_at_call 23; refine (C23.out _).mono ?_; rintro e w3 ⟨rfl, hb3⟩)
          | (go_at_call 24; refine (C24.out _).mono ?_; rintro e w4 ⟨rfl, hb4⟩)
          | (go_at_call 11; refine (C11.out _).mono ?_; rintro e w5 ⟨rfl, hb5⟩)
          | (go_at_call 17; refine (HAW.out _).mono ?_; rintro e w6 ⟨rfl, hb6⟩))
        go_ret
        have h1 := HBB.out.trans (hb2.mono HBB.out.size)
        have h2 := h1.trans (hb3.mono h1.size)
        have h3 := h2.trans (hb4.mono h2.size)
        have h4 := h3.trans (hb5.mono h3.size)
        exact ⟨rfl, h4.trans (hb6.mono h4.size)⟩
      · have hE : wordErr (strB L) = 0 := word_zero hLw (by omega)
        have c22 := fun W => Reduce_any (strB L) W (by omega)
        have c23 := fun W => Inverse_any (strB L) W (by omega)
        have c11 : ∀ W, Calls Try.prog 11 #[.string (strB L)] W fun e w' => ∃ u, e = .returned (.tuple #[u, .int .i64 0]) ∧ Strs w' u ((setsL L).map strB) ∧ Below W.heap.size W w' := fun W => Sets_any (strB L) W hE hLn
        have c26 := fun W => rReduce_any (strB L) W hLw (by omega)
        have c27 := fun W => rInverse_any (strB L) W hLw (by omega)
        have c15 := fun W => rSets_any (strB L) W hLw (by omega)
        have c18 : ∀ W : World, Calls Try.prog 18 #[.slice (some ⟨W.heap.size, 0, none⟩) 1 1, .int .i64 1, .int .i64 3, .bool true] (W.alloc (.cells #[.int .i64 (s.size : Int)] 3)) fun e w' =>
            ∃ b o c, e = .returned (.slice (some ⟨b, o, none⟩) 1 c) ∧ 1 ≤ c ∧ c ≤ 9223372036854775807 ∧ b < w'.heap.size ∧ w'.cell? ⟨b, o, none⟩ = some (.string (strB (setI 3 true s.size))) ∧ Below W.heap.size W w' := fun W => sets_one (s.size : Int) 3 true W (by omega)
        have c25 := fun W => Falls_any (strB L) (strB (setI 3 true s.size)) W (by rw [size_str]; have := setI_len 3 true s.size; omega) hE (setI_set (by omega) true s.size)
        have c21 := fun W => rFalls_any (strB L) (strB (setI 3 true s.size)) W hLw (by omega) (by rw [size_str]; have := setI_len 3 true s.size; omega)
        simp only [hE, if_true] at c22 c23
        simp only [bts_str] at c22 c23 c26 c27 c15 c25 c21
        change ∀ W, Calls _ _ _ W fun e w' => e = .returned (.tuple #[.bool (fallsP L (setI 3 true s.size)), .int .i64 0]) ∧ _ at c25
        simp only [falls_eq hLw] at c21
        generalize fallsP L (setI 3 true s.size) = p at *
        generalize strB (setI 3 true s.size) = P at *
        generalize (setsL L).map strB = SL at *
        generalize strB (redW L) = RW at *
        generalize strB (invL L) = IV at *
        generalize strB L = SW at *
        have C22 := Lib.hid c22
        have C23 := Lib.hid c23
        have C25 := Lib.hid c25
        have C11 := Lib.hid c11
        have C26 := Lib.hid c26
        have C27 := Lib.hid c27
        have C15 := Lib.hid c15
        have C18 := Lib.hid c18
        have C21 := Lib.hid c21
        clear c22 c23 c25 c11 c26 c27 c15 c18 c21 hE hLl hLw hLn hszL
        go_wp2_with (first
          | (go_at_call 22; refine (C22.out _).mono ?_; rintro e w2 ⟨rfl, hb2⟩)
          | (go_at_call 23; refine (C23.out _).mono ?_; rintro e w3 ⟨rfl, hb3⟩)
          | (go_at_call 18; refine (C18.out _).mono ?_))
        rintro e w4 ⟨b1, o1, c1, rfl, hc11, hc12, hl1, hcl1, hb4⟩
        have h1 := HBB.out.trans (hb2.mono HBB.out.size)
        have h2 := h1.trans (hb3.mono h1.size)
        have HB4 := Lib.hid (h2.trans (hb4.mono h2.size))
        clear h1 h2 hb2 hb3 hb4
        go_wp2_with (go_at_call 25; refine (C25.out _).mono ?_; rintro e w5 ⟨rfl, hb5⟩)
        refine (C11.out _).mono ?_
        rintro e w6 ⟨u6, rfl, hst6, hb6⟩
        have h5 := HB4.out.trans (hb5.mono HB4.out.size)
        have HB6 := Lib.hid (h5.trans (hb6.mono h5.size))
        have HST6 := Lib.hid hst6
        clear h5 hb5 hb6 hst6 hcl1
        go_wp2_with (first
          | (go_at_call 26; refine (C26.out _).mono ?_; rintro e w7 ⟨rfl, hb7⟩)
          | (go_at_call 27; refine (C27.out _).mono ?_; rintro e w8 ⟨rfl, hb8⟩)
          | (go_at_call 21; refine (C21.out _).mono ?_; rintro e w9 ⟨rfl, hb9⟩)
          | (go_at_call 15; refine (C15.out _).mono ?_))
        rintro e w10 ⟨u10, rfl, hst10, hb10⟩
        have h1 := hb7.trans (hb8.mono hb7.size)
        have h2 := h1.trans (hb9.mono h1.size)
        have h3 := h2.trans (hb10.mono h2.size)
        have hm := same_any u6 u10 _ _ w10 (HST6.out.keep h3) hst10
        rw [decide_eq_true rfl] at hm
        have HM := Lib.hid hm
        have HB10 := Lib.hid (HB6.out.trans (h3.mono HB6.out.size))
        clear h1 h2 h3 hm hb7 hb8 hb9 hb10 hst10
        go_wp2_with (go_at_call 14; refine HM.out.mono ?_)
        rintro e w11 ⟨rfl, q, rfl⟩
        go_wp2_with (go_at_call 17; refine (HAW.out _).mono ?_; rintro e w12 ⟨rfl, hb12⟩)
        go_ret
        have h4 := HB10.out.drewN' q
        exact ⟨rfl, h4.trans (hb12.mono h4.size)⟩
end Go.Proofs.Ytjdmmgaddbleeaa
