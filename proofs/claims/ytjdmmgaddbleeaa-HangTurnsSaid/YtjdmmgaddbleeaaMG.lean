/- The reference's subsets, and a word's nails: the walks. -/
import Derived.Test.YtjdmmgaddbleeaaMF
import Derived.Laws.Runes
import Derived.Test.YtjdmmgaddbleeaaMC
namespace Go.Proofs.Ytjdmmgaddbleeaa
open Go.RowKit

theorem bit_mod (k j : Nat) : (((k : Int) / 2 ^ j).tmod 2 == 1) = k.testBit j := by
  have e1 : ((k : Int) / 2 ^ j) = ((k / 2 ^ j : Nat) : Int) := by push_cast; rfl
  rw [e1, Nat.testBit_eq_decide_div_mod_eq, Bool.eq_iff_iff]
  generalize k / 2 ^ j = q
  have e2 : Int.tmod (q : Int) 2 = ((q % 2 : Nat) : Int) := rfl
  rw [e2]
  simp
  omega
theorem subTo_len (A : List UInt8) (b j : Nat) : (subTo A b j).length ≤ j := by
  unfold subTo
  rw [List.length_map]
  have := List.length_filter_le (fun k => b.testBit k) (List.range j)
  simpa using this
theorem bts_one {s : ByteArray} {j : Nat} (h : j < s.size) : bts (s.extract j (j + 1)) = [s[j]'h] := by
  have := bts_get h
  simp only [bts, ByteArray.data_extract, Array.toList_extract, List.extract_eq_take_drop]
  rw [show j + 1 - j = 1 by omega]
  have h2 := drop_bts h
  unfold bts at h2
  rw [h2]
  rfl

set_option maxRecDepth 100000 in
set_option maxHeartbeats 1000000 in
theorem subset_any (s : ByteArray) (b : Nat) (w : World) (hs : s.size ≤ 30) :
    Calls Try.prog 47 #[.string s, .int .i64 b] w fun e w' => e = .returned (.string (strB (subS (bts s) b))) ∧ w' = w := by
  have hfin : subTo (bts s) b s.size = subS (bts s) b := by rw [← bts_len]; rfl
  generalize subS (bts s) b = F at *
  have HF := Lib.hid hfin
  clear hfin
  go_enter Try.func47, Try.ntmps47
  go_wp2_with fail
  go_loop [5, 6] (fun ov iv => ∃ j : Nat, j ≤ s.size ∧ iv = .int .i64 j ∧ ov = .string (strB (subTo (bts s) b j))) (fun _ iv => s.size - (intOf iv).toNat)
  case atStart => exact ⟨0, by omega, rfl, rfl⟩
  case round =>
    obtain ⟨j, hj, rfl, rfl⟩ := hrel
    by_cases hlt : j < s.size
    · have hbit := bit_mod b j
      have hsu := subTo_succ (bts s) b j
      rw [bts_get hlt, Option.getD_some] at hsu
      have hlen := subTo_len (bts s) b j
      have hsz : (strB (subTo (bts s) b j)).size ≤ 30 := by rw [size_str]; omega
      have hcat : strB (subTo (bts s) b j) ++ s.extract j (j + 1) = strB (subTo (bts s) b j ++ [s[j]'hlt]) := by
        apply str_eq
        rw [bts_add, bts_one hlt]
      cases hbb : b.testBit j
      · rw [hbb] at hbit hsu
        simp only [Bool.false_eq_true, if_false, List.append_nil] at hsu
        generalize hX : strB (subTo (bts s) b j) = X at *
        have HSU := Lib.hid hsu
        have HX := Lib.hid hX
        clear hsu hcat hbb hlen hX
        go_wp2_with fail
        go_round
        case rel => exact ⟨j + 1, by omega, by go_num, by rw [HSU.out, HX.out]⟩
        case measure => simp [intOf]; omega
      · rw [hbb] at hbit hsu
        simp only [if_true] at hsu
        rw [← hsu] at hcat
        generalize hX : strB (subTo (bts s) b j) = X at *
        have HC := Lib.hid hcat
        have n1 : ¬ 9223372036854775807 < X.size + 1 := by omega
        clear hsu hcat hbb hlen hX
        go_wp2_with fail
        go_round
        case rel => exact ⟨j + 1, by omega, by go_num, by rw [HC.out]⟩
        case measure => simp [intOf]; omega
    · obtain rfl : j = s.size := by omega
      go_wp2_with fail
      go_ret
      exact ⟨by rw [← HF.out]; rfl, rfl⟩

/-- the capital letter of nail i -/
def capB (i : Nat) : UInt8 := UInt8.ofNat (65 + i)
theorem capB_nat {i : Nat} (h : i < 26) : (capB i).toNat = 65 + i := by
  have : ∀ i, i < 26 → (capB i).toNat = 65 + i := by decide +kernel
  exact this i h
theorem nail_iff : ∀ c : UInt8, letter (c.toNat : Int) = true → (97 ≤ c.toNat ∧ nailB c = c.toNat - 97) ∨ (c.toNat < 97 ∧ 65 ≤ c.toNat ∧ nailB c = c.toNat - 65) := for_bytes (by decide +kernel)
theorem nails_has {l : List UInt8} (hw : isWord l = true) {m : Nat} (hm : m < 26) : (l.contains (letB m) || l.contains (capB m)) = nailsOf l m := by
  rw [Bool.eq_iff_iff, Bool.or_eq_true]
  unfold nailsOf
  rw [List.contains_iff_mem, List.contains_iff_mem, List.any_eq_true]
  have h1 := letB_nat hm
  have h2 := capB_nat hm
  constructor
  · rintro (h | h)
    · refine ⟨_, h, ?_⟩
      rw [nail_let m hm]; simp
    · refine ⟨_, h, ?_⟩
      have hl : letter ((capB m).toNat : Int) = true := by rw [h2]; unfold letter; simp; omega
      have := nail_iff _ hl
      simp; omega
  · rintro ⟨c, hc, e⟩
    have hl : letter (c.toNat : Int) = true := by simpa using List.all_eq_true.1 hw c hc
    have h3 := nail_iff c hl
    simp at e
    rcases h3 with ⟨h4, h5⟩ | ⟨h4, h5, h6⟩
    · left
      have : c = letB m := UInt8.toNat_inj.1 (by rw [h1]; omega)
      rwa [← this]
    · right
      have : c = capB m := UInt8.toNat_inj.1 (by rw [h2]; omega)
      rwa [← this]

theorem enc_let (m : Nat) (h : m < 26) : Utf8.encode (97 + (m : Int)) = strB [letB m] := by
  have hv : Utf8.valid (97 + (m : Int)) = true := by unfold Utf8.valid; simp; omega
  have hn : (97 + (m : Int)).toNat = 97 + m := by omega
  have hlt : 97 + m < 128 := by omega
  unfold Utf8.encode
  simp only [hv, if_true, hn, hlt]
  rfl

set_option maxRecDepth 100000 in
set_option maxHeartbeats 1000000 in
theorem Nails_one (s : ByteArray) (W : World) (hw : isWord (bts s) = true) (hs : s.size ≤ 100000000) :
    Calls Try.prog 13 #[.slice (some ⟨W.heap.size, 0, none⟩) 1 1] (W.alloc (.cells #[.string s] 9)) fun e w' => e = .returned (.string (strB (strN (nailsOf (bts s))))) ∧ Below W.heap.size W w' := by
  have hc0 : (W.alloc (.cells #[.string s] 9)).cell? ⟨W.heap.size, 0, none⟩ = some (.string s) := (Blk.new W 9 [.string s]).cell (j := 0) rfl
  have hbel : Below W.heap.size W (W.alloc (.cells #[.string s] 9)) := (Below.refl _ _).alloc (Nat.le_refl _) _
  have hfin : strTo (nailsOf (bts s)) 26 = strN (nailsOf (bts s)) := rfl
  generalize hF : strN (nailsOf (bts s)) = F at *
  have HF := Lib.hid hfin
  have HB := Lib.hid hbel
  generalize W.alloc (.cells #[.string s] 9) = W1 at *
  generalize W.heap.size = g at *
  have HW := Lib.hid hw
  clear hfin hbel hF hw
  go_enter Try.func13, Try.ntmps13
  go_wp2_with fail
  go_loop [3, 4] (fun ov cv => ∃ m : Nat, m ≤ 26 ∧ cv = .int .i32 (97 + (m : Int)) ∧ ov = .string (strB (strTo (nailsOf (bts s)) m))) (fun _ cv => (123 - intOf cv).toNat)
  case atStart => exact ⟨0, by omega, by go_num, rfl⟩
  case round =>
    obtain ⟨m, hm, rfl, rfl⟩ := hrel
    by_cases hlt : m < 26
    · have h1 := letB_nat hlt
      have h2 := capB_nat hlt
      have hnh := nails_has HW.out hlt
      have hh1 := fun W => has_any s (letB m) W (by omega)
      have hh2 := fun W => has_any s (capB m) W (by omega)
      rw [h1, show ((97 + m : Nat) : Int) = 97 + (m : Int) by omega] at hh1
      rw [h2, show ((65 + m : Nat) : Int) = 97 + (m : Int) - 32 by omega] at hh2
      generalize hX : strB (strTo (nailsOf (bts s)) m) = X at *
      have HH1 := Lib.hid hh1
      have HH2 := Lib.hid hh2
      have HNH := Lib.hid hnh
      have HX := Lib.hid hX
      clear hh1 hh2 hnh hX h1 h2
      go_wp2_with fail
      go_loop [5, 6] (fun fv iv => (iv = .int .i64 0 ∧ fv = .bool false) ∨ (iv = .int .i64 1 ∧ fv = .bool (nailsOf (bts s) m))) (fun _ iv => 1 - (intOf iv).toNat)
      case atStart => exact .inl ⟨rfl, rfl⟩
      case round =>
        rcases hrel with ⟨rfl, rfl⟩ | ⟨rfl, rfl⟩
        · generalize hr : nailsOf (bts s) m = r at *
          generalize hx : (bts s).contains (letB m) = x at *
          generalize hy : (bts s).contains (capB m) = y at *
          clear hr hx hy
          cases x
          · go_wp2_with (first
              | (go_at_call 46; ((with_reducible refine (HH1.out _).mono ?_); rintro e w2 ⟨rfl, rfl⟩))
              | (go_at_call 46; ((with_reducible refine (HH2.out _).mono ?_); rintro e w2 ⟨rfl, rfl⟩)))
            go_round
            case rel => exact .inr ⟨rfl, by rw [← HNH.out]; rfl⟩
            case measure => simp [intOf]
          · go_wp2_with (first
              | (go_at_call 46; ((with_reducible refine (HH1.out _).mono ?_); rintro e w2 ⟨rfl, rfl⟩))
              | (go_at_call 46; ((with_reducible refine (HH2.out _).mono ?_); rintro e w2 ⟨rfl, rfl⟩)))
            go_round
            case rel => exact .inr ⟨rfl, by rw [← HNH.out]; rfl⟩
            case measure => simp [intOf]
        · have hst := strTo_succ (nailsOf (bts s)) m
          have hxs : X.size ≤ 26 := by rw [← HX.out, size_str]; have := strTo_len (nailsOf (bts s)) m; omega
          generalize hr : nailsOf (bts s) m = r at *
          have HST := Lib.hid hst
          clear hst hr HNH
          cases r
          · go_wp2_with fail
            go_round
            case rel => exact ⟨m + 1, by omega, by go_num, by rw [HST.out, ← HX.out]; simp⟩
            case measure => simp [intOf]; omega
          · have henc := enc_let m hlt
            have n1 : ¬ 9223372036854775807 < X.size + 1 := by omega
            have hcat : X ++ strB [letB m] = strB (strTo (nailsOf (bts s)) (m + 1)) := by
              apply str_eq
              rw [bts_add, HST.out, ← HX.out]
              rfl
            have hsl : (strB [letB m]).size = 1 := rfl
            have HC := Lib.hid hcat
            generalize strB [letB m] = L at *
            clear hcat
            go_wp2_with fail
            go_round
            case rel => exact ⟨m + 1, by omega, by go_num, by rw [HC.out]⟩
            case measure => simp [intOf]; omega
    · obtain rfl : m = 26 := by omega
      go_wp2_with fail
      go_ret
      exact ⟨by rw [← HF.out]; rfl, HB.out⟩
end Go.Proofs.Ytjdmmgaddbleeaa

/- The reference's insert: the walk. -/
namespace Go.Proofs.Ytjdmmgaddbleeaa
open Go.RowKit

theorem less_ltB : ∀ (a b : List UInt8), Op.bytesLess a b = ltB a b
  | [], [] => rfl
  | [], _ :: _ => rfl
  | _ :: _, [] => rfl
  | a :: l, b :: m => by
    rw [Op.bytesLess, less_ltB l m, Bool.eq_iff_iff, ltB_cons]
    simp
/-- how many strings at the head are ahead of s -/
def atS (s : List UInt8) : List (List UInt8) → Nat
  | [] => 0
  | a :: l => if ltB a s then atS s l + 1 else 0
theorem atS_le (s : List UInt8) : ∀ l, atS s l ≤ l.length
  | [] => Nat.le_refl _
  | a :: l => by
    rw [atS]
    have := atS_le s l
    split <;> simp; omega
theorem insS_at (s : List UInt8) : ∀ l, insS s l = if l[atS s l]? = some s then l else l.take (atS s l) ++ [s] ++ l.drop (atS s l)
  | [] => by simp [insS, atS]
  | a :: l => by
    rw [insS, atS]
    by_cases h : ltB a s = true
    · rw [if_pos h, if_pos h, insS_at s l]
      rw [List.getElem?_cons_succ]
      split <;> simp
    · rw [if_neg h, if_neg h]
      by_cases h2 : a = s
      · subst h2; simp
      · rw [if_neg h2]; simp [h2]
theorem atS_before {s : List UInt8} : ∀ {l : List (List UInt8)} {k : Nat} {a : List UInt8}, k < atS s l → l[k]? = some a → ltB a s = true
  | [], k, a, h, _ => by simp [atS] at h
  | b :: l, k, a, h, h2 => by
    rw [atS] at h
    split at h
    · rename_i hb
      cases k with
      | zero => simp at h2; subst h2; exact hb
      | succ k => exact atS_before (l := l) (k := k) (by omega) (by simpa using h2)
    · omega
theorem atS_here {s : List UInt8} : ∀ {l : List (List UInt8)} {a : List UInt8}, l[atS s l]? = some a → ltB a s = false
  | [], a, h => by simp at h
  | b :: l, a, h => by
    rw [atS] at h
    split at h
    · exact atS_here (l := l) (by simpa using h)
    · rename_i hb; simp at h; subst h; simpa using hb

/-- the cells of a source of strings -/
def SrcT (w : World) (A : Option Addr) (ts : List ByteArray) : Prop := 0 < ts.length → ∃ b o, A = some ⟨b, o, none⟩ ∧ b < w.heap.size ∧ ∀ j s, ts[j]? = some s → w.cell? ⟨b, o + j, none⟩ = some (.string s)
theorem SrcT.keep {w w' : World} {A : Option Addr} {ts : List ByteArray} (h : SrcT w A ts) (hb : Below w.heap.size w w') : SrcT w' A ts := by
  intro h0
  obtain ⟨b, o, e, hlt, hc⟩ := h h0
  exact ⟨b, o, e, Nat.lt_of_lt_of_le hlt hb.size, fun j s hj => (hb.cell (p := ⟨b, o + j, none⟩) hlt).trans (hc j s hj)⟩
def ShapeT (v : Value) (n : Nat) : Prop := ∃ a c, v = .slice a n c
/-- append of some strings that lie elsewhere, or of none -/
theorem wpList_appM {w : World} {ops : Array Oper} {rest : List Oper} {o : Oper} {a : Act} {Q : Exit → Act → World → Prop}
    {base : Nat} {v : Value} {ss : List ByteArray} (hown : OwnT w base v ss) (hb : base ≤ w.heap.size)
    (hgd : o.guard = none) (s x : Operand) (ho : o.op = .call { callee := .builtin .append, args := #[s, x], argTypes := #[22, 22] })
    {A : Option Addr} {m c : Nat} {ts : List ByteArray} (hs : a.eval s = v) (hx : a.eval x = .slice A m c) (hm : ts.length = m) (hsrc : SrcT w A ts) (hl : ss.length + m < 1000000000)
    (hK : ∀ v' w', OwnT w' base v' (ss ++ ts) → Below base w w' → w.grownBy w' v.ownBlock → ShapeT v' (ss.length + m) → wpList Try.prog ops Q rest (a.put o.dst v') w') :
    wpList Try.prog ops Q (o :: rest) a w := by
  subst hm
  obtain ⟨i, h2, h3, h4, h5⟩ := info_parts Try.info9
  by_cases h0 : ts = []
  · subst h0
    refine wpList_plain hgd fun K hK' => ?_
    have hk := hK v w (by simpa using hown) (Below.refl _ _) ⟨rfl, rfl, rfl, Nat.le_refl _, fun _ _ _ => rfl⟩ (by
      rcases hown.2 with ⟨rfl, hz⟩ | ⟨g, cap, cur, rfl, _⟩
      · exact ⟨none, 0, by rw [hz]; rfl⟩
      · exact ⟨_, _, rfl⟩)
    rcases A with _ | ad
    · have hrun : (Builtin.append_ #[22, 22] o.type #[v, .slice none 0 c]).run Try.prog w = .ok v w := by
        rcases hown.2 with ⟨rfl, _⟩ | ⟨g, cap, cur, rfl, _, _, hnc, _⟩
        · simp [Builtin.append_, run_underlying Try.underlying22, sizeOf, typeInfo, h2, Builtin.lenOf, Builtin.firstCells]
        · simp [Builtin.append_, run_underlying Try.underlying22, sizeOf, typeInfo, h2, Builtin.lenOf, Builtin.firstCells, hnc, storeCells]
      unfold Oper.wp execOp
      simp only [List.length_nil] at hx
      simp only [ho, resolve, invoke, builtin, Sem.run_bind, Sem.run_pure, Result.andThen_ok, List.map_toArray, List.map_cons, List.map_nil, hs, hx, hrun]
      exact hK' _ _ hk
    · obtain ⟨v', w', hrun, ho', hg', hn'⟩ := run_append_own (P := Try.prog) w base 22 o.type 9 i (.string ⟨#[]⟩) 1 16 Try.underlying22 h2 h3 h4 h5 rfl (by decide) v ss.length _ hown ad 0 c [] (by simp) (by simp) (by simp) (by unfold maxLen; omega) (by omega) hb
      unfold Oper.wp execOp
      simp only [List.length_nil] at hx
      simp only [ho, resolve, invoke, builtin, Sem.run_bind, Sem.run_pure, Result.andThen_ok, List.map_toArray, List.map_cons, List.map_nil, hs, hx, hrun]
      refine hK' _ _ (hK v' w' (by simpa [OwnT] using ho') ((Below.refl base w).grown hg' hb fun k hk => (hown.lt k hk).1) hg' ?_)
      rcases ho'.2 with ⟨rfl, hz⟩ | ⟨g, cap, cur, rfl, _⟩
      · exact ⟨none, 0, by rw [show ss.length + ([] : List ByteArray).length = 0 from hz]⟩
      · exact ⟨_, _, rfl⟩
  · obtain ⟨b, of, rfl, _, hc⟩ := hsrc (List.length_pos_iff.2 h0)
    refine wpList_append_own _ hgd s x 22 ho base 9 i (.string ⟨#[]⟩) 1 16 Try.underlying22 h2 h3 h4 h5 rfl (by decide) v ss.length _ hs hown ⟨b, of, none⟩ ts.length c (ts.map Value.string) hx (by simp) ?_ ?_ (by unfold maxLen; omega) (by omega) hb ?_
    · intro j u hj
      rw [List.getElem?_map] at hj
      obtain ⟨t, ht, rfl⟩ := Option.map_eq_some_iff.1 hj
      rw [Addr.add_mid]
      exact hc j t ht
    · intro u hu
      obtain ⟨t, _, rfl⟩ := List.mem_map.1 hu
      rfl
    · intro v' w' ho' hg' _
      refine hK v' w' (by simpa [OwnT] using ho') ((Below.refl base w).grown hg' hb fun k hk => (hown.lt k hk).1) hg' ?_
      rcases ho'.2 with ⟨rfl, hz⟩ | ⟨g, cap, cur, rfl, _⟩
      · exact ⟨none, 0, by rw [hz]⟩
      · exact ⟨_, _, rfl⟩
end Go.Proofs.Ytjdmmgaddbleeaa

/- The reference's insert: the walk itself. -/
namespace Go.Proofs.Ytjdmmgaddbleeaa
open Go.RowKit

/-- what insert needs of its list: one that the caller made, nil if it is empty -/
def ListT (w : World) (base : Nat) (v : Value) (ss : List (List UInt8)) : Prop := OwnT w base v (ss.map strB) ∧ (ss = [] → v = .slice none 0 0)
theorem ListT.shape {w : World} {base : Nat} {v : Value} {ss : List (List UInt8)} (h : ListT w base v ss) {n : Nat} (hn : ss.length = n) : ∃ a c, v = .slice a n c ∧ n ≤ c ∧ c ≤ 9223372036854775807 ∧
    (0 < n → ∃ g, a = some ⟨g, 0, none⟩ ∧ g < w.heap.size) ∧ (n = 0 → a = none ∧ c = 0) ∧ (∀ j t, ss[j]? = some t → ∃ g, a = some ⟨g, 0, none⟩ ∧ w.cell? ⟨g, j, none⟩ = some (.string (strB t))) := by
  subst hn
  rcases id h.1.2 with ⟨rfl, hz⟩ | ⟨g, cap, cur, rfl, hb, hg, hn, hm, hc, ht⟩
  · rw [List.length_map] at hz
    exact ⟨none, 0, by rw [hz], by omega, by omega, fun h => by omega, fun _ => ⟨rfl, rfl⟩, fun j t hj => by rw [List.eq_nil_of_length_eq_zero hz] at hj; simp at hj⟩
  · rw [List.length_map] at hn
    refine ⟨some ⟨g, 0, none⟩, cap, by rw [List.length_map], hn, by unfold maxLen at hm; omega, fun _ => ⟨g, rfl, (Array.getElem?_eq_some_iff.1 hg).1⟩, fun h0 => ?_, fun j t hj => ⟨g, rfl, ?_⟩⟩
    · have := h.2 (List.eq_nil_of_length_eq_zero h0)
      simp at this
    · obtain ⟨hjl, _⟩ := List.getElem?_eq_some_iff.1 hj
      rw [World.ownsRow.cellAt h.1 j (by rw [List.length_map]; omega), List.getElem?_map, List.getElem?_map, hj]
      rfl
theorem str_inj {a b : List UInt8} (h : strB a = strB b) : a = b := by
  have := congrArg bts h
  exact this

theorem OwnT.mono {w : World} {base base' : Nat} {v : Value} {ss : List ByteArray} (h : OwnT w base v ss) (hb : base' ≤ base) : OwnT w base' v ss :=
  ⟨h.1, h.2.imp id fun ⟨g, cap, cur, h1, h2, h3⟩ => ⟨g, cap, cur, h1, Nat.le_trans hb h2, h3⟩⟩

set_option maxRecDepth 100000 in
set_option maxHeartbeats 2000000 in
theorem insert_any (base : Nat) (v : Value) (ss : List (List UInt8)) (s : List UInt8) (w : World) (hv : ListT w base v ss) (hb : base ≤ w.heap.size) (hl : ss.length ≤ 100000000) :
    Calls Try.prog 75 #[v, .string (strB s)] w fun e w' => ∃ u, e = .returned u ∧ ListT w' base u (insS s ss) ∧ Below w.heap.size w w' := by
  obtain ⟨n, hn⟩ : ∃ n, ss.length = n := ⟨_, rfl⟩
  obtain ⟨a, c, rfl, hnc, hcm, hpos, hnil, hcell⟩ := hv.shape hn
  have hat := atS_le s ss
  have hins := insS_at s ss
  have hbef := fun k a => atS_before (s := s) (l := ss) (k := k) (a := a)
  have hher := fun a => atS_here (s := s) (l := ss) (a := a)
  rw [hn] at hat hl
  generalize hA : atS s ss = at_ at *
  have HV := Lib.hid hv
  have HN := Lib.hid hn
  have HCELL := Lib.hid hcell
  have HINS := Lib.hid hins
  have HBEF := Lib.hid hbef
  have HHER := Lib.hid hher
  have HPOS := Lib.hid hpos
  have HNIL := Lib.hid hnil
  clear hv hn hcell hins hbef hher hA hpos hnil
  go_enter Try.func75, Try.ntmps75
  go_wp2_with fail
  go_loop [5] (fun iv => ∃ k : Nat, k ≤ at_ ∧ iv = .int .i64 k) (fun iv => at_ - (intOf iv).toNat)
  case atStart => exact ⟨0, by omega, rfl⟩
  case round =>
    obtain ⟨k, hk, rfl⟩ := hrel
    by_cases hlt : k < at_
    · have hkn : k < n := by omega
      obtain ⟨t, ht⟩ : ∃ t, ss[k]? = some t := ⟨_, List.getElem?_eq_getElem (by have := HN.out; omega)⟩
      obtain ⟨g, rfl, hc⟩ := HCELL.out k t ht
      have hlt2 := HBEF.out k t hlt ht
      have hbl : Op.bytesLess (strB t).toList (strB s).toList = true := by rw [ByteArray.toList_eq, ByteArray.toList_eq, less_ltB]; exact hlt2
      clear ht hlt2
      generalize strB t = T at *
      generalize strB s = S at *
      go_wp2_with fail
      go_round
      case rel => exact ⟨k + 1, by omega, by go_num⟩
      case measure => simp [intOf]; omega
    · obtain rfl : k = at_ := by omega
      by_cases hkn : k < n
      · obtain ⟨t, ht⟩ : ∃ t, ss[k]? = some t := ⟨_, List.getElem?_eq_getElem (by have := HN.out; omega)⟩
        obtain ⟨g, rfl, hc⟩ := HCELL.out k t ht
        have hlt2 := HHER.out t ht
        have hbl : Op.bytesLess (strB t).toList (strB s).toList = false := by rw [ByteArray.toList_eq, ByteArray.toList_eq, less_ltB]; exact hlt2
        by_cases hts : t = s
        · have hts2 : ((strB t).toList == (strB s).toList) = true := by rw [hts]; simp
          have hfin : insS s ss = ss := by rw [HINS.out, ht, hts, if_pos rfl]
          have HFIN := Lib.hid hfin
          clear hfin hts ht hlt2
          generalize strB t = T at *
          generalize strB s = S at *
          go_wp2_with fail
          go_ret
          exact ⟨_, rfl, by rw [HFIN.out]; exact HV.out, Below.refl _ _⟩
        · have hts2 : ((strB t).toList == (strB s).toList) = false := by
            simp only [beq_eq_false_iff_ne]
            rw [ByteArray.toList_eq, ByteArray.toList_eq]
            exact hts
          have hfin : insS s ss = ss.take k ++ [s] ++ ss.drop k := by rw [HINS.out, ht, if_neg (by simpa using hts)]
          have hck : c ≠ k := by omega
          have HFIN := Lib.hid hfin
          clear hfin ht hlt2
          generalize strB t = T at *
          generalize hS : strB s = S at *
          have hgl : g < w.heap.size := by
            obtain ⟨g', hg', hlt'⟩ := HPOS.out (by omega)
            simp at hg'
            omega
          have hfin2 : (insS s ss).map strB = (ss.map strB).take k ++ [strB s] ++ (ss.map strB).drop k := by rw [HFIN.out]; simp
          have hne : insS s ss ≠ [] := by rw [HFIN.out]; simp
          have hLn : (ss.map strB).length = n := by rw [List.length_map]; exact HN.out
          have hLc : ∀ j T, (ss.map strB)[j]? = some T → w.cell? ⟨g, j, none⟩ = some (.string T) := by
            intro j T hj
            rw [List.getElem?_map] at hj
            obtain ⟨x, hx, rfl⟩ := Option.map_eq_some_iff.1 hj
            obtain ⟨g', hg', hc'⟩ := HCELL.out j x hx
            simp at hg'
            subst hg'
            exact hc'
          rw [hS] at hfin2
          generalize ss.map strB = L at *
          have hs1 : SrcT w (some ⟨g, 0, none⟩) (L.take k) := fun _ => ⟨g, 0, rfl, hgl, fun j u hj => by
            rw [List.getElem?_take] at hj
            split at hj
            · rw [Nat.zero_add]; exact hLc j u hj
            · cases hj⟩
          have hs3 : SrcT w (some ⟨g, k, none⟩) (L.drop k) := fun _ => ⟨g, k, rfl, hgl, fun j u hj => by
            rw [List.getElem?_drop] at hj
            exact hLc (k + j) u hj⟩
          have hown0 : OwnT w w.heap.size (.slice none 0 0) [] := World.ownsRow_nil _ _ _ _
          have hl1 : (L.take k).length = k := by rw [List.length_take, hLn]; omega
          have hl3 : (L.drop k).length = n - k := by rw [List.length_drop, hLn]
          have hl2 : (L.take k).length < 1000000000 := by omega
          have hl4 : (L.take k ++ [S]).length + (n - k) < 1000000000 := by rw [List.length_append, hl1]; simp; omega
          have HS1 := Lib.hid hs1
          have HS3 := Lib.hid hs3
          have HL1 := Lib.hid hl1
          have HL2 := Lib.hid hl2
          have HL3 := Lib.hid hl3
          have HL4 := Lib.hid hl4
          have HO0 := Lib.hid hown0
          have HS := Lib.hid hS
          have HFIN2 := Lib.hid hfin2
          have HNE := Lib.hid hne
          clear hs1 hs3 hl1 hl2 hl3 hl4 hown0 hS hgl hfin2 hne hLn hLc
          go_wp2_with (at_builtin; refine wpList_appM HO0.out (Nat.le_refl _) rfl _ _ rfl rfl rfl HL1.out HS1.out (by simp; omega) ?_)
          intro v1 w1 hown1 hb1 hg1 hsh1
          have HO1 := Lib.hid hown1
          have HB1 := Lib.hid hb1
          have hw1 := hb1.size
          obtain ⟨a1, c1, rfl⟩ := hsh1
          clear hown1 hb1 hg1
          go_wp2_with (at_builtin; refine wpList_appT Try.underlying22 HO1.out hw1 HL2.out rfl _ _ rfl (z := S) rfl rfl ?_)
          intro v2 w2 hown2 hg2 hb2 g2 c2 hv2
          subst hv2
          have HO2 := Lib.hid hown2
          have hb12 := HB1.out.trans hb2
          have hs32 := HS3.out.keep hb12
          have hw2 := hb12.size
          have HS32 := Lib.hid hs32
          have HB12 := Lib.hid hb12
          clear hown2 hg2 hb2 hb12 hs32
          go_wp2_with (at_builtin; refine wpList_appM HO2.out hw2 rfl _ _ rfl rfl rfl HL3.out HS32.out HL4.out ?_)
          intro v3 w3 hown3 hb3 hg3 hsh3
          have hlt3 : ListT w3 w.heap.size v3 (insS s ss) := ⟨by rw [HFIN2.out]; simpa using hown3, fun h => absurd h HNE.out⟩
          have HLT := Lib.hid hlt3
          have HB3 := Lib.hid (HB12.out.trans hb3)
          clear hlt3 hown3 hb3 hg3
          go_wp2_with fail
          go_ret
          exact ⟨_, rfl, ⟨OwnT.mono HLT.out.1 hb, HLT.out.2⟩, HB3.out⟩
      · obtain rfl : k = n := by omega
        have hfin2 : (insS s ss).map strB = ss.map strB ++ [strB s] := by
          rw [HINS.out, if_neg (by rw [List.getElem?_eq_none (by rw [HN.out]; exact Nat.le_refl _)]; simp), List.take_of_length_le (by rw [HN.out]; exact Nat.le_refl _), List.drop_of_length_le (by rw [HN.out]; exact Nat.le_refl _)]
          simp
        have hne : insS s ss ≠ [] := by
          intro h
          rw [h] at hfin2
          simp at hfin2
        have hLn : (ss.map strB).length = k := by rw [List.length_map]; exact HN.out
        have hLc : ∀ g, a = some ⟨g, 0, none⟩ → ∀ j T, (ss.map strB)[j]? = some T → w.cell? ⟨g, j, none⟩ = some (.string T) := by
          intro g hg j T hj
          rw [List.getElem?_map] at hj
          obtain ⟨x, hx, rfl⟩ := Option.map_eq_some_iff.1 hj
          obtain ⟨g', hg', hc'⟩ := HCELL.out j x hx
          rw [hg] at hg'
          simp at hg'
          subst hg'
          exact hc'
        generalize hS : strB s = S at *
        generalize ss.map strB = L at *
        have hl1 := hLn
        have hown0 : OwnT w w.heap.size (.slice none 0 0) [] := World.ownsRow_nil _ _ _ _
        have hl2 : L.length < 1000000000 := by omega
        have hl4 : (L ++ [S]).length + 0 < 1000000000 := by rw [List.length_append, hl1]; simp; omega
        have hno : ∀ W A, SrcT W A [] := fun W A h0 => by simp at h0
        by_cases hk0 : k = 0
        · subst hk0
          obtain ⟨rfl, rfl⟩ := HNIL.out rfl
          have hs1 : SrcT w none L := fun h0 => by omega
          clear hLc
          have HS1 := Lib.hid hs1
          have HL1 := Lib.hid hl1
          have HL2 := Lib.hid hl2
          have HL4 := Lib.hid hl4
          have HO0 := Lib.hid hown0
          have HS := Lib.hid hS
          have HFIN2 := Lib.hid hfin2
          have HNE := Lib.hid hne
          have HNO := Lib.hid hno
          clear hs1 hl1 hl2 hl4 hown0 hS hfin2 hne hLn hno
          go_wp2_with (at_builtin; refine wpList_appM HO0.out (Nat.le_refl _) rfl _ _ rfl (ts := L) rfl rfl HL1.out HS1.out (by first | (simp; done) | (simp; omega)) ?_)
          intro v1 w1 hown1 hb1 hg1 hsh1
          have HO1 := Lib.hid hown1
          have HB1 := Lib.hid hb1
          have hw1 := hb1.size
          obtain ⟨a1, c1, rfl⟩ := hsh1
          clear hown1 hb1 hg1
          go_wp2_with (at_builtin; refine wpList_appT Try.underlying22 HO1.out hw1 HL2.out rfl _ _ rfl (z := S) rfl rfl ?_)
          intro v2 w2 hown2 hg2 hb2 g2 c2 hv2
          subst hv2
          have HO2 := Lib.hid hown2
          have hb12 := HB1.out.trans hb2
          have hw2 := hb12.size
          have HB12 := Lib.hid hb12
          clear hown2 hg2 hb2 hb12
          go_wp2_with (at_builtin; refine wpList_appM HO2.out hw2 rfl _ _ rfl (ts := []) rfl rfl rfl (HNO.out _ _) HL4.out ?_)
          intro v3 w3 hown3 hb3 hg3 hsh3
          have hlt3 : ListT w3 w.heap.size v3 (insS s ss) := ⟨by rw [HFIN2.out]; simpa using hown3, fun h => absurd h HNE.out⟩
          have HLT := Lib.hid hlt3
          have HB3 := Lib.hid (HB12.out.trans hb3)
          clear hlt3 hown3 hb3 hg3
          go_wp2_with fail
          go_ret
          exact ⟨_, rfl, ⟨OwnT.mono HLT.out.1 hb, HLT.out.2⟩, HB3.out⟩
        · obtain ⟨g, rfl, hgl⟩ := HPOS.out (by omega)
          have hs1 : SrcT w (some ⟨g, 0, none⟩) L := fun _ => ⟨g, 0, rfl, hgl, fun j u hj => by rw [Nat.zero_add]; exact hLc g rfl j u hj⟩
          clear hLc
          by_cases hck : c = k
          · subst hck
            have HS1 := Lib.hid hs1
            have HL1 := Lib.hid hl1
            have HL2 := Lib.hid hl2
            have HL4 := Lib.hid hl4
            have HO0 := Lib.hid hown0
            have HS := Lib.hid hS
            have HFIN2 := Lib.hid hfin2
            have HNE := Lib.hid hne
            have HNO := Lib.hid hno
            clear hs1 hl1 hl2 hl4 hown0 hS hfin2 hne hLn hno
            go_wp2_with (at_builtin; refine wpList_appM HO0.out (Nat.le_refl _) rfl _ _ rfl (ts := L) rfl rfl HL1.out HS1.out (by first | (simp; done) | (simp; omega)) ?_)
            intro v1 w1 hown1 hb1 hg1 hsh1
            have HO1 := Lib.hid hown1
            have HB1 := Lib.hid hb1
            have hw1 := hb1.size
            obtain ⟨a1, c1, rfl⟩ := hsh1
            clear hown1 hb1 hg1
            go_wp2_with (at_builtin; refine wpList_appT Try.underlying22 HO1.out hw1 HL2.out rfl _ _ rfl (z := S) rfl rfl ?_)
            intro v2 w2 hown2 hg2 hb2 g2 c2 hv2
            subst hv2
            have HO2 := Lib.hid hown2
            have hb12 := HB1.out.trans hb2
            have hw2 := hb12.size
            have HB12 := Lib.hid hb12
            clear hown2 hg2 hb2 hb12
            go_wp2_with (at_builtin; refine wpList_appM HO2.out hw2 rfl _ _ rfl (ts := []) rfl rfl rfl (HNO.out _ _) HL4.out ?_)
            intro v3 w3 hown3 hb3 hg3 hsh3
            have hlt3 : ListT w3 w.heap.size v3 (insS s ss) := ⟨by rw [HFIN2.out]; simpa using hown3, fun h => absurd h HNE.out⟩
            have HLT := Lib.hid hlt3
            have HB3 := Lib.hid (HB12.out.trans hb3)
            clear hlt3 hown3 hb3 hg3
            go_wp2_with fail
            go_ret
            exact ⟨_, rfl, ⟨OwnT.mono HLT.out.1 hb, HLT.out.2⟩, HB3.out⟩
          · have hck2 : c ≠ k := hck
            have HS1 := Lib.hid hs1
            have HL1 := Lib.hid hl1
            have HL2 := Lib.hid hl2
            have HL4 := Lib.hid hl4
            have HO0 := Lib.hid hown0
            have HS := Lib.hid hS
            have HFIN2 := Lib.hid hfin2
            have HNE := Lib.hid hne
            have HNO := Lib.hid hno
            clear hs1 hl1 hl2 hl4 hown0 hS hfin2 hne hLn hno
            go_wp2_with (at_builtin; refine wpList_appM HO0.out (Nat.le_refl _) rfl _ _ rfl (ts := L) rfl rfl HL1.out HS1.out (by first | (simp; done) | (simp; omega)) ?_)
            intro v1 w1 hown1 hb1 hg1 hsh1
            have HO1 := Lib.hid hown1
            have HB1 := Lib.hid hb1
            have hw1 := hb1.size
            obtain ⟨a1, c1, rfl⟩ := hsh1
            clear hown1 hb1 hg1
            go_wp2_with (at_builtin; refine wpList_appT Try.underlying22 HO1.out hw1 HL2.out rfl _ _ rfl (z := S) rfl rfl ?_)
            intro v2 w2 hown2 hg2 hb2 g2 c2 hv2
            subst hv2
            have HO2 := Lib.hid hown2
            have hb12 := HB1.out.trans hb2
            have hw2 := hb12.size
            have HB12 := Lib.hid hb12
            clear hown2 hg2 hb2 hb12
            go_wp2_with (at_builtin; refine wpList_appM HO2.out hw2 rfl _ _ rfl (ts := []) rfl rfl rfl (HNO.out _ _) HL4.out ?_)
            intro v3 w3 hown3 hb3 hg3 hsh3
            have hlt3 : ListT w3 w.heap.size v3 (insS s ss) := ⟨by rw [HFIN2.out]; simpa using hown3, fun h => absurd h HNE.out⟩
            have HLT := Lib.hid hlt3
            have HB3 := Lib.hid (HB12.out.trans hb3)
            clear hlt3 hown3 hb3 hg3
            go_wp2_with fail
            go_ret
            exact ⟨_, rfl, ⟨OwnT.mono HLT.out.1 hb, HLT.out.2⟩, HB3.out⟩
end Go.Proofs.Ytjdmmgaddbleeaa

/- The reference's Least: the walk. -/
namespace Go.Proofs.Ytjdmmgaddbleeaa
open Go.RowKit

/-- whether no string of a list but s itself has its letters within s -/
def lst (ss : List (List UInt8)) (s : List UInt8) : Bool := ss.all fun t => decide (t = s) || !inL s t
theorem take_snoc' {α : Type} {l : List α} {k : Nat} {x : α} (h : l[k]? = some x) : l.take (k + 1) = l.take k ++ [x] := by
  rw [List.take_add_one, h]; rfl
def LT (W : World) (base : Nat) (v : Value) (ss : List (List UInt8)) : Prop := ListT W base v ss

set_option maxRecDepth 100000 in
set_option maxHeartbeats 2000000 in
theorem rLeast_any (v : Value) (ss : List (List UInt8)) (w : World) (hv : Strs w v (ss.map strB)) (hl : ss.length ≤ 100000000) (hs : ∀ s ∈ ss, s.length ≤ 1000) :
    Calls Try.prog 48 #[v] w fun e w' => ∃ u, e = .returned u ∧ ListT w' w.heap.size u (sortS (ss.filter (lst ss))) ∧ Below w.heap.size w w' := by
  obtain ⟨a, n, c, rfl, HN0, hnc, hcm⟩ := hv.open
  have hn : ss.length = n := by have := HN0.out; rwa [List.length_map] at this
  rw [hn] at hl
  have HN := Lib.hid hn
  have HV := Lib.hid hv
  have HS := Lib.hid hs
  clear hv hn HN0 hs
  go_enter Try.func48, Try.ntmps48
  go_wp2_with fail
  go_loopw [3, 4] (fun ov iv wr => ∃ i : Nat, i ≤ n ∧ iv = .int .i64 i ∧ Hid (LT wr w.heap.size ov (sortS ((ss.take i).filter (lst ss)))) ∧ Hid (Below w.heap.size w wr)) (fun _ iv _ => n - (intOf iv).toNat)
  case atStart => exact ⟨0, by omega, rfl, (show Hid (ListT _ _ _ _) from ⟨World.ownsRow_nil _ _ _ _, fun _ => rfl⟩), (show Hid _ from Below.refl _ _)⟩
  case round =>
    obtain ⟨i, hi, rfl, HO, HB⟩ := hrel
    obtain ⟨w2, rfl⟩ : ∃ w2, w2 = wr := ⟨_, rfl⟩
    by_cases hlt : i < n
    · obtain ⟨si, hsi⟩ : ∃ t, ss[i]? = some t := ⟨_, List.getElem?_eq_getElem (by have := HN.out; omega)⟩
      have hst2 := HV.out.keep HB.out
      have hcells : ∀ k t, ss[k]? = some t → ∃ b o, a = some ⟨b, o, none⟩ ∧ w2.cell? ⟨b, o + k, none⟩ = some (.string (strB t)) := by
        intro k t hk
        obtain ⟨b, o, s, e1, _, e3, e4⟩ := hst2.at_ (k := k) (by obtain ⟨h, _⟩ := List.getElem?_eq_some_iff.1 hk; have := HN.out; omega)
        have e5 := e3.out
        rw [List.getElem?_map, hk] at e5
        simp at e5
        exact ⟨b, o, e1, by rw [e4, e5]⟩
      obtain ⟨b, o, rfl, hci⟩ := hcells i si hsi
      have HCE := Lib.hid hcells
      have HSI := Lib.hid hsi
      have hsl := HS.out si (List.mem_of_getElem? hsi)
      clear hst2 hcells hsi
      go_wp2_with fail
      go_loopw [5, 6] (fun lv kv wx => ∃ (k q : Nat) (bl : Bool), k ≤ n ∧ kv = .int .i64 k ∧ lv = .bool bl ∧ Hid (bl = (ss.take k).all fun t => decide (t = si) || !inL si t) ∧ Hid (wx = w2.drewN q)) (fun _ kv _ => n - (intOf kv).toNat)
      case atStart => exact ⟨0, 0, true, by omega, rfl, rfl, (show Hid (_ = _) from rfl), (show Hid (_ = _) from rfl)⟩
      case round =>
        obtain ⟨k, q, bl, hk, rfl, rfl, HE, HQ⟩ := hrel
        by_cases hlt2 : k < n
        · obtain ⟨sk, hsk⟩ : ∃ t, ss[k]? = some t := ⟨_, List.getElem?_eq_getElem (by have := HN.out; omega)⟩
          obtain ⟨b', o', hbo, hck0⟩ := HCE.out k sk hsk
          obtain ⟨rfl, rfl⟩ : b = b' ∧ o = o' := by simpa using hbo
          have hck : wr.cell? ⟨b, o + k, none⟩ = some (.string (strB sk)) := by rw [HQ.out]; exact hck0
          have hci2 : wr.cell? ⟨b, o + i, none⟩ = some (.string (strB si)) := by rw [HQ.out]; exact hci
          have hkl := HS.out sk (List.mem_of_getElem? hsk)
          have hcon := fun W => contains_any (strB si) (strB sk) W (by rw [size_str]; omega) (by rw [size_str]; omega)
          have htk : ((ss.take (k + 1)).all fun t => decide (t = si) || !inL si t) = (bl && (decide (sk = si) || !inL si sk)) := by
            rw [take_snoc' hsk, List.all_append, HE.out]; simp
          rw [show inL (bts (strB si)) (bts (strB sk)) = inL si sk from rfl] at hcon
          generalize inL si sk = ct at *
          have heq : ((strB sk).toList == (strB si).toList) = decide (sk = si) := by
            rw [ByteArray.toList_eq, ByteArray.toList_eq, Bool.eq_iff_iff]
            simp
          generalize decide (sk = si) = ce at *
          generalize strB sk = K at *
          generalize strB si = I at *
          have HCON := Lib.hid hcon
          have HTK := Lib.hid htk
          clear hcon htk hck0 hbo hsk hkl
          cases bl
          · go_wp2_with fail
            go_quiet ((go_at_call 20; exact Calls.quiet_of_same (HCON.out _)))
            go_wp2_with fail
            go_roundw
            case rel => exact ⟨k + 1, q + nq, false, by omega, by go_num, rfl, by show _ = _; rw [HTK.out]; rfl, by show _ = _; rw [HQ.out, World.drewN_drewN]⟩
            case measure => simp [intOf]; omega
          · cases ce
            · cases ct
              all_goals
                go_wp2_with fail
                go_quiet ((go_at_call 20; exact Calls.quiet_of_same (HCON.out _)))
                go_wp2_with fail
                go_roundw
                case rel => exact ⟨k + 1, q + nq, _, by omega, by go_num, rfl, by show _ = _; rw [HTK.out]; rfl, by show _ = _; rw [HQ.out, World.drewN_drewN]⟩
                case measure => simp [intOf]; omega
            · go_wp2_with fail
              go_quiet ((go_at_call 20; exact Calls.quiet_of_same (HCON.out _)))
              go_wp2_with fail
              go_roundw
              case rel => exact ⟨k + 1, q + nq, true, by omega, by go_num, rfl, by show _ = _; rw [HTK.out]; rfl, by show _ = _; rw [HQ.out, World.drewN_drewN]⟩
              case measure => simp [intOf]; omega
        · obtain rfl : k = n := by omega
          have hbl : bl = lst ss si := by rw [HE.out, List.take_of_length_le (by rw [HN.out]; exact Nat.le_refl _)]; rfl
          have hfl : (ss.take (i + 1)).filter (lst ss) = (ss.take i).filter (lst ss) ++ if bl = true then [si] else [] := by
            rw [take_snoc' HSI.out, List.filter_append, hbl]
            congr 1
            cases h : lst ss si <;> simp [h]
          have hB : Below w.heap.size w wr := by rw [HQ.out]; exact HB.out.drewN' q
          have hO : ListT wr w.heap.size u3 (sortS ((ss.take i).filter (lst ss))) := by
            rw [HQ.out]
            exact HO.out
          have hlen : (sortS ((ss.take i).filter (lst ss))).length ≤ 100000000 := by
            have h1 := sortS_len ((ss.take i).filter (lst ss))
            have h2 := List.length_filter_le (lst ss) (ss.take i)
            rw [List.length_take] at h2
            omega
          have hin := insert_any w.heap.size u3 _ si wr hO hB.size hlen
          rw [← sortS_snoc] at hin
          have hci2 : wr.cell? ⟨b, o + i, none⟩ = some (.string (strB si)) := by rw [HQ.out]; exact hci
          have HIN := Lib.hid hin
          have HFL := Lib.hid hfl
          have HB2 := Lib.hid hB
          have HO2 := Lib.hid hO
          clear hbl hfl hB hO hlen hin hsl
          cases bl
          · go_wp2_with fail
            go_roundw
            case rel => exact ⟨i + 1, by omega, by go_num, by show ListT _ _ _ _; rw [HFL.out]; simpa using HO2.out, HB2⟩
            case measure => simp [intOf]; omega
          · generalize strB si = I at *
            go_wp2_with (go_at_call 75; refine HIN.out.mono ?_; rintro e w5 ⟨u5, rfl, hO5, hb5⟩)
            have hB5 := HB2.out.trans (hb5.mono HB2.out.size)
            go_roundw
            case rel => exact ⟨i + 1, by omega, by go_num, by show ListT _ _ _ _; rw [HFL.out]; simpa using hO5, hB5⟩
            case measure => simp [intOf]; omega
    · obtain rfl : i = n := by omega
      rw [List.take_of_length_le (by rw [HN.out]; exact Nat.le_refl _)] at HO
      go_wp2_with fail
      go_ret
      exact ⟨_, rfl, HO.out, HB.out⟩
end Go.Proofs.Ytjdmmgaddbleeaa

/- Plain law: the reference's falling sets are the program's. -/
namespace Go.Proofs.Ytjdmmgaddbleeaa
open Go.RowKit

theorem marks_low {t : List UInt8} {c : UInt8} (h : letter (c.toNat : Int) = true) : marksOf t (nailB c) = t.contains (lowB c) := by
  obtain ⟨h1, h2⟩ := letter_low c h
  have hn : nailB c = (lowB c).toNat - 97 := rfl
  rw [Bool.eq_iff_iff, mem_marks, List.contains_iff_mem]
  constructor
  · rintro ⟨d, hd, e⟩
    have : d = lowB c := UInt8.toNat_inj.1 (by omega)
    rwa [← this]
  · intro hm
    exact ⟨_, hm, by omega⟩
theorem falls_eq {l : List UInt8} (hw : isWord l = true) (t : List UInt8) : fallsL t l = fallsP l t := by
  unfold fallsL fallsP
  rw [left_red t l (marksOf t)]
  intro c hc
  exact marks_low (by simpa using List.all_eq_true.1 hw c hc)
/-- the reference's list of falling sets -/
def fallL (l : List UInt8) (A : List UInt8) (K : Nat) : List (List UInt8) := ((List.range K).filter fun b => fallsP l (subS A b)).map (subS A)
theorem fallL_succ (l A : List UInt8) (K : Nat) : fallL l A (K + 1) = fallL l A K ++ if fallsP l (subS A K) = true then [subS A K] else [] := by
  unfold fallL
  rw [List.range_succ, List.filter_append, List.map_append]
  congr 1
  cases h : fallsP l (subS A K) <;> simp [h]
theorem fallL_len (l A : List UInt8) (K : Nat) : (fallL l A K).length ≤ K := by
  unfold fallL
  rw [List.length_map]
  have := List.length_filter_le (fun b => fallsP l (subS A b)) (List.range K)
  simpa using this
theorem least_eq {A : List UInt8} (hA : Rise A) (q : List UInt8 → Bool) (K : Nat) (hK : K = 2 ^ A.length) :
    ((((List.range K).filter fun b => q (subS A b)).map (subS A)).filter (lst (((List.range K).filter fun b => q (subS A b)).map (subS A)))) = (minsTo (fun b => q (subS A b)) K).map (subS A) := by
  generalize hL : ((List.range K).filter fun b => q (subS A b)).map (subS A) = L
  have h1 : ∀ b, b < K → (lst L (subS A b) && q (subS A b)) = minB (fun b => q (subS A b)) b := by
    intro b hb
    rw [Bool.eq_iff_iff, Bool.and_eq_true, minB_iff]
    unfold lst
    rw [List.all_eq_true]
    constructor
    · rintro ⟨h2, h3⟩
      refine ⟨h3, fun c hc hq => ?_⟩
      have hcK : c < K := by have := bitIn_le hc; omega
      have := h2 (subS A c) (by rw [← hL]; exact List.mem_map_of_mem (List.mem_filter.2 ⟨List.mem_range.2 hcK, hq⟩))
      rw [Bool.or_eq_true, decide_eq_true_iff] at this
      rcases this with h4 | h4
      · exact subS_inj hA (by omega) (by omega) h4
      · exfalso
        have h5 : subL (subS A c) (subS A b) = true := by rw [subS_sub hA (by omega)]; exact hc
        have h6 : inL (subS A b) (subS A c) = subL (subS A c) (subS A b) := rfl
        rw [h6, h5] at h4
        cases h4
    · rintro ⟨h2, h3⟩
      refine ⟨fun t ht => ?_, h2⟩
      rw [← hL] at ht
      obtain ⟨c, hc, rfl⟩ := List.mem_map.1 ht
      rw [List.mem_filter, List.mem_range] at hc
      rw [Bool.or_eq_true, decide_eq_true_iff]
      by_cases h4 : bitIn c b = true
      · left; rw [h3 c h4 hc.2]
      · right
        have h6 : inL (subS A b) (subS A c) = subL (subS A c) (subS A b) := rfl
        rw [h6, subS_sub hA (by omega)]
        simpa using h4
  have h7 : L.filter (lst L) = (((List.range K).filter fun b => q (subS A b)).filter fun b => lst L (subS A b)).map (subS A) := by
    conv => lhs; rw [show L.filter (lst L) = (((List.range K).filter fun b => q (subS A b)).map (subS A)).filter (lst L) by rw [hL]]
    rw [List.filter_map]
    rfl
  rw [h7, List.filter_filter]
  unfold minsTo
  congr 1
  apply List.filter_congr
  intro b hb
  exact h1 b (by simpa using hb)
theorem sets_eq {l : List UInt8} : sortS ((fallL l (strN (nailsOf l)) (2 ^ (strN (nailsOf l)).length)).filter (lst (fallL l (strN (nailsOf l)) (2 ^ (strN (nailsOf l)).length)))) = setsL l := by
  unfold fallL setsL leastS
  rw [least_eq (strN_rise _) (fallsP l) _ rfl]
end Go.Proofs.Ytjdmmgaddbleeaa

/- The reference's Sets: the walk. -/
namespace Go.Proofs.Ytjdmmgaddbleeaa
open Go.RowKit

theorem w64_pow {n : Nat} (h : n ≤ 26) : wrap64 (2 ^ n) = ((2 ^ n : Nat) : Int) := by
  have h2 := Nat.pow_le_pow_right (show 2 > 0 by omega) h
  have : ((2 : Int) ^ n) = ((2 ^ n : Nat) : Int) := by push_cast; rfl
  rw [this]
  generalize 2 ^ n = N at *
  unfold wrap64
  omega
set_option maxRecDepth 100000 in
set_option maxHeartbeats 2000000 in
theorem rSets_any (s : ByteArray) (w : World) (hw : isWord (bts s) = true) (hs : s.size ≤ 1000000) :
    Calls Try.prog 15 #[.string s] w fun e w' => ∃ u, e = .returned u ∧ Strs w' u ((setsL (bts s)).map strB) ∧ Below w.heap.size w w' := by
  have hna := Nails_one s w hw (by omega)
  have hAl := strN_len (nailsOf (bts s))
  have hsets := sets_eq (l := bts s)
  have hfe := fun t => falls_eq hw t
  generalize setsL (bts s) = F at *
  generalize strN (nailsOf (bts s)) = A at *
  obtain ⟨N, hN⟩ : ∃ N, N = strB A := ⟨_, rfl⟩
  have hNs : N.size = A.length := by rw [hN]; rfl
  have hNb : bts N = A := by rw [hN]
  rw [← hN] at hna
  have hN26 : N.size ≤ 26 := by omega
  have hsub := fun b W => subset_any N b W (by omega)
  rw [hNb] at hsub
  obtain ⟨K, hK⟩ : ∃ K, K = 2 ^ A.length := ⟨_, rfl⟩
  have hKle : K ≤ 67108864 := by rw [hK]; have := Nat.pow_le_pow_right (show 2 > 0 by omega) hAl; omega
  have hw64 : wrap64 (2 ^ N.size) = (K : Int) := by rw [hK, hNs]; exact w64_pow hAl
  rw [← hK] at hsets
  have HW := Lib.hid hw
  have HNA := Lib.hid hna
  have HSETS := Lib.hid hsets
  have HFE := Lib.hid hfe
  have HSUB := Lib.hid hsub
  have HAL := Lib.hid hAl
  clear hw hna hsets hfe hsub hN hNs hNb hK hAl
  go_enter Try.func15, Try.ntmps15
  go_wp2_with (go_at_call 13; refine HNA.out.mono ?_; rintro e w1 ⟨rfl, hb1⟩)
  have HB1 := Lib.hid hb1
  clear hb1
  go_loopw [4, 5] (fun lv iv wr => ∃ k : Nat, k ≤ K ∧ iv = .int .i64 k ∧ Hid (OwnT wr w.heap.size lv ((fallL (bts s) A k).map strB)) ∧ Hid (Below w.heap.size w wr)) (fun _ iv _ => K - (intOf iv).toNat)
  case atStart => exact ⟨0, by omega, rfl, (show Hid (OwnT _ _ _ _) from World.ownsRow_nil _ _ _ _), HB1⟩
  case round =>
    clear HB1
    obtain ⟨k, hk, rfl, HO, HB⟩ := hrel
    by_cases hlt : k < K
    · have hsb := fun W => HSUB.out k W
      have hSl : (subS A k).length ≤ 26 := by
        have h1 := subTo_len A k A.length
        have h2 := HAL.out
        rw [subTo_all] at h1
        omega
      have hfl := fun W => rFalls_any s (strB (subS A k)) W HW.out (by omega) (by rw [size_str]; omega)
      rw [show bts (strB (subS A k)) = subS A k from rfl, HFE.out] at hfl
      have hsu := fallL_succ (bts s) A k
      have hlen : ((fallL (bts s) A k).map strB).length < 1000000000 := by
        rw [List.length_map]
        have := fallL_len (bts s) A k
        omega
      generalize fallsP (bts s) (subS A k) = r at *
      generalize hX : strB (subS A k) = X at *
      have HX := Lib.hid hX
      have HSB := Lib.hid hsb
      have HFLL := Lib.hid hfl
      have HSU := Lib.hid hsu
      have HLEN := Lib.hid hlen
      clear hsb hfl hsu hlen hX hSl
      cases r
      · go_wp2_with (first
          | (go_at_call 47; refine (HSB.out _).mono ?_; rintro e w2 ⟨rfl, rfl⟩)
          | (go_at_call 21; refine (HFLL.out _).mono ?_; rintro e w3 ⟨rfl, hb3⟩))
        go_roundw
        case rel => exact ⟨k + 1, by omega, by go_num, by (show OwnT _ _ _ _; have h0 : OwnT w3 w.heap.size u4 ((fallL (bts s) A k).map strB) := World.ownsRow.keep HO.out hb3; rw [HSU.out]; simp only [Bool.false_eq_true, if_false, List.append_nil]; exact h0), HB.out.trans (hb3.mono HB.out.size)⟩
        case measure => simp [intOf]; omega
      · go_wp2_with (first
          | (go_at_call 47; refine (HSB.out _).mono ?_; rintro e w2 ⟨rfl, rfl⟩)
          | (go_at_call 21; refine (HFLL.out _).mono ?_))
        rintro e w3 ⟨rfl, hb3⟩
        have HB3 := Lib.hid (HB.out.trans (hb3.mono HB.out.size))
        have HO3 := Lib.hid (World.ownsRow.keep HO.out hb3)
        have hs3 := HB3.out.size
        clear hb3
        go_wp2_with (at_builtin; refine wpList_appT Try.underlying22 HO3.out hs3 HLEN.out rfl _ _ rfl (z := X) rfl rfl ?_; intro v2 w4 hown2 hg2 hb2 hsh2)
        go_roundw
        case rel => exact ⟨k + 1, by omega, by go_num, by show OwnT _ _ _ _; rw [HSU.out]; simp only [if_true, List.map_append, List.map_singleton, HX.out]; exact hown2, HB3.out.trans hb2⟩
        case measure => simp [intOf]; omega
    · obtain rfl : k = K := by omega
      have hlen := fallL_len (bts s) A k
      have hle := rLeast_any u4 (fallL (bts s) A k) wr (OwnT.strs HO.out) (by omega) (by
        intro t ht
        unfold fallL at ht
        obtain ⟨b, _, rfl⟩ := List.mem_map.1 ht
        have h1 := subTo_len A b A.length
        have h2 := HAL.out
        rw [subTo_all] at h1
        omega)
      rw [HSETS.out] at hle
      have HLE := Lib.hid hle
      clear hle hlen
      go_wp2_with (go_at_call 48; refine HLE.out.mono ?_; rintro e w5 ⟨u5, rfl, hl5, hb5⟩)
      go_ret
      exact ⟨_, rfl, OwnT.strs hl5.1, HB.out.trans (hb5.mono HB.out.size)⟩
end Go.Proofs.Ytjdmmgaddbleeaa

/- The law's text: the walk. -/
namespace Go.Proofs.Ytjdmmgaddbleeaa
open Go.RowKit

/-- a letter of any byte -/
def letOf (n : Nat) (c : UInt8) : UInt8 := if c.toNat % (2 * n) < n then UInt8.ofNat (97 + c.toNat % (2 * n)) else UInt8.ofNat (65 + (c.toNat % (2 * n) - n))
def textL (n m : Nat) (l : List UInt8) : List UInt8 := (l.take m).map (letOf n)
theorem ofNat_nat {k : Nat} (h : k < 256) : ((UInt8.ofNat k).toNat : Int) = (k : Int) := by
  have : (UInt8.ofNat k).toNat = k % 256 := rfl
  rw [this]; omega
theorem conv_one {w : World} {c : UInt8} : (convert 40 9 (.slice (some ⟨w.heap.size, 0, none⟩) 1 1)).run Try.prog (w.alloc (.cells #[.int .u8 (c.toNat : Int)] 5)) = .ok (.string (strB [c])) (w.alloc (.cells #[.int .u8 (c.toNat : Int)] 5)) := by
  have h : OwnB (w.alloc (.cells #[.int .u8 (c.toNat : Int)] 5)) 0 (.slice (some ⟨w.heap.size, 0, none⟩) 1 1) [c] :=
    .inr ⟨w.heap.size, 1, _, rfl, Nat.zero_le _, heap_alloc_new w _, by simp, by unfold maxLen; omega, by simp, by simp [B8s]⟩
  exact conv_own h

set_option maxRecDepth 100000 in
set_option maxHeartbeats 2000000 in
theorem text_any (s : ByteArray) (n m : Nat) (w : World) (hs : s.size ≤ 9223372036854775807) (hn1 : 1 ≤ n) (hn2 : n ≤ 26) (hm : m ≤ 1000) :
    Calls Try.prog 16 #[.string s, .int .i64 n, .int .i64 m] w fun e w' => e = .returned (.string (strB (textL n m (bts s)))) ∧ Below w.heap.size w w' := by
  obtain ⟨M, hM⟩ : ∃ M, min s.size m = M := ⟨_, rfl⟩
  have hfin : ((bts s).take M).map (letOf n) = textL n m (bts s) := by
    unfold textL
    rw [← hM]
    congr 1
    by_cases h : s.size ≤ m
    · rw [Nat.min_eq_left h, ← bts_len, List.take_length, List.take_of_length_le (by rw [bts_len]; exact h)]
    · rw [Nat.min_eq_right (by omega)]
  generalize textL n m (bts s) = F at *
  have HF := Lib.hid hfin
  have hMs : M ≤ s.size := by omega
  have hMm : M ≤ m := by omega
  have HMM := Lib.hid hM
  clear hfin hM
  go_enter Try.func16, Try.ntmps16
  go_wp2_with fail
  go_loopw [7, 8] (fun ov iv wr => ∃ j : Nat, j ≤ M ∧ iv = .int .i64 j ∧ ov = .string (strB (((bts s).take j).map (letOf n))) ∧ Hid (Below w.heap.size w wr)) (fun _ iv _ => M - (intOf iv).toNat)
  case atStart => exact ⟨0, by omega, rfl, rfl, (show Hid _ from Below.refl _ _)⟩
  case round =>
    obtain ⟨j, hj, rfl, rfl, HB⟩ := hrel
    by_cases hlt : j < M
    · have hjs : j < s.size := by omega
      have hjm : j < m := by omega
      have htk : ((bts s).take (j + 1)).map (letOf n) = ((bts s).take j).map (letOf n) ++ [letOf n (s[j]'hjs)] := by rw [take_bts hjs]; simp
      have hcat : strB (((bts s).take j).map (letOf n)) ++ strB [letOf n (s[j]'hjs)] = strB (((bts s).take (j + 1)).map (letOf n)) := by
        apply str_eq; rw [bts_add, htk]
      have hsz : (strB (((bts s).take j).map (letOf n))).size ≤ 1000 := by rw [size_str, List.length_map, List.length_take]; omega
      have hcv := fun c => conv_one (w := wr) (c := c)
      obtain ⟨x, hx⟩ : ∃ x, (s[j]'hjs).toNat = x := ⟨_, rfl⟩
      obtain ⟨r, hr⟩ : ∃ r, x % (2 * n) = r := ⟨_, rfl⟩
      have hxl : x < 256 := by rw [← hx]; exact UInt8.toNat_lt _
      have hrl : r < 2 * n := by rw [← hr]; exact Nat.mod_lt _ (by omega)
      have hlo : letOf n (s[j]'hjs) = if r < n then UInt8.ofNat (97 + r) else UInt8.ofNat (65 + (r - n)) := by unfold letOf; rw [hx, hr]
      have hl1 : (strB [letOf n (s[j]'hjs)]).size = 1 := rfl
      have hrem : Int.tmod (x : Int) (2 * (n : Int)) = (r : Int) := by rw [← hr]; rfl
      have hrem2 : (x : Int) % (2 * (n : Int)) = (r : Int) := by rw [← hr]; push_cast; rfl
      have hxi : ((s[j]'hjs).toNat : Int) = (x : Int) := by rw [hx]
      clear hr
      by_cases hrn : r < n
      · rw [if_pos hrn] at hlo
        have hv := ofNat_nat (k := 97 + r) (by omega)
        have hcv1 := hcv (letOf n (s[j]'hjs))
        rw [hlo, hv, show ((97 + r : Nat) : Int) = 97 + (r : Int) by omega] at hcv1
        rw [hlo] at hcat hl1
        generalize hX : strB (((bts s).take j).map (letOf n)) = X at *
        generalize strB [UInt8.ofNat (97 + r)] = L at *
        have HC := Lib.hid hcat
        clear hcv hlo hv hcat htk hx hX
        go_wp2_with fail
        go_roundw
        case rel => exact ⟨j + 1, by omega, by go_num, by rw [HC.out], HB.out.alloc HB.out.size _⟩
        case measure => simp [intOf]; omega
      · rw [if_neg hrn] at hlo
        have hv := ofNat_nat (k := 65 + (r - n)) (by omega)
        have hcv1 := hcv (letOf n (s[j]'hjs))
        rw [hlo, hv, show ((65 + (r - n) : Nat) : Int) = 65 + ((r : Int) - (n : Int)) by omega] at hcv1
        rw [hlo] at hcat hl1
        generalize hX : strB (((bts s).take j).map (letOf n)) = X at *
        generalize strB [UInt8.ofNat (65 + (r - n))] = L at *
        have HC := Lib.hid hcat
        clear hcv hlo hv hcat htk hx hX
        go_wp2_with fail
        go_roundw
        case rel => exact ⟨j + 1, by omega, by go_num, by rw [HC.out], HB.out.alloc HB.out.size _⟩
        case measure => simp [intOf]; omega
    · obtain rfl : j = M := by omega
      have hend : ¬ (j < s.size ∧ j < m) := by have := HMM.out; omega
      rw [HF.out]
      by_cases h1 : j < s.size
      · have h2 : ¬ j < m := by omega
        go_wp2_with fail
        go_ret
        exact ⟨rfl, HB.out⟩
      · go_wp2_with fail
        go_ret
        exact ⟨rfl, HB.out⟩
end Go.Proofs.Ytjdmmgaddbleeaa

/- Sets of a word with too many nails: the walk. -/
namespace Go.Proofs.Ytjdmmgaddbleeaa
open Go.RowKit

set_option maxRecDepth 100000 in
set_option maxHeartbeats 1000000 in
theorem Sets_long (s : ByteArray) (w : World) (h : wordErr s = 0) (hn : 10 < (strN (nailsOf (bts s))).length) :
    Calls Try.prog 11 #[.string s] w fun e w' => e = .returned (.tuple #[.slice none 0 0, .int .i64 2]) ∧ Below w.heap.size w w' := by
  obtain ⟨h1, h2⟩ := word_size h
  have hck := check_any s (w.alloc (.cells #[.string s] 9)) (by omega)
  rw [h] at hck
  have hct := fun W => count_any (nailsOf (bts s)) W
  have hblk0 : Blk (w.alloc (.cells #[.string s] 9)) w.heap.size 9 [.string s] := Blk.new w 9 [.string s]
  have hn0 := nailsOf_nil
  have hM := marks_len (nailsOf (bts s))
  have HW := Lib.hid h1
  have HCK := Lib.hid hck
  have HCT := Lib.hid hct
  have HBL0 := Lib.hid hblk0
  have HM := Lib.hid hM
  have hc0 := hblk0.cell (j := 0) rfl
  clear hck hct hblk0 h h1 hM
  go_enter Try.func11, Try.ntmps11
  go_wp2_with (go_at_call 38; refine HCK.out.mono ?_)
  rintro e w1 ⟨rfl, hb1⟩
  have hbl1 := HBL0.out.keep hb1
  have hc1 := hbl1.cell (j := 0) rfl
  have hB1 : Below w.heap.size w w1 := ((Below.refl _ _).alloc (Nat.le_refl _) _).trans (hb1.mono (B' := w.heap.size) (by simp))
  have hs1 : w.heap.size + 1 ≤ w1.heap.size := by have := hb1.size; simpa using this
  have hz := Blk.new w1 67 zeroL
  have hz2 : zeroL = marksL (nailsOf ((bts s).take 0)) := by rw [List.take_zero, nailsOf_nil]; simp [marksL, List.range, List.range.loop]
  rw [hz2] at hz
  have hblz := hbl1.alloc (.cells (marksL (nailsOf ((bts s).take 0))).toArray 67)
  have hBz := hB1.alloc (by omega) (.cells (marksL (nailsOf ((bts s).take 0))).toArray 67)
  have hwz : w1.alloc (.cells zeroL.toArray 67) = w1.alloc (.cells (marksL (nailsOf ((bts s).take 0))).toArray 67) := by rw [hz2]
  obtain ⟨wz, hwzz⟩ : ∃ wz, w1.alloc (.cells (marksL (nailsOf ((bts s).take 0))).toArray 67) = wz := ⟨_, rfl⟩
  rw [hwzz] at hz hblz hBz hwz
  have HZ := Lib.hid hz
  have HBL := Lib.hid hblz
  have HBZ := Lib.hid hBz
  have HWZ := Lib.hid hwz
  obtain ⟨g5, hg5⟩ : ∃ g5, w1.heap.size = g5 := ⟨_, rfl⟩
  rw [hg5] at HZ
  have hg5' : w.heap.size < g5 := by omega
  clear hz hblz hBz hwz hwzz hz2 hb1 hbl1 hB1
  go_wp2_with fail
  go_loopw [14] (fun jv wx => ∃ j : Nat, j ≤ s.size ∧ jv = .int .i64 j ∧ Hid (Blk wx g5 67 (marksL (nailsOf ((bts s).take j)))) ∧ Hid (Blk wx w.heap.size 9 [.string s]) ∧ Hid (Below w.heap.size w wx)) (fun jv _ => s.size - (intOf jv).toNat)
  case atStart => exact ⟨0, by omega, rfl, by rw [HWZ.out]; exact HZ, by rw [HWZ.out]; exact HBL, by rw [HWZ.out]; exact HBZ⟩
  case round =>
    clear HZ HBL HBZ HWZ hc1 hs1
    obtain ⟨j, hj, rfl, HB, HBL, HBB⟩ := hrel
    have hcw := HBL.out.cell (j := 0) rfl
    by_cases hlt : j < s.size
    · have hlet := letter_at HW.out hlt
      have hno := fun W => nailOf_any (s[j]'hlt) W hlet
      have hn26 := nail_lt hlet
      have hcell := HB.out.cell (marks_get (f := nailsOf ((bts s).take j)) hn26)
      have hfree := HB.out.free (nailB (s[j]'hlt))
      have hset := HB.out.set (nailB (s[j]'hlt)) (.bool true)
      rw [marks_set, ← nailsOf_snoc, ← take_bts hlt] at hset
      have HNO := Lib.hid hno
      have HSET := Lib.hid hset
      clear hno hset hlet
      go_wp2_with (go_at_call 39; refine (HNO.out _).mono ?_; rintro e w3 ⟨rfl, rfl⟩)
      go_roundw
      case rel => exact ⟨j + 1, by omega, by go_num, HSET, HBL.out.other (by simp; omega) _, HBB.out.setCell (p := ⟨g5, nailB (s[j]'hlt), none⟩) (by simp; omega) _⟩
      case measure => simp [intOf]; omega
    · obtain rfl : j = s.size := by omega
      rw [List.take_of_length_le (by rw [bts_len]; exact Nat.le_refl _)] at HB
      generalize hl : (strN (nailsOf (bts s))).length = m at *
      have hgt2 : decide ((10 : Int) < (m : Int)) = true := decide_eq_true (by omega)
      have hct2 := HCT.out
      unfold nailsV at hct2
      clear HCT
      generalize hMM : marksL (nailsOf (bts s)) = M at *
      have HCT := Lib.hid hct2
      clear hct2 hMM
      go_wp2_with (first
        | ((with_reducible show wpList _ _ _ (Oper.mk _ (Op.load 67 _) _ _ _ _ :: _) _ _); refine wpList_loadB HB.out Try.size67 HM.out Try.underlying67 rfl rfl _ rfl rfl ?_)
        | (go_at_call 40; refine (HCT.out _).mono ?_; rintro e w4 ⟨rfl, hu4⟩))
      go_ret2
      exact ⟨rfl, HBB.out.trans (hu4.below.mono HBB.out.size)⟩
end Go.Proofs.Ytjdmmgaddbleeaa
