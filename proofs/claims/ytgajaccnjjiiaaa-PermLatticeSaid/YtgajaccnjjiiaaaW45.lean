/- The reference's Join and Meet: the walks; that the program and the reference compute the same orders. -/
import Derived.Test.YtgajaccnjjiiaaaW44
import Derived.Test.YtgajaccnjjiiaaaW36
namespace Go.Proofs.Ytgajaccnjjiiaaa
open Go.RowKit Go.BigFrame

/-- what both tables hold, by the reference's steps -/
def ror1 (X Y : Nat → Nat → Bool) (n : Nat) : Nat → Nat → Nat → Bool
  | 0 => X
  | a + 1 => or2 (ror1 X Y n a) Y a n
theorem or2_fun (S Y : Nat → Nat → Bool) (a : Nat) : ∀ b i j, or2 S Y a b i j = if i = a ∧ j < b then (S i j || Y i j) else S i j := by
  intro b
  induction b with
  | zero => intro i j; rw [or2, if_neg (by omega)]
  | succ b ih =>
    intro i j
    rw [or2, upd]
    by_cases e : i = a ∧ j = b
    · obtain ⟨rfl, rfl⟩ := e
      rw [if_pos ⟨rfl, rfl⟩, ih, if_neg (by omega), if_pos ⟨rfl, by omega⟩]
    · rw [if_neg e, ih]
      by_cases h : i = a ∧ j < b
      · rw [if_pos h, if_pos (by omega)]
      · rw [if_neg h, if_neg (by omega)]
theorem or1_fun (X Y : Nat → Nat → Bool) : ∀ n i j, or1 X Y n i j = if i < n ∧ j < i then (X i j || Y i j) else X i j := by
  intro n
  induction n with
  | zero => intro i j; rw [or1, if_neg (by omega)]
  | succ n ih =>
    intro i j
    rw [or1, or2_fun]
    by_cases e : i = n ∧ j < n
    · rw [if_pos e, ih, if_neg (by omega), if_pos (by omega)]
    · rw [if_neg e, ih]
      by_cases h : i < n ∧ j < i
      · rw [if_pos h, if_pos (by omega)]
      · rw [if_neg h, if_neg (by omega)]
theorem ror1_fun (X Y : Nat → Nat → Bool) (n : Nat) : ∀ m i j, ror1 X Y n m i j = if i < m ∧ j < n then (X i j || Y i j) else X i j := by
  intro m
  induction m with
  | zero => intro i j; rw [ror1, if_neg (by omega)]
  | succ m ih =>
    intro i j
    rw [ror1, or2_fun]
    by_cases e : i = m ∧ j < n
    · rw [if_pos e, ih, if_neg (by omega), if_pos (by omega)]
    · rw [if_neg e, ih]
      by_cases h : i < m ∧ j < n
      · rw [if_pos h, if_pos (by omega)]
      · rw [if_neg h, if_neg (by omega)]
theorem or_same (X Y : Nat → Nat → Bool) (n : Nat) (h : ∀ i j, Y i j = true → j < i ∧ i < n) : ror1 X Y n n = or1 X Y n := by
  funext i j
  rw [ror1_fun, or1_fun]
  by_cases h1 : i < n ∧ j < i
  · rw [if_pos h1, if_pos (by omega)]
  · rw [if_neg h1]
    split
    · cases hy : Y i j
      · rw [Bool.or_false]
      · exact absurd (h i j hy) (by omega)
    · rfl

theorem rowTo_val (p : List Int) (i m : Nat) : ∀ x ∈ rowTo p i m, p[x.2]?.getD 0 < p[x.1]?.getD 0 := by
  induction m with
  | zero => intro x hx; simp [rowTo] at hx
  | succ m ih =>
    intro x hx
    rw [rowTo, List.mem_append] at hx
    rcases hx with hx | hx
    · exact ih x hx
    · split at hx
      · rw [List.mem_singleton] at hx
        subst hx
        assumption
      · simp at hx
theorem invTo_val (p : List Int) (i : Nat) : ∀ x ∈ invTo p i, p[x.2]?.getD 0 < p[x.1]?.getD 0 := by
  induction i with
  | zero => intro x hx; simp [invTo] at hx
  | succ i ih =>
    intro x hx
    rw [invTo, List.mem_append] at hx
    rcases hx with hx | hx
    · exact ih x hx
    · exact rowTo_val p i _ x hx
theorem invT_iff (p : List Int) (a b : Nat) : invT p a b = true ↔ ∃ x ∈ invs p, p[x.1]?.getD 0 = (a : Int) ∧ p[x.2]?.getD 0 = (b : Int) := by
  unfold invT invOf
  rw [List.any_eq_true]
  constructor
  · rintro ⟨x, hx, h⟩
    rw [Bool.and_eq_true, beq_iff_eq, beq_iff_eq] at h
    exact ⟨x, hx, h⟩
  · rintro ⟨x, hx, h⟩
    exact ⟨x, hx, by rw [Bool.and_eq_true, beq_iff_eq, beq_iff_eq]; exact h⟩
theorem getD_range {p : List Int} (hp : ∀ x ∈ p, 0 ≤ x ∧ x < p.length) {i : Nat} (hi : i < p.length) : 0 ≤ p[i]?.getD 0 ∧ p[i]?.getD 0 < p.length := by
  obtain ⟨x, hx⟩ := get_of_lt (zs := p) hi
  rw [hx]
  exact hp x (List.mem_of_getElem? hx)
theorem invT_bound {p : List Int} (hp : ∀ x ∈ p, 0 ≤ x ∧ x < p.length) {a b : Nat} (h : invT p a b = true) : b < a ∧ a < p.length := by
  obtain ⟨x, hx, h1, h2⟩ := (invT_iff p a b).1 h
  have hv := invTo_val p p.length x hx
  have hl := invs_lt p x hx
  have hr := getD_range hp (i := x.1) (by omega)
  omega
theorem weak_same {p q : List Int} (hp : ∀ x ∈ p, 0 ≤ x ∧ x < p.length) : rweakM p q p.length = weakM p q := by
  rw [Bool.eq_iff_iff]
  constructor
  · intro h
    unfold weakM
    rw [List.all_eq_true]
    intro x hx
    have hl := invs_lt p x hx
    have h1 := getD_range hp (i := x.1) (by omega)
    have h2 := getD_range hp (i := x.2) (by omega)
    unfold rweakM at h
    rw [List.all_eq_true] at h
    have h3 := h (p[x.1]?.getD 0).toNat (List.mem_range.2 (by omega))
    rw [List.all_eq_true] at h3
    have h4 := h3 (p[x.2]?.getD 0).toNat (List.mem_range.2 (by omega))
    have h5 : invT p (p[x.1]?.getD 0).toNat (p[x.2]?.getD 0).toNat = true := (invT_iff _ _ _).2 ⟨x, hx, by omega, by omega⟩
    rw [h5] at h4
    simpa using h4
  · intro h
    unfold weakM at h
    rw [List.all_eq_true] at h
    refine rweakM_true fun i k hi hk => ?_
    cases hc : invT p i k
    · rfl
    · obtain ⟨x, hx, h1, h2⟩ := (invT_iff p i k).1 hc
      have := h x hx
      rw [h1, h2, Int.toNat_natCast, Int.toNat_natCast] at this
      rw [this]; rfl
theorem gcnt_top {p : List Int} (hp : ∀ x ∈ p, 0 ≤ x ∧ x < p.length) (i j : Nat) (hj : p.length ≤ j) : gcnt p i j = 0 := by
  unfold gcnt
  rw [List.countP_eq_zero]
  intro x hx
  have := hp x (List.mem_of_mem_take hx)
  rw [decide_eq_true_eq]; omega
theorem strong_same {p q : List Int} (hp : ∀ x ∈ p, 0 ≤ x ∧ x < p.length) : rstrongM p q p.length = strongM p q p.length := by
  rw [Bool.eq_iff_iff]
  constructor
  · intro h
    unfold rstrongM at h
    unfold strongM
    rw [List.all_eq_true] at h ⊢
    intro i hi
    rw [List.all_eq_true]
    intro j hj
    have h1 := h (i + 1) (List.mem_range.2 (by have := List.mem_range.1 hi; omega))
    rw [List.all_eq_true] at h1
    have h2 := of_decide_eq_true (h1 j (List.mem_range.2 (by have := List.mem_range.1 hj; omega)))
    refine decide_eq_true ?_
    unfold dif; omega
  · intro h
    unfold strongM at h
    rw [List.all_eq_true] at h
    refine rstrongM_true fun i j hi hj => ?_
    by_cases hj2 : j < p.length
    · rcases Nat.eq_zero_or_pos i with rfl | hpos
      · simp [gcnt]
      · obtain ⟨k, rfl⟩ : ∃ k, i = k + 1 := ⟨i - 1, by omega⟩
        have h1 := h k (List.mem_range.2 (by omega))
        rw [List.all_eq_true] at h1
        have h2 := of_decide_eq_true (h1 j (List.mem_range.2 hj2))
        unfold dif at h2; omega
    · rw [gcnt_top hp i j (by omega)]; omega

set_option maxRecDepth 100000 in
set_option maxHeartbeats 8000000 in
theorem rJoin_any (v u : Value) (p q : List Int) (w : World) (hv : Ints w v p) (hu : Ints w u q) (hc : ck2 p q = 0) :
    Calls Try.prog 59 #[v, u] w fun e w' => ∃ r, e = .returned r ∧ Own w' w.heap.size 3 r (joinM p q) ∧ Below w.heap.size w w' := by
  obtain ⟨hcp, hcq, hlen⟩ := ck2_zero hc
  obtain ⟨h1, h2, hrp, _⟩ := check_zero hcp
  have hrq := perm_range hcq
  have hlq : q.length ≤ 60 := by omega
  have hsame := or_same (invT p) (invT q) p.length (fun i j h => by have := invT_bound hrq h; omega)
  obtain ⟨av, n, cv, rfl, HN, hn'⟩ := hv.open
  obtain ⟨au, n2, cu, rfl, HN2, hn2'⟩ := hu.open
  rw [HN.out] at h1 h2 hsame
  obtain rfl : n2 = n := by rw [← HN.out, ← HN2.out, hlen]
  have hjm : joinM p q = ordTo (cl1 (ror1 (invT p) (invT q) n2 n2) n2 n2) n2 := by unfold joinM; rw [HN.out, hsame]
  have HJM := Lib.hid hjm
  have HRP := Lib.hid hrp
  have HRQ := Lib.hid hrq
  have HLQ := Lib.hid hlq
  clear hcp hcq hlen hrp hrq hc hlq hjm hsame
  go_enter Try.func59, Try.ntmps59
  go_wp2_with (first
    | (go_at_call_of 94 (Value.slice av n2 cv); refine (table_any _ p _ hv HRP.out (by rw [HN.out]; exact h2)).mono ?_; rw [HN.out]; rintro e w1 ⟨rfl, ht1, hs1, hb1⟩; have hu1 := hu.below hb1 (Nat.le_refl _))
    | (go_at_call_of 94 (Value.slice au n2 cu); refine (table_any _ q _ hu1 HRQ.out HLQ.out).mono ?_; rw [HN2.out]; rintro e w2 ⟨rfl, ht2, hs2, hb2⟩))
  have hB := hb1.trans (hb2.mono hb1.size)
  have ht12 := ht1.keep hb2
  have ht2' : Tab w2 (w.heap.size + 1 + n2) n2 (invT q) := by rw [← hs1]; exact ht2
  have HT1 := Lib.hid ht12
  have HT2 := Lib.hid ht2'
  clear ht1 ht12 ht2 ht2' hb1 hb2 hs1 hs2 hu1 hv hu
  generalize hX : invT p = X at *
  generalize hY : invT q = Y at *
  clear hX hY
  go_loopw [7] (fun i wr => ∃ a : Nat, a ≤ n2 ∧ i = .int .i64 a ∧ Hid (Tab wr w.heap.size n2 (ror1 X Y n2 a)) ∧ Hid (Tab wr (w.heap.size + 1 + n2) n2 Y) ∧ Below w.heap.size w wr) (fun i _ => n2 - (intOf i).toNat)
  case atStart => exact ⟨0, by omega, rfl, HT1, HT2, hB⟩
  case round =>
    clear HT1 HT2 hB
    obtain ⟨a, ha, rfl, HT1, HT2, hB⟩ := hrel
    by_cases hlt : a < n2
    · go_wp2_with fail
      go_loopw [8] (fun j wx => ∃ b : Nat, b ≤ n2 ∧ j = .int .i64 b ∧ Hid (Tab wx w.heap.size n2 (or2 (ror1 X Y n2 a) Y a b)) ∧ Hid (Tab wx (w.heap.size + 1 + n2) n2 Y) ∧ Below w.heap.size w wx) (fun j _ => n2 - (intOf j).toNat)
      case atStart => exact ⟨0, by omega, rfl, HT1, HT2, hB⟩
      case round =>
        clear HT1 HT2 hB
        obtain ⟨b, hb, rfl, HT1, HT2, hB⟩ := hrel
        by_cases hlb : b < n2
        · have hstep : or2 (ror1 X Y n2 a) Y a (b + 1) = upd (or2 (ror1 X Y n2 a) Y a b) a b (or2 (ror1 X Y n2 a) Y a b a b || Y a b) := rfl
          generalize or2 (ror1 X Y n2 a) Y a b = S at *
          have HSTEP := Lib.hid hstep
          clear hstep
          have r1 := HT1.out.row hlt
          have r2 := HT2.out.row hlt
          have c1 := HT1.out.cell hlt hlb
          have c2 := HT2.out.cell hlt hlb
          have f1 := HT1.out.free hlt b
          have i1 : (a : Int) < n2 := by omega
          have i2 : (b : Int) < n2 := by omega
          generalize hbit : S a b = bit at *
          have HBIT := Lib.hid hbit
          clear hbit
          cases bit
          all_goals
            go_upto_region 8 with fail
            have hT1 : Tab wr.drew w.heap.size n2 S := HT1.out
            have hT2 : Tab wr.drew (w.heap.size + 1 + n2) n2 Y := HT2.out
            have hBq : Below w.heap.size w wr.drew := hB.drewN' 1
            have f9 : wr.drew.frozen? ⟨w.heap.size + 1 + a, b, none⟩ = false := f1
            have HT1Q := Lib.hid hT1
            have HT2Q := Lib.hid hT2
            have HBQ := Lib.hid hBq
            clear hT1 hT2 hBq HT1 HT2 hB f1
            refine wp_tailQ 22 (by kernel_rfl) (by kernel_rfl) (by rfl) ?_
            simp only [List.take_succ_cons, List.take_zero, List.drop_succ_cons, List.drop_zero]
            repeat (go_big_quiet_step (fail))
            refine wpQuiet_nil ?_
          · have c9 : wr.drew.cell? ⟨w.heap.size + 1 + a, b, none⟩ = some (.bool false) := c1
            clear c1 c2 r1 r2
            generalize wr.drew = w5 at *
            go_wp2_with fail
            go_roundw
            case rel =>
              refine ⟨b + 1, by omega, by go_num, ?_, HT2Q.out.other (by simp; omega) _, HBQ.out.setCell (p := ⟨w.heap.size + 1 + a, b, none⟩) (by simp; omega) _⟩
              show Hid _
              rw [HSTEP.out, Bool.false_or]
              exact HT1Q.out.set hlt b (Y a b)
            case measure => simp [intOf]; omega
          · have c9 : wr.drew.cell? ⟨w.heap.size + 1 + a, b, none⟩ = some (.bool true) := c1
            clear c1 c2 r1 r2
            generalize wr.drew = w5 at *
            go_wp2_with fail
            go_roundw
            case rel =>
              refine ⟨b + 1, by omega, by go_num, ?_, HT2Q.out.other (by simp; omega) _, HBQ.out.setCell (p := ⟨w.heap.size + 1 + a, b, none⟩) (by simp; omega) _⟩
              show Hid _
              rw [HSTEP.out, Bool.true_or]
              exact HT1Q.out.set hlt b true
            case measure => simp [intOf]; omega
        · obtain rfl : b = n2 := by omega
          go_wp2_with fail
          go_roundw
          case rel => exact ⟨a + 1, by omega, by go_num, HT1, HT2, hB⟩
          case measure => simp [intOf]; omega
    · obtain rfl : a = n2 := by omega
      have hlt2 := HT2.out.1.lt
      have HL2 := Lib.hid hlt2
      clear hlt2
      go_wp2_with (first
        | (go_at_call 96; refine (closed_any w.heap.size a _ _ HT1.out h2).mono ?_; rintro e w5 ⟨rfl, ht5, hb5⟩; have hz5 := hb5.size; have hB5 := hB.trans hb5)
        | (go_at_call 95; refine (rordered_any w.heap.size a _ _ ht5 (by have := HL2.out; omega) h2).mono ?_; rw [← HJM.out]; rintro e w6 ⟨r, rfl, hown6, hb6⟩))
      go_ret
      exact ⟨_, rfl, Own.mono hown6 hB5.size, hB5.trans (hb6.mono hB5.size)⟩

set_option maxHeartbeats 2000000 in
theorem rMeet_any (v u : Value) (p q : List Int) (w : World) (hv : Ints w v p) (hu : Ints w u q) (hc : ck2 p q = 0) :
    Calls Try.prog 60 #[v, u] w fun e w' => ∃ r, e = .returned r ∧ Own w' w.heap.size 3 r (meetM p q) ∧ Below w.heap.size w w' := by
  obtain ⟨hcp, hcq, hlen⟩ := ck2_zero hc
  obtain ⟨h1, h2, _, _⟩ := check_zero hcp
  have hq2 : q.length ≤ 1000 := by omega
  have hp2 : p.length ≤ 1000 := by omega
  have hj1 : (joinM p.reverse q.reverse).length ≤ 1000 := by rw [joinM_len, List.length_reverse]; exact hp2
  have HR := Lib.hid (ck2_reverse hc)
  have HH := Lib.hid (And.intro hp2 (And.intro hq2 hj1))
  clear hcp hcq hlen hc h1 h2 hq2 hp2 hj1
  obtain ⟨au, nu, cu, rfl, HNU, _⟩ := hu.open
  obtain ⟨av, nv, cv, rfl, HNV, _⟩ := hv.open
  go_enter Try.func60, Try.ntmps60
  go_wp2_with (first
    | (go_at_call_of 97 (Value.slice av nv cv); refine (rturned_any _ p _ hv HH.out.1).mono ?_; rintro e w2 ⟨u2, rfl, hown2, hb2⟩; have hu2 := hu.below hb2 (Nat.le_refl _); have hz2 := hb2.size)
    | (go_at_call_of 97 (Value.slice au nu cu); refine (rturned_any _ q _ hu2 HH.out.2.1).mono ?_; rintro e w3 ⟨u3, rfl, hown3, hb3⟩; have hi2 := (Own.ints hown2).below hb3 (Nat.le_refl _); have hi3 := Own.ints hown3; have hB3 := hb2.trans (hb3.mono hz2))
    | (go_at_call 59; refine (rJoin_any _ _ _ _ _ hi2 hi3 HR.out).mono ?_; rintro e w4 ⟨u4, rfl, hown4, hb4⟩; have hB4 := hB3.trans (hb4.mono hB3.size); have hi4 := Own.ints hown4)
    | (go_at_call_of 97 u4; refine (rturned_any _ _ _ hi4 HH.out.2.2).mono ?_; rintro e w5 ⟨u5, rfl, hown5, hb5⟩))
  go_ret
  exact ⟨_, rfl, Own.mono hown5 hB4.size, hB4.trans (hb5.mono hB4.size)⟩
end Go.Proofs.Ytgajaccnjjiiaaa
