/- Normal. -/
import Derived.Test.YtlooclpfoeakgaaMM
import Derived.Test.YtlooclpfoeakgaaML
namespace Go.Proofs.Ytlooclpfoeakgaa
open Go.RowKit

theorem let_ok {k : Nat} (hk : k ≤ 4) {p : Nat} (hp : p < 2 * k) : ∀ c ∈ bts (strB [letP p]), letter c.toNat = true ∧ placeB c < 2 * k := by
  have : ∀ p, p < 8 → letter (letP p).toNat = true ∧ placeB (letP p) = p := by decide
  intro c hc
  obtain rfl : c = letP p := by simpa using hc
  obtain ⟨h1, h2⟩ := this p (by omega)
  exact ⟨h1, by omega⟩
/-- a letter's turn leaves the group as it is -/
def normP (k : Nat) (g : List (List Int)) (p : Nat) : Prop := IsGraphN k (conjL k g [letP p]) g
theorem normP_iff {k : Nat} (hk : k ≤ 26) {g g2 : List (List Int)} {p : Nat} (h : IsGraph k (conjL k g [letP p]) g2) : g2 = g ↔ normP k g p :=
  ⟨fun e => by unfold normP; have h2 := h.wide; rwa [e] at h2, fun e => h.wide.same hk e (fun _ _ => Iff.rfl)⟩

/-- all letters' turns leave the group as it is -/
noncomputable def normB (k : Nat) (g : List (List Int)) : Bool := @decide (∀ p, p < 2 * k → normP k g p) (Classical.propDecidable _)
theorem normB_true {k : Nat} {g : List (List Int)} (h : ∀ p, p < 2 * k → normP k g p) : normB k g = true := by unfold normB; exact @decide_eq_true _ (Classical.propDecidable _) h
theorem normB_false {k : Nat} {g : List (List Int)} {p : Nat} (hp : p < 2 * k) (h : ¬ normP k g p) : normB k g = false := by unfold normB; exact @decide_eq_false _ (Classical.propDecidable _) fun e => h (e p hp)

set_option maxRecDepth 100000 in
set_option maxHeartbeats 4000000 in
theorem Normal_good (w : World) (k : Nat) (rv : Value) (g : List (List Int)) (h : RowsR w rv g) (hg : GoodG k g) (hlen : g.length < 4999) :
    Calls Try.prog 45 #[.agg #[.int .i64 k, rv]] w fun e w' => e = .returned (.tuple #[.bool (normB k g), .int .i64 0]) ∧ Below w.heap.size w w' := by
  obtain ⟨w1, hw1⟩ : ∃ w1, w1 = w.alloc (.cells #[.int .i64 k, rv] 25) := ⟨_, rfl⟩
  have hb1 : Below w.heap.size w w1 := by rw [hw1]; exact (Below.refl _ w).alloc (Nat.le_refl _) _
  have hx1 : Blk w1 w.heap.size 25 [.int .i64 k, rv] := by rw [hw1]; exact Blk.new w 25 [.int .i64 k, rv]
  have h1 := h.keep hb1
  have hk4 := hg.k4
  have hS : ∀ wx, Below w1.heap.size w1 wx → wx.cell? ⟨w.heap.size, 0, none⟩ = some (.int .i64 k) ∧ wx.cell? ⟨w.heap.size, 1, none⟩ = some rv := fun wx hb => ⟨(hx1.keep hb).cell (j := 0) rfl, (hx1.keep hb).cell (j := 1) rfl⟩
  have htn : ∀ (wx : World) (p : Nat), Below w1.heap.size w1 wx → p < 2 * k → Calls Try.prog 83 #[.agg #[.int .i64 k, rv], .string (strB [letP p])] wx fun e w' => ∃ (rv' : Value) (g' : List (List Int)), e = .returned (.agg #[.int .i64 k, rv']) ∧ (g' = g ↔ normP k g p) ∧ RowsR w' rv' g' ∧ GoodG k g' ∧ Below wx.heap.size wx w' := fun wx p hb hp => by
    refine (turn_any wx k rv g (h1.keep hb) hg (strB [letP p]) (by show g.length + 1 < 5000; omega) (let_ok hk4 hp)).mono ?_
    rintro e w' ⟨rv', g', rfl, a1, a2, a3⟩
    exact ⟨rv', g', rfl, normP_iff (by omega) a1, a2.toR, a1.good hg.k1 hk4, a3⟩
  have heq : ∀ (wx : World) (rv' : Value) (g' : List (List Int)), Below w1.heap.size w1 wx → RowsR wx rv' g' → GoodG k g' → Calls Try.prog 85 #[.agg #[.int .i64 k, rv'], .agg #[.int .i64 k, rv]] wx fun e w' => e = .returned (.bool (decide (g' = g))) ∧ Below wx.heap.size wx w' := fun wx rv' g' hb hr hg' =>
    gequal_any wx _ _ rv' rv g' g hr (h1.keep hb) (by have := hg'.len9; omega) (fun r h => by have := hg'.row9 r h; omega)
  obtain ⟨K, hK⟩ : ∃ K, 2 * k = K := ⟨_, rfl⟩
  have hKI : 2 * (k : Int) = K := by omega
  have hKW : IntKind.i64.wrap (K : Int) = K := by rw [IntKind.wrap_i64]; omega
  have hK8 : K ≤ 8 := by omega
  have hT : (∀ p, p < K → normP k g p) → normB k g = true := fun h => normB_true (by rw [hK]; exact h)
  have hF : ∀ p, p < K → ¬ normP k g p → normB k g = false := fun p h1 h2 => normB_false (by rw [hK]; exact h1) h2
  rw [hK] at htn
  have HT := Lib.hid hT
  have HF := Lib.hid hF
  obtain ⟨c0, c1⟩ := hS w1 (Below.refl _ _)
  have HCK := Lib.hid (Check_good w1 k rv g h1 hg)
  have HTN := Lib.hid htn
  have HEQ := Lib.hid heq
  have HS := Lib.hid hS
  have HB := Lib.hid hb1
  clear h h1 hx1 hb1 hg htn heq hS hK hlen hT hF
  go_enter Try.func45, Try.ntmps45
  go_upto_region 1 with fail
  rw [← hw1]
  clear hw1
  go_upto_region 4 with (go_at_call 52; refine HCK.out.mono ?_; rintro e w2 ⟨rfl, hb2⟩)
  obtain ⟨d0, d1⟩ := HS.out w2 hb2
  have HB2 := Lib.hid hb2
  have HP0 : Hid (∀ q, q < 0 → normP k g q) := Lib.hid (fun q h => by omega)
  clear hb2 HCK
  go_wp2_with fail
  go_loopw [14] (fun iv wr => ∃ p : Nat, p ≤ K ∧ iv = .int .i64 p ∧ Hid (∀ q, q < p → normP k g q) ∧ Hid (Below w1.heap.size w1 wr)) (fun iv _ => K - (intOf iv).toNat)
  case atStart => exact ⟨0, by omega, rfl, HP0, HB2⟩
  case round =>
    clear HP0 HB2
    obtain ⟨p, hp, rfl, HP, HBW⟩ := hrel
    by_cases hlt : p < K
    · have hS0 := HS.out _ ((HBW.out).trans (((Below.refl _ wr).drewN' 1).mono HBW.out.size))
      have HSR := Lib.hid hS0
      have HLT := Lib.hid hlt
      clear hS0
      go_upto_region 7 with fail
      refine wp_region_held_drew (S := fun w' => w'.cell? ⟨w.heap.size, 0, none⟩ = some (.int .i64 k) ∧ w'.cell? ⟨w.heap.size, 1, none⟩ = some rv) (by kernel_rfl) HSR.out (fun hHeld => ?_)
      refine takeH 0 (v := ?_) rfl (by kernel_rfl) (by kernel_rfl) (by kernel_rfl) (fun _ _ _ h => h) (by rfl) ?_ hHeld ?_
      rotate_left
      · (intro w hSw; (try dsimp only at hSw); go_simp; try with_reducible rfl)
      try simp only [Act.put, List.setIfInBounds_toArray, List.set_cons_zero, List.set_cons_succ]
      refine takeH 1 (v := ?_) rfl (by kernel_rfl) (by kernel_rfl) (by kernel_rfl) (fun _ _ _ h => h) (by rfl) ?_ hHeld ?_
      rotate_left
      · (intro w hSw; (try dsimp only at hSw); go_simp; try with_reducible rfl)
      try simp only [Act.put, List.setIfInBounds_toArray, List.set_cons_zero, List.set_cons_succ]
      refine takeH 4 (v := ?_) rfl (by kernel_rfl) (by kernel_rfl) (by kernel_rfl) (fun _ _ _ h => h) (by rfl) ?_ hHeld ?_
      rotate_left
      · (intro w hSw; (try dsimp only at hSw); go_simp; try with_reducible rfl)
      try simp only [Act.put, List.setIfInBounds_toArray, List.set_cons_zero, List.set_cons_succ]
      refine oneH 2 (by kernel_rfl) rfl (fun K hK => ?_)
      go_simp
      go_at_call 84
      refine (letter_any _ p (by omega)).mono ?_
      rintro e w3 ⟨rfl, hw3⟩
      have hb3 : Below w1.heap.size w1 wr.drew := HBW.out.trans (((Below.refl _ wr).drewN' 1).mono HBW.out.size)
      subst hw3
      dsimp only
      refine hK.out _ _ (HS.out _ hb3) (fun hHeld => ?_)
      clear hK K
      try simp only [Act.put, List.setIfInBounds_toArray, List.set_cons_zero, List.set_cons_succ]
      refine oneH 3 (by kernel_rfl) rfl (fun K hK => ?_)
      go_simp
      go_at_call 83
      refine (HTN.out _ p hb3 HLT.out).mono ?_
      rintro e w4 ⟨rv4, g4, rfl, hiff, hr4, hg4, hb4⟩
      have hb4' := hb3.trans (hb4.mono hb3.size)
      dsimp only
      refine hK.out _ _ (HS.out _ hb4') (fun hHeld => ?_)
      clear hK K
      try simp only [Act.put, List.setIfInBounds_toArray, List.set_cons_zero, List.set_cons_succ]
      refine oneH 5 (by kernel_rfl) rfl (fun K hK => ?_)
      go_simp
      go_at_call 85
      refine (HEQ.out w4 rv4 g4 hb4' hr4 hg4).mono ?_
      rintro e w5 ⟨rfl, hb5⟩
      have hb5' := hb4'.trans (hb5.mono hb4'.size)
      dsimp only
      refine hK.out _ _ (HS.out _ hb5') (fun hHeld => ?_)
      clear hK K
      try simp only [Act.put, List.setIfInBounds_toArray, List.set_cons_zero, List.set_cons_succ]
      refine takeH 6 (v := ?_) rfl (by kernel_rfl) (by kernel_rfl) (by kernel_rfl) (fun _ _ _ h => h) (by rfl) ?_ hHeld ?_
      rotate_left
      · (intro w hSw; (try dsimp only at hSw); go_simp; try with_reducible rfl)
      try simp only [Act.put, List.setIfInBounds_toArray, List.set_cons_zero, List.set_cons_succ]
      refine wpAnyH_done (by kernel_rfl) ?_ _
      have HB5 := Lib.hid hb5'
      obtain ⟨b, hb⟩ : ∃ b, decide (g4 = g) = b := ⟨_, rfl⟩
      have HIF : Hid (b = true ↔ normP k g p) := Lib.hid (by rw [← hb, decide_eq_true_iff]; exact hiff)
      rw [hb]
      clear hb hiff hr4 hg4 hb3 hb4 hb4' hb5 hb5' hHeld HSR
      cases b with
      | true =>
        have HP2 : Hid (∀ q, q < p + 1 → normP k g q) := Lib.hid (fun q hq => by
          by_cases e : q = p
          · subst e; exact HIF.out.1 rfl
          · exact HP.out q (by omega))
        go_wp2_with fail
        go_roundw
        case rel => exact ⟨p + 1, by omega, by go_num, HP2, HB5⟩
        case measure => simp [intOf]; omega
      | false =>
        have hNT := HF.out p HLT.out (fun h => by have := HIF.out.2 h; cases this)
        have HNT := Lib.hid hNT
        clear hNT
        go_wp2_with fail
        go_ret2
        exact ⟨by rw [HNT.out]; rfl, HB.out.trans (HB5.out.mono HB.out.size)⟩
    · obtain rfl : p = K := by omega
      have hNT := HT.out HP.out
      have HNT := Lib.hid hNT
      clear hNT
      go_wp2_with fail
      go_ret2
      exact ⟨by rw [HNT.out]; rfl, HB.out.trans (HBW.out.mono HB.out.size)⟩
end Go.Proofs.Ytlooclpfoeakgaa

/- Cosets. -/
namespace Go.Proofs.Ytlooclpfoeakgaa
open Go.RowKit

/-- where a word leads from the first vertices -/
def cosL (k : Nat) (g : List (List Int)) (l : List UInt8) (n : Nat) : List Int := (List.range n).map fun i => optI (runS (stG k g) i l)
theorem cosL_succ (k : Nat) (g : List (List Int)) (l : List UInt8) (n : Nat) : cosL k g l (n + 1) = cosL k g l n ++ [optI (runS (stG k g) n l)] := by
  unfold cosL; rw [List.range_succ, List.map_append]; rfl
theorem cosL_len (k : Nat) (g : List (List Int)) (l : List UInt8) (n : Nat) : (cosL k g l n).length = n := by simp [cosL]

set_option maxRecDepth 100000 in
set_option maxHeartbeats 4000000 in
theorem Cosets_good (w : World) (k : Nat) (rv : Value) (g : List (List Int)) (h : RowsR w rv g) (hg : GoodG k g) (s : ByteArray) (hs : s.size ≤ 30000) (h0 : cwErr k s = 0) :
    Calls Try.prog 46 #[.agg #[.int .i64 k, rv], .string s] w fun e w' => ((wholeG g = false ∧ e = .returned (.tuple #[.slice none 0 0, .int .i64 4])) ∨ (wholeG g = true ∧ ∃ v, e = .returned (.tuple #[v, .int .i64 0]) ∧ IntsR w' v (cosL k g (redW (bts s)) g.length))) ∧ Below w.heap.size w w' := by
  obtain ⟨w1, hw1⟩ : ∃ w1, w1 = w.alloc (.cells #[.int .i64 k, rv] 25) := ⟨_, rfl⟩
  have hb1 : Below w.heap.size w w1 := by rw [hw1]; exact (Below.refl _ w).alloc (Nat.le_refl _) _
  have hx1 : Blk w1 w.heap.size 25 [.int .i64 k, rv] := by rw [hw1]; exact Blk.new w 25 [.int .i64 k, rv]
  have h1 := h.keep hb1
  have hrd := read_good w1 k rv g h1 hg s (by omega)
  rw [if_pos h0, h0] at hrd
  obtain ⟨q1, q2⟩ := cwErr_zero h0
  have hrl := redW_len (bts s)
  rw [bts_len] at hrl
  have hWw : isWord (redW (bts s)) = true := isWord_red q1
  have hWf : fitW k (redW (bts s)) = true := List.all_eq_true.2 fun c hc => List.all_eq_true.1 q2 c (redW_sub hc)
  obtain ⟨q, hq⟩ : ∃ q, redW (bts s) = q := ⟨_, rfl⟩
  rw [hq] at hrd hrl hWw hWf ⊢
  obtain ⟨Q, hQ⟩ : ∃ Q, strB q = Q := ⟨_, rfl⟩
  have hQb : bts Q = q := by rw [← hQ]
  have hQs : Q.size = q.length := by rw [← hQb, bts_len]
  rw [hQ] at hrd
  rw [← hQb] at hWw hWf ⊢
  obtain ⟨n, hn⟩ : ∃ n, g.length = n := ⟨_, rfl⟩
  have hn5 := hg.n5
  rw [hn] at hn5
  have hld : ∀ (wx : World) (i : Nat), Below w1.heap.size w1 wx → i < n → Calls Try.prog 75 #[.agg #[.int .i64 k, rv], .int .i64 i, .string Q] wx fun e w' => e = .returned (.int .i64 (optI (runS (stG k g) i (bts Q)))) ∧ Below wx.heap.size wx w' := fun wx i hb hi =>
    leads_any wx k rv g (h1.keep hb) hg i (by rw [hn]; exact hi) Q (by omega) hWw hWf
  have hwh := fun wx (hb : Below w1.heap.size w1 wx) => whole_any wx (.int .i64 k) rv g (h1.keep hb) (by have := hg.len9; omega) (fun r hr => by have := hg.row9 r hr; omega)
  obtain ⟨va, vc, rfl, hv1, hv2⟩ := h1.shape hn
  have hS : ∀ wx, Below w1.heap.size w1 wx → wx.cell? ⟨w.heap.size, 0, none⟩ = some (.int .i64 k) ∧ wx.cell? ⟨w.heap.size, 1, none⟩ = some (.slice va n vc) := fun wx hb => ⟨(hx1.keep hb).cell (j := 0) rfl, (hx1.keep hb).cell (j := 1) rfl⟩
  rw [hn]
  obtain ⟨c0, c1⟩ := hS w1 (Below.refl _ _)
  have HRD := Lib.hid hrd
  have HWH := Lib.hid hwh
  have HLD := Lib.hid hld
  have HS := Lib.hid hS
  have HB := Lib.hid hb1
  clear h h1 hx1 hb1 hg hrd hwh hld hS hQ hQb hq hrl hs h0 q1 q2 hQs hn hWw hWf
  go_enter Try.func46, Try.ntmps46
  go_upto_region 1 with fail
  rw [← hw1]
  clear hw1
  go_upto_region 4 with (go_at_call 74; refine HRD.out.mono ?_; rintro e w2 ⟨rfl, hb2⟩)
  obtain ⟨d0, d1⟩ := HS.out w2 hb2
  have HB2 := Lib.hid hb2
  have HW := Lib.hid (HWH.out w2 hb2)
  clear hb2 HRD HWH
  cases hwg : wholeG g with
  | false =>
    rw [hwg] at HW
    go_wp2_with (go_at_call 69; refine HW.out.mono ?_; rintro e w3 ⟨rfl, hb3⟩; have HB3 := Lib.hid (HB.out.trans ((HB2.out.trans (hb3.mono HB2.out.size)).mono HB.out.size)))
    go_ret2
    exact ⟨.inl ⟨hwg, rfl⟩, HB3.out⟩
  | true =>
    rw [hwg] at HW
    go_upto_region 6 with (go_at_call 69; refine HW.out.mono ?_; rintro e w3 ⟨rfl, hb3⟩)
    have HB3 := Lib.hid (HB2.out.trans (hb3.mono HB2.out.size))
    obtain ⟨e0, e1⟩ := HS.out w3 HB3.out
    have HO0 : Hid (Own w3 w3.heap.size 3 (.slice none 0 0) (cosL k g (bts Q) 0)) := Lib.hid (Own.nil _ _ _)
    have HV0 : Hid (Below w3.heap.size w3 w3) := Lib.hid (Below.refl _ _)
    clear hb3 HW d0 d1 c0 c1
    go_wp2_with fail
    go_loopw [24, 7] (fun iv ov wr => ∃ (i : Nat) (lw : Value), i ≤ n ∧ iv = .int .i64 i ∧ lw = ov ∧ Hid (Own wr w3.heap.size 3 lw (cosL k g (bts Q) i)) ∧ Hid (Below w3.heap.size w3 wr)) (fun iv _ _ => n - (intOf iv).toNat)
    case atStart => exact ⟨0, _, by omega, rfl, rfl, HO0, HV0⟩
    case round =>
      clear HO0 HV0
      obtain ⟨i, lw, hi, rfl, rfl, HO, HV⟩ := hrel
      by_cases hlt : i < n
      · have hb13 : Below w1.heap.size w1 wr := HB3.out.trans (HV.out.mono HB3.out.size)
        obtain ⟨f0, f1⟩ := HS.out wr hb13
        have HL := Lib.hid (HLD.out wr i hb13 hlt)
        have HZ := Lib.hid (cosL_succ k g (bts Q) i)
        have hlen := cosL_len k g (bts Q) i
        obtain ⟨L, hL⟩ : ∃ L, cosL k g (bts Q) i = L := ⟨_, rfl⟩
        obtain ⟨z, hz⟩ : ∃ z, optI (runS (stG k g) i (bts Q)) = z := ⟨_, rfl⟩
        rw [hL] at HO HZ hlen
        rw [hz] at HL HZ
        have hsz := HV.out.size
        clear hb13 hL hz
        go_upto_region 11 with (first
          | (go_at_call 75; refine HL.out.mono ?_; rintro e w4 ⟨rfl, hb4⟩; have HO4 : Hid (Own w4 w3.heap.size 3 lw L) := Lib.hid (World.ownsRow.keep HO.out hb4); have HV4 := Lib.hid (HV.out.trans (hb4.mono hsz)); have h34 := HV4.out.size)
          | (at_builtin; refine wpList_app1 Try.info3 Try.underlying54 HO4.out h34 (by omega) rfl (.tmp 27) (.tmp 32) rfl (z := z) (by simp [Act.eval]) (by simp [Act.eval]) ?_; intro v6 w6 hown6 hgrow6 hbel6 hsh6))
        have G3 : Hid (Own w6 w3.heap.size 3 v6 (cosL k g (bts Q) (i + 1))) := Lib.hid (by rw [HZ.out]; exact hown6)
        have HV6 : Hid (Below w3.heap.size w3 w6) := Lib.hid (HV4.out.trans hbel6)
        obtain ⟨g6, cc6, rfl⟩ := hsh6
        clear hown6 hgrow6 hbel6
        go_wp2_with fail
        go_roundw
        case rel => exact ⟨i + 1, _, by omega, by go_num, rfl, G3, HV6⟩
        case measure => simp [intOf]; omega
      · obtain rfl : i = n := by omega
        have HRES := Lib.hid HO.out.toR
        have HBW := Lib.hid (HB3.out.trans (HV.out.mono HB3.out.size))
        go_wp2_with fail
        go_ret2
        exact ⟨.inr ⟨hwg, _, rfl, HRES.out⟩, HB.out.trans (HBW.out.mono HB.out.size)⟩
end Go.Proofs.Ytlooclpfoeakgaa

/- The reference turns a group. -/
namespace Go.Proofs.Ytlooclpfoeakgaa
open Go.RowKit

theorem strs_of_wordsL {w : World} {base : Nat} {v : Value} {l : List (List UInt8)} (h : w.ownsRow base 9 1 v l.length (strsV l)) : Strs w v (l.map strB) := by
  refine Strs.of_row (base := base) ?_
  rw [List.length_map, List.map_map]
  exact h
/-- words, each turned -/
def twL (v : List UInt8) (L : List (List UInt8)) : List (List UInt8) := L.map fun b => v ++ b ++ invL v
theorem ret47 {w : World} {tmps : Array Value} {g : Nat} {M : List Value} (hM : M.length = 2) (hp : tmps.getD 4 undef = .pointer (some ⟨g, 0, none⟩)) (hb : Blk w g 32 M) : (results Try.f47 tmps).run Try.prog w = .ok (.agg M.toArray) w :=
  results_cell_row rfl tmps w g 32 _ (0, 0) _ hp hb Try.underlying32 rfl (by rw [Try.size32]; simp [hM])
theorem isGraphN_turn {k : Nat} {g g2 : List (List Int)} (hg : GoodG k g) {v q : List UInt8} (hq : Eqv v q) (h : IsGraphN k (setR ((twL v (basisW k g)).map strB)) g2) {g1 : List (List Int)} (h1 : IsGraph k (conjL k g q) g1) : g1 = g2 := by
  refine h1.wide.same (by have := hg.k4; omega) h (fun a _ => ?_)
  rw [gen_conj hg hq]
  refine Iff.trans ?_ (gen_red (S := setS ((twL v (basisW k g)).map strB)) (g := a)).symm
  have e : ∀ a, (∃ b ∈ basisW k g, a = v ++ b ++ invL v) ↔ setS ((twL v (basisW k g)).map strB) a := fun a => by
    unfold setS twL
    constructor
    · rintro ⟨b, hb, rfl⟩
      exact ⟨_, List.mem_map.2 ⟨_, List.mem_map.2 ⟨b, hb, rfl⟩, rfl⟩, rfl⟩
    · rintro ⟨s, hs, rfl⟩
      obtain ⟨x, hx, rfl⟩ := List.mem_map.1 hs
      obtain ⟨b, hb, rfl⟩ := List.mem_map.1 hx
      exact ⟨b, hb, rfl⟩
  exact ⟨Gen.mono fun a ha => Gen.one ((e a).1 ha), Gen.mono fun a ha => Gen.one ((e a).2 ha)⟩

set_option maxRecDepth 100000 in
set_option maxHeartbeats 4000000 in
theorem rTurn_any (w : World) (k : Nat) (rv : Value) (g : List (List Int)) (h : RowsR w rv g) (hg : GoodG k g) (s : ByteArray) (hw : isWord (bts s) = true) (hf : fitW k (bts s) = true) (hlen : 2 * s.size + 2 * g.length + 1 ≤ 100) (hbas : (basisW k g).length ≤ 200) :
    Calls Try.prog 47 #[.agg #[.int .i64 k, rv], .string s] w fun e w' => ∃ (rv' : Value) (g' : List (List Int)), e = .returned (.agg #[.int .i64 k, rv']) ∧ IsGraphN k (setR ((twL (bts s) (basisW k g)).map strB)) g' ∧ RowsAt w' w.heap.size rv' g' (fun _ => True) ∧ Below w.heap.size w w' := by
  have hk1 := hg.k1
  have hk4 := hg.k4
  obtain ⟨w1, hw1⟩ : ∃ w1, w1 = (w.alloc (.cells #[.int .i64 k, rv] 32)).alloc (.cells #[.int .i64 0, .slice none 0 0] 32) := ⟨_, rfl⟩
  have hb1 : Below w.heap.size w w1 := by rw [hw1]; exact ((Below.refl _ w).alloc (Nat.le_refl _) _).alloc (by simp) _
  have hx1 : Blk w1 w.heap.size 32 [.int .i64 k, rv] := by rw [hw1]; exact (Blk.new w 32 [.int .i64 k, rv]).alloc _
  have hz1 : Blk w1 (w.heap.size + 1) 32 zeroG := by
    rw [hw1]
    have := Blk.new (w.alloc (.cells #[.int .i64 k, rv] 32)) 32 zeroG
    rw [show (w.alloc (.cells #[.int .i64 k, rv] 32)).heap.size = w.heap.size + 1 by simp] at this
    exact this
  have hs1 : w1.heap.size = w.heap.size + 2 := by rw [hw1]; simp
  have h1 := h.keep hb1
  have hba := rBasis_any w1 k rv g h1 hg
  have hok := word_ok hg
  have hwl := word_len (k := k) (g := g)
  obtain ⟨L, hL⟩ : ∃ L, basisW k g = L := ⟨_, rfl⟩
  rw [hL] at hba hok hwl hbas ⊢
  obtain ⟨m, hm⟩ : ∃ m, L.length = m := ⟨_, rfl⟩
  rw [hm] at hba hbas
  have hss : s.size ≤ 49 := by omega
  have hlb : ∀ b ∈ L, b.length ≤ 99 := fun b hb => by have := hwl b hb; omega
  have hla : ∀ b ∈ L, 2 * s.size + b.length ≤ 100 := fun b hb => by have := hwl b hb; omega
  obtain ⟨I, hI⟩ : ∃ I, strB (invL (bts s)) = I := ⟨_, rfl⟩
  have hIs : I.size = s.size := by rw [← hI, size_str, invL_len, bts_len]
  have hinv := fun wx => rInverse_any s wx hw (by omega)
  rw [hI] at hinv
  have c0 := hx1.cell (j := 0) rfl
  have c1 := hx1.cell (j := 1) rfl
  have HBA := Lib.hid hba
  have HINV := Lib.hid hinv
  have HB := Lib.hid hb1
  have HX := Lib.hid hx1
  have HZ := Lib.hid hz1
  have HS := Lib.hid hs1
  have HOK := Lib.hid hok
  have HLB := Lib.hid hlb
  have HLA := Lib.hid hla
  have HM := Lib.hid hm
  have HI := Lib.hid hI
  have HIS := Lib.hid hIs
  have HWF := Lib.hid (And.intro hw hf)
  clear h h1 hb1 hx1 hz1 hs1 hg hw hf hlen hba hok hwl hm hL hlb hla hI hinv hIs
  go_enter Try.func47, Try.ntmps47
  go_upto_region 1 with fail
  rw [← hw1]
  clear hw1
  go_upto_region 2 with (go_at_call 26; refine HBA.out.mono ?_; rintro e w2 ⟨bv, nv, rfl, hbv, -, hb2⟩)
  obtain ⟨nb, hnb⟩ : ∃ nb, w2.heap.size = nb := ⟨_, rfl⟩
  obtain ⟨ba, bc, rfl, -, -⟩ := row_shapeV hbv
  have HB2 := Lib.hid hb2
  have HV := Lib.hid hbv
  have HO0 : Hid (w2.ownsRow nb 9 1 (.slice none 0 0) 0 (strsV (twL (bts s) (L.take 0)))) := Lib.hid (World.ownsRow_nil _ _ _ _)
  have HBW : Hid (Below nb w2 w2) := Lib.hid (Below.refl _ _)
  have HNB := Lib.hid hnb
  clear hb2 HBA hbv hnb c0 c1
  go_wp2_with fail
  go_loopw [8, 7] (fun iv ov wr => ∃ (i : Nat) (lw : Value), i ≤ m ∧ iv = .int .i64 i ∧ lw = ov ∧ Hid (wr.ownsRow nb 9 1 lw i (strsV (twL (bts s) (L.take i)))) ∧ Hid (Below nb w2 wr)) (fun iv _ _ => m - (intOf iv).toNat)
  case atStart => exact ⟨0, _, by omega, rfl, rfl, HO0, HBW⟩
  case round =>
    clear HO0 HBW
    obtain ⟨i, lw, hi, rfl, rfl, HO, HBW⟩ := hrel
    by_cases hlt : i < m
    · obtain ⟨b, hb⟩ : ∃ b, L[i]? = some b := ⟨_, List.getElem?_eq_getElem (by rw [HM.out]; exact hlt)⟩
      have hbm := List.mem_of_getElem? hb
      obtain ⟨B, hB⟩ : ∃ B, strB b = B := ⟨_, rfl⟩
      have hBs : B.size ≤ 99 := by rw [← hB, size_str]; exact HLB.out b hbm
      obtain ⟨ga, gc, hge, -, -, -, hcs⟩ := row_open HV.out (by omega)
      obtain ⟨rfl, rfl⟩ : ba = some ⟨ga, 0, none⟩ ∧ bc = gc := by simpa using hge
      have hcb : ∀ wx, Below nb w2 wx → wx.cell? ⟨ga, i, none⟩ = some (.string B) := fun wx hx => by
        have h1 := hcs i (.string B) (by unfold strsV; rw [List.getElem?_map, hb]; simp [hB])
        have h2 := HNB.out
        rw [← h2] at hx
        exact (hx.cell (p := ⟨ga, i, none⟩) (cell_lt h1)).trans h1
      have htk : twL (bts s) (L.take (i + 1)) = twL (bts s) (L.take i) ++ [bts s ++ b ++ invL (bts s)] := by
        unfold twL
        rw [List.take_add_one, hb, Option.toList_some, List.map_append]
        rfl
      obtain ⟨Y, hY⟩ : ∃ Y, s ++ B = Y := ⟨_, rfl⟩
      obtain ⟨Z, hZ⟩ : ∃ Z, Y ++ I = Z := ⟨_, rfl⟩
      have hYs : Y.size = s.size + B.size := by rw [← hY, ByteArray.size_append]
      have hIs := HIS.out
      have hZb : strB (bts s ++ b ++ invL (bts s)) = Z := by
        rw [← hZ, ← hY, ← hB, ← HI.out]
        have hsb : ∀ x : ByteArray, strB (bts x) = x := fun x => by cases x; simp [strB, bts]
        rw [← hsb (s ++ strB b ++ strB (invL (bts s))), bts_add, bts_add]
      have hno1 : ¬ 9223372036854775807 < s.size + B.size := by omega
      have hno2 : ¬ 9223372036854775807 < Y.size + I.size := by omega
      have hno3 : ¬ 9223372036854775807 < s.size + B.size + I.size := by omega
      have i0 : (0 : Int) ≤ i := by omega
      have i1 : (i : Int) < m := by omega
      have HCB := Lib.hid hcb
      have HTK := Lib.hid htk
      have HZB := Lib.hid hZb
      have hsz := HBW.out.size
      have hdr : Below nb w2 wr.drew := HBW.out.trans (((Below.refl wr.heap.size wr).drewN' 1).mono (by have := HNB.out; omega))
      have HDR := Lib.hid hdr
      obtain ⟨la, lc, rfl, -, -⟩ := row_shapeV HO.out
      clear hb hbm hB hcb htk hZb hcs hge hYs hdr hIs
      go_upto_region 6 with fail
      refine wp_region_noPanic ?_
      refine wp_region_held_drew (S := fun w' => w'.cell? ⟨ga, i, none⟩ = some (.string B)) (by kernel_rfl) (HCB.out _ HDR.out) (fun hHeld => ?_)
      refine takeH 0 (v := ?_) rfl (by kernel_rfl) (by kernel_rfl) (by kernel_rfl) (fun _ _ _ h => h) (by rfl) ?_ hHeld ?_
      rotate_left
      · (intro w hSw; (try dsimp only at hSw); go_simp; try with_reducible rfl)
      try simp only [Act.put, List.setIfInBounds_toArray, List.set_cons_zero, List.set_cons_succ]
      refine takeH 1 (v := ?_) rfl (by kernel_rfl) (by kernel_rfl) (by kernel_rfl) (fun _ _ _ h => h) (by rfl) ?_ hHeld ?_
      rotate_left
      · (intro w hSw; (try dsimp only at hSw); go_simp; try with_reducible rfl)
      try simp only [Act.put, List.setIfInBounds_toArray, List.set_cons_zero, List.set_cons_succ]
      refine takeH 2 (v := ?_) rfl (by kernel_rfl) (by kernel_rfl) (by kernel_rfl) (fun _ _ _ h => h) (by rfl) ?_ hHeld ?_
      rotate_left
      · (intro w hSw; (try dsimp only at hSw); go_simp; try with_reducible rfl)
      try simp only [Act.put, List.setIfInBounds_toArray, List.set_cons_zero, List.set_cons_succ]
      refine takeH 3 (v := ?_) rfl (by kernel_rfl) (by kernel_rfl) (by kernel_rfl) (fun _ _ _ h => h) (by rfl) ?_ hHeld ?_
      rotate_left
      · (intro w hSw; (try dsimp only at hSw); go_simp; try with_reducible rfl)
      try simp only [Act.put, List.setIfInBounds_toArray, List.set_cons_zero, List.set_cons_succ]
      refine takeH 4 (v := ?_) rfl (by kernel_rfl) (by kernel_rfl) (by kernel_rfl) (fun _ _ _ h => h) (by rfl) ?_ hHeld ?_
      rotate_left
      · (intro w hSw; (try dsimp only at hSw); go_simp; try with_reducible rfl)
      try simp only [Act.put, List.setIfInBounds_toArray, List.set_cons_zero, List.set_cons_succ]
      refine takeH 5 (v := ?_) rfl (by kernel_rfl) (by kernel_rfl) (by kernel_rfl) (fun _ _ _ h => h) (by rfl) ?_ hHeld ?_
      rotate_left
      · (intro w hSw; (try dsimp only at hSw); go_simp; try with_reducible rfl)
      try simp only [Act.put, List.setIfInBounds_toArray, List.set_cons_zero, List.set_cons_succ]
      refine takeH 6 (v := ?_) rfl (by kernel_rfl) (by kernel_rfl) (by kernel_rfl) (fun _ _ _ h => h) (by rfl) ?_ hHeld ?_
      rotate_left
      · (intro w hSw; (try dsimp only at hSw); go_simp; try with_reducible rfl)
      try simp only [Act.put, List.setIfInBounds_toArray, List.set_cons_zero, List.set_cons_succ]
      refine takeH 7 (v := ?_) rfl (by kernel_rfl) (by kernel_rfl) (by kernel_rfl) (fun _ _ _ h => h) (by rfl) ?_ hHeld ?_
      rotate_left
      · (intro w hSw; (try dsimp only at hSw); go_simp; try with_reducible rfl)
      try simp only [Act.put, List.setIfInBounds_toArray, List.set_cons_zero, List.set_cons_succ]
      refine oneH 8 (by kernel_rfl) rfl (fun K hK => ?_)
      go_simp
      go_at_call 38
      refine (HINV.out _).mono ?_
      rintro e w5 ⟨rfl, hb5⟩
      have HB5 : Hid (Below wr.heap.size wr w5) := Lib.hid (((Below.refl _ wr).drewN' 1).trans (by exact hb5))
      clear hb5
      dsimp only
      have HB6 : Hid (Below nb w2 w5) := Lib.hid (HBW.out.trans (HB5.out.mono (by have := HNB.out; omega)))
      refine hK.out _ _ (HCB.out _ HB6.out) (fun hHeld => ?_)
      clear hK K
      try simp only [Act.put, List.setIfInBounds_toArray, List.set_cons_zero, List.set_cons_succ]
      refine takeH 9 (v := ?_) rfl (by kernel_rfl) (by kernel_rfl) (by kernel_rfl) (fun _ _ _ h => h) (by rfl) ?_ hHeld ?_
      rotate_left
      · (intro w hSw; (try dsimp only at hSw); go_simp; try with_reducible rfl)
      try simp only [Act.put, List.setIfInBounds_toArray, List.set_cons_zero, List.set_cons_succ]
      refine oneH 10 (by kernel_rfl) rfl (fun K hK => ?_)
      go_simp
      obtain ⟨W8, hW8⟩ : ∃ W8, w5.alloc (.cells #[.string Z] 9) = W8 := ⟨_, rfl⟩
      have hb8 : Below wr.heap.size wr W8 := by rw [← hW8]; exact HB5.out.alloc HB5.out.size _
      have hx8 : Blk W8 w5.heap.size 9 [.string Z] := by rw [← hW8]; exact Blk.new w5 9 [.string Z]
      rw [hW8]
      have HB8 : Hid (Below nb w2 W8) := Lib.hid (HBW.out.trans (hb8.mono (by have := HNB.out; omega)))
      refine hK.out _ _ (HCB.out _ HB8.out) (fun hHeld => ?_)
      have HB18 := Lib.hid hb8
      have HX8 := Lib.hid hx8
      clear hW8 hb8 hx8
      clear hK K
      try simp only [Act.put, List.setIfInBounds_toArray, List.set_cons_zero, List.set_cons_succ]
      have hown8 := World.ownsRow.keep HO.out HB18.out
      have hnb8 : nb ≤ W8.heap.size := by have := HB8.out.size; have := HNB.out; omega
      have hlo := World.ownsRow.lt hown8
      refine oneH 11 (by kernel_rfl) rfl (fun K hK => ?_)
      refine step_appV Try.info9 rfl (by decide) Try.underlying22 hown8 (by omega) rfl (.tmp 20) (.tmp 30) rfl (by simp [Act.eval]) (by simp [Act.eval]) HX8.out rfl hnb8 _ rfl ?_
      intro g9 cap9 w9 hown9 hgrow9 hat9 hlt9
      have HB9 : Hid (Below nb w2 w9) := Lib.hid (HB8.out.grown hgrow9 (by have := HNB.out; omega) (fun b e => (hlo b e).1))
      refine hK.out _ _ (HCB.out _ HB9.out) (fun hHeld => ?_)
      clear hK K
      try simp only [Act.put, List.setIfInBounds_toArray, List.set_cons_zero, List.set_cons_succ]
      refine takeH 12 (v := ?_) rfl (by kernel_rfl) (by kernel_rfl) (by kernel_rfl) (fun _ _ _ h => h) (by rfl) ?_ hHeld ?_
      rotate_left
      · (intro w hSw; (try dsimp only at hSw); go_simp; try with_reducible rfl)
      try simp only [Act.put, List.setIfInBounds_toArray, List.set_cons_zero, List.set_cons_succ]
      refine wpAnyH_done (by kernel_rfl) ?_ _
      refine NoPanic.normal ?_
      have G1 : Hid (w9.ownsRow nb 9 1 (.slice (some ⟨g9, 0, none⟩) (i + 1) cap9) (i + 1) (strsV (twL (bts s) (L.take (i + 1))))) := Lib.hid (by
        rw [HTK.out]
        unfold strsV at hown9 ⊢
        rw [List.map_append, List.map_cons, List.map_nil, HZB.out]
        exact hown9)
      clear hown9 hgrow9 hat9 hlt9 hown8 hlo hnb8 hHeld
      go_wp2_with fail
      go_roundw
      case rel => exact ⟨i + 1, _, by omega, by go_num, rfl, G1, HB9⟩
      case measure => simp [intOf]; omega
    · obtain rfl : i = m := by omega
      obtain ⟨la, lc, rfl, -, -⟩ := row_shapeV HO.out
      have hres := HO.out
      rw [List.take_of_length_le (by rw [HM.out]; exact Nat.le_refl _)] at hres
      have htl : (twL (bts s) L).length = i := by unfold twL; rw [List.length_map, HM.out]
      rw [← htl] at hres
      have hst := strs_of_wordsL hres
      rw [htl] at hst
      have hbw : Below w1.heap.size w1 wr := HB2.out.trans (HBW.out.mono (by have := HB2.out.size; have := HNB.out; omega))
      have hfd := rFoldN_of foldedN_any k _ _ wr hst hk1 hk4 (by rw [List.length_map, htl]; exact hbas) (fun x hx => by
        obtain ⟨y, hy, rfl⟩ := List.mem_map.1 hx
        obtain ⟨b, hb, rfl⟩ := List.mem_map.1 hy
        have ho := HOK.out b hb
        have hl := HLA.out b hb
        refine ⟨isWord_app (isWord_app HWF.out.1 ho.1) (isWord_invL HWF.out.1), ?_, ?_⟩
        · rw [size_str, List.length_append, List.length_append, invL_len, bts_len]; omega
        · show fitW k (bts s ++ b ++ invL (bts s)) = true
          unfold fitW
          rw [List.all_append, List.all_append, Bool.and_eq_true, Bool.and_eq_true]
          exact ⟨⟨HWF.out.2, ho.2⟩, fitW_invL (by omega) HWF.out.1 HWF.out.2⟩)
      have e0 := (HX.out.keep hbw).cell (j := 0) rfl
      have HFD := Lib.hid hfd
      have HBX := Lib.hid hbw
      clear hfd hbw hres htl hst
      go_wp2_with (first
        | (go_at_call 17
           refine HFD.out.mono ?_
           rintro e w6 ⟨rv6, g6, rfl, hg6, hr6, hb6⟩
           have HG6 := Lib.hid hg6
           have HR6 := Lib.hid hr6
           have HB6 := Lib.hid (HBX.out.trans (hb6.mono HBX.out.size))
           have HX6 := Lib.hid (HZ.out.keep HB6.out)
           have HRV := Lib.hid (rows_one hr6 k)
           clear hg6 hr6 hb6)
        | (with_reducible show wpList _ _ _ (Oper.mk _ (Op.store 32 _ _) _ _ _ _ :: _) _ _; (refine wpList_storeB (vs := [.int .i64 k, rv6]) HX6.out Try.size32 rfl rfl HRV.out rfl _ _ rfl rfl rfl ?_)))
      have hr1 := HX6.out.set 0 (.int .i64 k)
      have hrow := ((HR6.out.mono (B2 := w.heap.size) (by have := HS.out; have := HBX.out.size; omega)).other HX6.out (by decide) (by decide) 0 (.int .i64 k)).other hr1 (by decide) (by decide) 1 rv6
      have hb6 : Below w.heap.size w w6 := HB.out.trans (HB6.out.mono (by have := HS.out; omega))
      exact bodyPost_ret (ret47 (M := [.int .i64 k, rv6]) rfl rfl (hr1.set 1 rv6)) rfl ⟨rv6, g6, rfl, HG6.out, hrow, below_setCells (Nat.le_succ _) [.int .i64 k, rv6] 0 hb6⟩
end Go.Proofs.Ytlooclpfoeakgaa

/- The reference compares two graphs. -/
namespace Go.Proofs.Ytlooclpfoeakgaa
open Go.RowKit

set_option maxRecDepth 100000 in
set_option maxHeartbeats 4000000 in
theorem rSame_any (w : World) (k K : Nat) (u1 u2 : Value) (g h : List (List Int)) (h1 : RowsR w u1 g) (h2 : RowsR w u2 h) (hK8 : K ≤ 8) (hg : ∀ r ∈ g, r.length = K) (hh : ∀ r ∈ h, r.length = K) (hl : g.length < 1000000000) :
    Calls Try.prog 65 #[.agg #[.int .i64 k, u1], .agg #[.int .i64 k, u2]] w fun e w' => e = .returned (.bool (decide (g = h))) ∧ Below w.heap.size w w' := by
  obtain ⟨n, hn⟩ : ∃ n, g.length = n := ⟨_, rfl⟩
  obtain ⟨m, hm⟩ : ∃ m, h.length = m := ⟨_, rfl⟩
  obtain ⟨ua, uc, rfl, -, -⟩ := h1.shape hn
  obtain ⟨va, vc, rfl, -, -⟩ := h2.shape hm
  rw [hn] at hl
  obtain ⟨w1, hw1⟩ : ∃ w1, w1 = (w.alloc (.cells #[.int .i64 k, .slice ua n uc] 32)).alloc (.cells #[.int .i64 k, .slice va m vc] 32) := ⟨_, rfl⟩
  have hb1 : Below w.heap.size w w1 := by rw [hw1]; exact ((Below.refl _ w).alloc (Nat.le_refl _) _).alloc (by simp) _
  have hx1 : Blk w1 w.heap.size 32 [.int .i64 k, .slice ua n uc] := by rw [hw1]; exact (Blk.new w 32 [.int .i64 k, .slice ua n uc]).alloc _
  have hy1 : Blk w1 (w.heap.size + 1) 32 [.int .i64 k, .slice va m vc] := by
    rw [hw1]
    have := Blk.new (w.alloc (.cells #[.int .i64 k, .slice ua n uc] 32)) 32 [.int .i64 k, .slice va m vc]
    rw [show (w.alloc (.cells #[.int .i64 k, .slice ua n uc] 32)).heap.size = w.heap.size + 1 by simp] at this
    exact this
  obtain ⟨D, hD⟩ : ∃ D, decide (g = h) = D := ⟨_, rfl⟩
  have hT : n = m → (∀ i, i < n → g[i]? = h[i]?) → D = true := fun e1 e2 => by
    rw [← hD, decide_eq_true_iff]
    refine List.ext_getElem? fun i => ?_
    by_cases q : i < n
    · exact e2 i q
    · rw [List.getElem?_eq_none (by omega), List.getElem?_eq_none (by omega)]
  have hF : ∀ (i : Nat) (r r2 : List Int), g[i]? = some r → h[i]? = some r2 → r ≠ r2 → D = false := fun i r r2 e1 e2 e3 => by
    rw [← hD, decide_eq_false_iff_not]
    intro e
    rw [e, e2] at e1
    exact e3 (Option.some.inj e1).symm
  have hE : n ≠ m → D = false := fun e1 => by
    rw [← hD, decide_eq_false_iff_not]
    intro e
    rw [e] at hn
    omega
  rw [hD]
  have c0 := hx1.cell (j := 0) rfl
  have c1 := hx1.cell (j := 1) rfl
  have d0 := hy1.cell (j := 0) rfl
  have d1 := hy1.cell (j := 1) rfl
  have H1 := Lib.hid (h1.keep hb1)
  have H2 := Lib.hid (h2.keep hb1)
  have HG := Lib.hid hg
  have HH := Lib.hid hh
  have HN := Lib.hid hn
  have HM := Lib.hid hm
  have HB := Lib.hid hb1
  have HX := Lib.hid hx1
  have HY := Lib.hid hy1
  have HT := Lib.hid hT
  have HF := Lib.hid hF
  have HE := Lib.hid hE
  clear h1 h2 hg hh hn hm hb1 hx1 hy1 hT hF hE hD
  by_cases hnm : n = m
  · subst hnm
    have HP0 : Hid (∀ t, t < 0 → g[t]? = h[t]?) := Lib.hid (fun t h => by omega)
    have HB0 : Hid (Below w1.heap.size w1 w1) := Lib.hid (Below.refl _ _)
    go_enter Try.func65, Try.ntmps65
    go_upto_region 1 with fail
    rw [← hw1]
    clear hw1
    go_wp2_with fail
    go_loopw [5] (fun iv wr => ∃ i : Nat, i ≤ n ∧ iv = .int .i64 i ∧ Hid (∀ t, t < i → g[t]? = h[t]?) ∧ Hid (Below w1.heap.size w1 wr)) (fun iv _ => n - (intOf iv).toNat)
    case atStart => exact ⟨0, by omega, rfl, HP0, HB0⟩
    case round =>
      clear HP0 HB0 c0 c1 d0 d1
      obtain ⟨i, hi, rfl, HP, HBW⟩ := hrel
      have c1 := (HX.out.keep HBW.out).cell (j := 1) rfl
      have d1 := (HY.out.keep HBW.out).cell (j := 1) rfl
      by_cases hlt : i < n
      · obtain ⟨r, hr⟩ : ∃ r, g[i]? = some r := ⟨_, List.getElem?_eq_getElem (by rw [HN.out]; exact hlt)⟩
        obtain ⟨s, hs⟩ : ∃ s, h[i]? = some s := ⟨_, List.getElem?_eq_getElem (by rw [HM.out]; exact hlt)⟩
        have hrl := HG.out r (List.mem_of_getElem? hr)
        have hsl := HH.out s (List.mem_of_getElem? hs)
        obtain ⟨b1, v1, hva, e1, f1⟩ := H1.out.at_ HBW.out hr
        subst hva
        obtain ⟨b2, v2, hvb, e2, f2⟩ := H2.out.at_ HBW.out hs
        subst hvb
        obtain ⟨ra, rc, rfl, -, -⟩ := f1.shape hrl
        obtain ⟨sa, sc, rfl, -, -⟩ := f2.shape hsl
        have i0 : (0 : Int) ≤ i := by omega
        have i1 : (i : Int) < n := by omega
        have HR := Lib.hid hr
        have HS := Lib.hid hs
        have HRL := Lib.hid hrl
        have HSL := Lib.hid hsl
        clear hr hs hrl hsl f1 f2
        go_upto_region 6 with fail
        go_quiet (fail)
        generalize nq = na
        have HQ0 : Hid (∀ t, t < 0 → r[t]? = s[t]?) := Lib.hid (fun t h => by omega)
        have HB2 : Hid (Below w1.heap.size w1 (wr.drewN na)) := Lib.hid (HBW.out.trans (((Below.refl wr.heap.size wr).drewN' _).mono HBW.out.size))
        clear c1 d1 e1 e2
        go_wp2_with fail
        go_loopw [6] (fun jv wr2 => ∃ j : Nat, j ≤ K ∧ jv = .int .i64 j ∧ Hid (∀ t, t < j → r[t]? = s[t]?) ∧ Hid (Below w1.heap.size w1 wr2)) (fun jv _ => K - (intOf jv).toNat)
        case atStart => exact ⟨0, by omega, rfl, HQ0, HB2⟩
        case round =>
          clear HQ0 HB2
          obtain ⟨j, hj, rfl, HQ, HBJ⟩ := hrel
          have c1 := (HX.out.keep HBJ.out).cell (j := 1) rfl
          have d1 := (HY.out.keep HBJ.out).cell (j := 1) rfl
          obtain ⟨b3, v3, hva3, e1, f1⟩ := H1.out.at_ HBJ.out HR.out
          obtain rfl : b3 = b1 := by simpa using hva3.symm
          obtain ⟨b4, v4, hvb4, e2, f2⟩ := H2.out.at_ HBJ.out HS.out
          obtain rfl : b4 = b2 := by simpa using hvb4.symm
          obtain ⟨ra, rc, rfl, -, -⟩ := f1.shape HRL.out
          obtain ⟨sa, sc, rfl, -, -⟩ := f2.shape HSL.out
          by_cases hlj : j < K
          · obtain ⟨x, hx⟩ : ∃ x, r[j]? = some x := ⟨_, List.getElem?_eq_getElem (by rw [HRL.out]; exact hlj)⟩
            obtain ⟨y, hy⟩ : ∃ y, s[j]? = some y := ⟨_, List.getElem?_eq_getElem (by rw [HSL.out]; exact hlj)⟩
            obtain ⟨g1, rfl, x1⟩ := f1.at_ (Below.refl _ _) hx
            obtain ⟨g2, rfl, y1⟩ := f2.at_ (Below.refl _ _) hy
            have j0 : (0 : Int) ≤ j := by omega
            have j1 : (j : Int) < K := by omega
            have HXE := Lib.hid hx
            have HYE := Lib.hid hy
            have HL := Lib.hid hlj
            clear hx hy f1 f2 hva3 hvb4
            go_upto_region 11 with fail
            go_quiet (fail)
            generalize nq = nb
            have G1 : Hid (Below w1.heap.size w1 (wr.drewN nb)) := Lib.hid (HBJ.out.trans (((Below.refl wr.heap.size wr).drewN' _).mono HBJ.out.size))
            clear c1 d1 e1 e2 x1 y1
            by_cases hxy : x = y
            · subst hxy
              have G2 : Hid (∀ t, t < j + 1 → r[t]? = s[t]?) := Lib.hid (fun t ht => by
                by_cases e : t = j
                · subst e; rw [HXE.out, HYE.out]
                · exact HQ.out t (by omega))
              go_wp2_with fail
              go_roundw
              case rel => exact ⟨j + 1, by omega, by go_num, G2, G1⟩
              case measure => simp [intOf]; omega
            · have hDF := HF.out i r s HR.out HS.out (fun e => hxy (by have := HXE.out; rw [e, HYE.out] at this; exact (Option.some.inj this).symm))
              subst hDF
              go_wp2_with fail
              go_ret
              exact ⟨rfl, HB.out.trans (G1.out.mono HB.out.size)⟩
          · obtain rfl : j = K := by omega
            have G2 : Hid (∀ t, t < i + 1 → g[t]? = h[t]?) := Lib.hid (fun t ht => by
              by_cases e : t = i
              · subst e
                rw [HR.out, HS.out]
                congr 1
                refine List.ext_getElem? fun q => ?_
                by_cases hq : q < j
                · exact HQ.out q hq
                · rw [List.getElem?_eq_none (by rw [HRL.out]; omega), List.getElem?_eq_none (by rw [HSL.out]; omega)]
              · exact HP.out t (by omega))
            clear f1 f2
            go_wp2_with fail
            go_roundw
            case rel => exact ⟨i + 1, by omega, by go_num, G2, HBJ⟩
            case measure => simp [intOf]; omega
      · obtain rfl : i = n := by omega
        have hDT := HT.out trivial HP.out
        subst hDT
        go_wp2_with fail
        go_ret
        exact ⟨rfl, HB.out.trans (HBW.out.mono HB.out.size)⟩
  · have hDF := HE.out hnm
    subst hDF
    have hnmI : ¬ ((n : Int) = m) := by omega
    go_enter Try.func65, Try.ntmps65
    go_upto_region 1 with fail
    rw [← hw1]
    clear hw1
    go_wp2_with fail
    go_ret
    exact ⟨rfl, HB.out⟩
end Go.Proofs.Ytlooclpfoeakgaa

/- The reference's Normal. -/
namespace Go.Proofs.Ytlooclpfoeakgaa
open Go.RowKit

theorem IsGraphN.row {k : Nat} {S : List UInt8 → Prop} {g : List (List Int)} (h : IsGraphN k S g) : ∀ r ∈ g, r.length = 2 * k := by
  obtain ⟨nx, o, h1, ⟨h2, h3⟩, rfl⟩ := h
  obtain ⟨t, a1, a2, a3, -, a5, -⟩ := numN_all (nx := nx) (R := fun v => v < 20001) (ps := List.range (2 * k)) (N := 20001) (fun v p u _ _ h => (h3 v p u h).1) (fun v h => h) 20001 0 [o] [] (by omega) (by simp) (fun x hx => by rw [List.mem_singleton.1 hx]; exact h2) rfl (by simp)
  intro r hr
  obtain ⟨i, hi, rfl⟩ := List.getElem_of_mem hr
  obtain ⟨v, hv⟩ : ∃ v, ([o] ++ t)[i]? = some v := ⟨_, List.getElem?_eq_getElem (by rw [← a3]; exact hi)⟩
  have h5 := (a5 i v (Nat.zero_le _) hv).1
  rw [List.getElem?_eq_getElem hi] at h5
  rw [Option.some.inj h5]
  simp
theorem IsGraphN.len {k : Nat} {S : List UInt8 → Prop} {g : List (List Int)} (h : IsGraphN k S g) : g.length ≤ 20001 := by
  obtain ⟨nx, o, h1, ⟨h2, h3⟩, rfl⟩ := h
  obtain ⟨t, a1, a2, a3, -, a5, -⟩ := numN_all (nx := nx) (R := fun v => v < 20001) (ps := List.range (2 * k)) (N := 20001) (fun v p u _ _ h => (h3 v p u h).1) (fun v h => h) 20001 0 [o] [] (by omega) (by simp) (fun x hx => by rw [List.mem_singleton.1 hx]; exact h2) rfl (by simp)
  rw [a3]
  exact nodup_len a1 (fun x hx => a2 x hx)
theorem conj_set {k : Nat} {g : List (List Int)} (hg : GoodG k g) (v : List UInt8) (a : List UInt8) : Gen (setR ((twL v (basisW k g)).map strB)) a ↔ Gen (conjL k g v) a := by
  refine Iff.trans (gen_red (S := setS ((twL v (basisW k g)).map strB)) (g := a)) (Iff.trans ?_ (gen_conj hg (Eqv.refl v)).symm)
  have e : ∀ a, (∃ b ∈ basisW k g, a = v ++ b ++ invL v) ↔ setS ((twL v (basisW k g)).map strB) a := fun a => by
    unfold setS twL
    constructor
    · rintro ⟨b, hb, rfl⟩
      exact ⟨_, List.mem_map.2 ⟨_, List.mem_map.2 ⟨b, hb, rfl⟩, rfl⟩, rfl⟩
    · rintro ⟨s, hs, rfl⟩
      obtain ⟨x, hx, rfl⟩ := List.mem_map.1 hs
      obtain ⟨b, hb, rfl⟩ := List.mem_map.1 hx
      exact ⟨b, hb, rfl⟩
  exact ⟨Gen.mono fun a ha => Gen.one ((e a).2 ha), Gen.mono fun a ha => Gen.one ((e a).1 ha)⟩

set_option maxRecDepth 100000 in
set_option maxHeartbeats 4000000 in
theorem rNormal_any (w : World) (k : Nat) (rv : Value) (g : List (List Int)) (h : RowsR w rv g) (hg : GoodG k g) (hlen : 2 * g.length + 3 ≤ 100) (hbas : (basisW k g).length ≤ 200) :
    Calls Try.prog 48 #[.agg #[.int .i64 k, rv]] w fun e w' => e = .returned (.bool (normB k g)) ∧ Below w.heap.size w w' := by
  obtain ⟨w1, hw1⟩ : ∃ w1, w1 = w.alloc (.cells #[.int .i64 k, rv] 32) := ⟨_, rfl⟩
  have hb1 : Below w.heap.size w w1 := by rw [hw1]; exact (Below.refl _ w).alloc (Nat.le_refl _) _
  have hx1 : Blk w1 w.heap.size 32 [.int .i64 k, rv] := by rw [hw1]; exact Blk.new w 32 [.int .i64 k, rv]
  have h1 := h.keep hb1
  have hk4 := hg.k4
  have hS : ∀ wx, Below w1.heap.size w1 wx → wx.cell? ⟨w.heap.size, 0, none⟩ = some (.int .i64 k) ∧ wx.cell? ⟨w.heap.size, 1, none⟩ = some rv := fun wx hb => ⟨(hx1.keep hb).cell (j := 0) rfl, (hx1.keep hb).cell (j := 1) rfl⟩
  have htn : ∀ (wx : World) (p : Nat), Below w1.heap.size w1 wx → p < 2 * k → Calls Try.prog 47 #[.agg #[.int .i64 k, rv], .string (strB [letP p])] wx fun e w' => ∃ (rv' : Value) (g' : List (List Int)), e = .returned (.agg #[.int .i64 k, rv']) ∧ (g' = g ↔ normP k g p) ∧ RowsR w' rv' g' ∧ (∀ r ∈ g', r.length = 2 * k) ∧ g'.length ≤ 20001 ∧ Below wx.heap.size wx w' := fun wx p hb hp => by
    have hok := let_ok hk4 hp
    refine (rTurn_any wx k rv g (h1.keep hb) hg (strB [letP p]) (List.all_eq_true.2 fun c hc => (hok c hc).1) (List.all_eq_true.2 fun c hc => decide_eq_true (hok c hc).2) (by show 2 * 1 + 2 * g.length + 1 ≤ 100; omega) hbas).mono ?_
    rintro e w' ⟨rv', g', rfl, a1, a2, a3⟩
    have a4 : IsGraphN k (conjL k g [letP p]) g' := a1.congr (conj_set hg _)
    refine ⟨rv', g', rfl, ⟨fun e => ?_, fun e => a4.same (by omega) e (fun _ _ => Iff.rfl)⟩, a2.toR, a1.row, a1.len, a3⟩
    unfold normP
    rwa [e] at a4
  have heq : ∀ (wx : World) (rv' : Value) (g' : List (List Int)), Below w1.heap.size w1 wx → RowsR wx rv' g' → (∀ r ∈ g', r.length = 2 * k) → g'.length ≤ 20001 → Calls Try.prog 65 #[.agg #[.int .i64 k, rv'], .agg #[.int .i64 k, rv]] wx fun e w' => e = .returned (.bool (decide (g' = g))) ∧ Below wx.heap.size wx w' := fun wx rv' g' hb hr hr2 hl =>
    rSame_any wx k (2 * k) rv' rv g' g hr (h1.keep hb) (by omega) hr2 (fun r h => (hg.row r h).1) (by omega)
  obtain ⟨K, hK⟩ : ∃ K, 2 * k = K := ⟨_, rfl⟩
  have hKI : 2 * (k : Int) = K := by omega
  have hKW : IntKind.i64.wrap (K : Int) = K := by rw [IntKind.wrap_i64]; omega
  have hK8 : K ≤ 8 := by omega
  obtain ⟨c0, c1⟩ := hS w1 (Below.refl _ _)
  have hT : (∀ p, p < K → normP k g p) → normB k g = true := fun h => normB_true (by rw [hK]; exact h)
  have hF : ∀ p, p < K → ¬ normP k g p → normB k g = false := fun p h1 h2 => normB_false (by rw [hK]; exact h1) h2
  rw [hK] at htn heq
  have HT := Lib.hid hT
  have HF := Lib.hid hF
  have HTN := Lib.hid htn
  have HEQ := Lib.hid heq
  have HS := Lib.hid hS
  have HB := Lib.hid hb1
  have HP0 : Hid (∀ q, q < 0 → normP k g q) := Lib.hid (fun q h => by omega)
  have HB2 : Hid (Below w1.heap.size w1 w1) := Lib.hid (Below.refl _ _)
  clear h h1 hx1 hb1 hg htn heq hS hK hT hF hlen hbas c0 c1
  go_enter Try.func48, Try.ntmps48
  go_upto_region 1 with fail
  rw [← hw1]
  clear hw1
  go_wp2_with fail
  go_loopw [3] (fun iv wr => ∃ p : Nat, p ≤ K ∧ iv = .int .i64 p ∧ Hid (∀ q, q < p → normP k g q) ∧ Hid (Below w1.heap.size w1 wr)) (fun iv _ => K - (intOf iv).toNat)
  case atStart => exact ⟨0, by omega, rfl, HP0, HB2⟩
  case round =>
    clear HP0 HB2
    obtain ⟨p, hp, rfl, HP, HBW⟩ := hrel
    obtain ⟨c0, c1⟩ := HS.out wr HBW.out
    by_cases hlt : p < K
    · have hS0 := HS.out _ ((HBW.out).trans (((Below.refl _ wr).drewN' 1).mono HBW.out.size))
      have HSR := Lib.hid hS0
      have HLT := Lib.hid hlt
      clear hS0
      go_upto_region 4 with fail
      refine wp_region_held_drew (S := fun w' => w'.cell? ⟨w.heap.size, 0, none⟩ = some (.int .i64 k) ∧ w'.cell? ⟨w.heap.size, 1, none⟩ = some rv) (by kernel_rfl) HSR.out (fun hHeld => ?_)
      refine takeH 0 (v := ?_) rfl (by kernel_rfl) (by kernel_rfl) (by kernel_rfl) (fun _ _ _ h => h) (by rfl) ?_ hHeld ?_
      rotate_left
      · (intro w hSw; (try dsimp only at hSw); go_simp; try with_reducible rfl)
      try simp only [Act.put, List.setIfInBounds_toArray, List.set_cons_zero, List.set_cons_succ]
      refine takeH 1 (v := ?_) rfl (by kernel_rfl) (by kernel_rfl) (by kernel_rfl) (fun _ _ _ h => h) (by rfl) ?_ hHeld ?_
      rotate_left
      · (intro w hSw; (try dsimp only at hSw); go_simp; try with_reducible rfl)
      try simp only [Act.put, List.setIfInBounds_toArray, List.set_cons_zero, List.set_cons_succ]
      refine takeH 4 (v := ?_) rfl (by kernel_rfl) (by kernel_rfl) (by kernel_rfl) (fun _ _ _ h => h) (by rfl) ?_ hHeld ?_
      rotate_left
      · (intro w hSw; (try dsimp only at hSw); go_simp; try with_reducible rfl)
      try simp only [Act.put, List.setIfInBounds_toArray, List.set_cons_zero, List.set_cons_succ]
      refine oneH 2 (by kernel_rfl) rfl (fun K hK => ?_)
      go_simp
      go_at_call 72
      refine (rLetterP_any _ p (by omega)).mono ?_
      rintro e w3 ⟨rfl, hw3⟩
      have hb3 : Below w1.heap.size w1 w3 := HBW.out.trans ((((Below.refl wr.heap.size wr).drewN' 1).trans (by exact hw3)).mono HBW.out.size)
      dsimp only
      refine hK.out _ _ (HS.out _ hb3) (fun hHeld => ?_)
      clear hK K
      try simp only [Act.put, List.setIfInBounds_toArray, List.set_cons_zero, List.set_cons_succ]
      refine oneH 3 (by kernel_rfl) rfl (fun K hK => ?_)
      go_simp
      go_at_call 47
      refine (HTN.out _ p hb3 HLT.out).mono ?_
      rintro e w4 ⟨rv4, g4, rfl, hiff, hr4, hg4, hl4, hb4⟩
      have hb4' := hb3.trans (hb4.mono hb3.size)
      dsimp only
      refine hK.out _ _ (HS.out _ hb4') (fun hHeld => ?_)
      clear hK K
      try simp only [Act.put, List.setIfInBounds_toArray, List.set_cons_zero, List.set_cons_succ]
      refine oneH 5 (by kernel_rfl) rfl (fun K hK => ?_)
      go_simp
      go_at_call 65
      refine (HEQ.out w4 rv4 g4 hb4' hr4 hg4 hl4).mono ?_
      rintro e w5 ⟨rfl, hb5⟩
      have hb5' := hb4'.trans (hb5.mono hb4'.size)
      dsimp only
      refine hK.out _ _ (HS.out _ hb5') (fun hHeld => ?_)
      clear hK K
      try simp only [Act.put, List.setIfInBounds_toArray, List.set_cons_zero, List.set_cons_succ]
      refine takeH 6 (v := ?_) rfl (by kernel_rfl) (by kernel_rfl) (by kernel_rfl) (fun _ _ _ h => h) (by rfl) ?_ hHeld ?_
      rotate_left
      · (intro w hSw; (try dsimp only at hSw); go_simp; try with_reducible rfl)
      try simp only [Act.put, List.setIfInBounds_toArray, List.set_cons_zero, List.set_cons_succ]
      refine wpAnyH_done (by kernel_rfl) ?_ _
      have HB5 := Lib.hid hb5'
      obtain ⟨b, hb⟩ : ∃ b, decide (g4 = g) = b := ⟨_, rfl⟩
      have HIF : Hid (b = true ↔ normP k g p) := Lib.hid (by rw [← hb, decide_eq_true_iff]; exact hiff)
      rw [hb]
      clear hb hiff hr4 hg4 hl4 hb3 hb4 hb4' hb5 hb5' hw3 hHeld HSR c0 c1
      cases b with
      | true =>
        have HP2 : Hid (∀ q, q < p + 1 → normP k g q) := Lib.hid (fun q hq => by
          by_cases e : q = p
          · subst e; exact HIF.out.1 rfl
          · exact HP.out q (by omega))
        go_wp2_with fail
        go_roundw
        case rel => exact ⟨p + 1, by omega, by go_num, HP2, HB5⟩
        case measure => simp [intOf]; omega
      | false =>
        have hNT := HF.out p HLT.out (fun h => by have := HIF.out.2 h; cases this)
        have HNT := Lib.hid hNT
        clear hNT
        go_wp2_with fail
        go_ret
        exact ⟨by rw [HNT.out]; rfl, HB.out.trans (HB5.out.mono HB.out.size)⟩
    · obtain rfl : p = K := by omega
      have hNT := HT.out HP.out
      have HNT := Lib.hid hNT
      clear hNT
      go_wp2_with fail
      go_ret
      exact ⟨by rw [HNT.out]; rfl, HB.out.trans (HBW.out.mono HB.out.size)⟩
end Go.Proofs.Ytlooclpfoeakgaa
