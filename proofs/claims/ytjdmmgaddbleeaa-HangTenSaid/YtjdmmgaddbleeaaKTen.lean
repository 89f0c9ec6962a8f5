/- Plain law: the word that hangs by sets of at most ten nails is not long (by the inequality of Lubell, Yamamoto and Meshalkin). -/
import Derived.Test.YtjdmmgaddbleeaaMI
import Derived.Test.YtjdmmgaddbleeaaMF
import Derived.BigQuiet
namespace Go.Proofs.Ytjdmmgaddbleeaa
open Go.RowKit

def fac : Nat → Nat
  | 0 => 1
  | n + 1 => (n + 1) * fac n
theorem fac_pos : ∀ n, 0 < fac n
  | 0 => by decide
  | n + 1 => Nat.mul_pos (by omega) (fac_pos n)
theorem sum_add {β : Type} (f g : β → Nat) : ∀ D : List β, (D.map f).sum + (D.map g).sum = (D.map fun d => f d + g d).sum
  | [] => rfl
  | d :: D => by
    have := sum_add f g D
    simp only [List.map_cons, List.sum_cons]
    omega
theorem sum_swap {α β : Type} (F : α → β → Nat) (D : List β) : ∀ A : List α, (A.map fun x => (D.map fun d => F x d).sum).sum = (D.map fun d => (A.map fun x => F x d).sum).sum
  | [] => by simp only [List.map_nil, List.sum_nil]; induction D with
    | nil => rfl
    | cons d D ih => simpa using ih
  | x :: A => by
    rw [List.map_cons, List.sum_cons, sum_swap F D A, sum_add]
    rfl
theorem sum_if {α : Type} (p : α → Bool) (g : Nat) : ∀ A : List α, (A.map fun x => if p x = true then g else 0).sum = (A.filter p).length * g
  | [] => by simp
  | x :: A => by
    rw [List.map_cons, List.sum_cons, sum_if p g A, List.filter_cons]
    cases h : p x
    · simp
    · simp only [if_true, List.length_cons, Nat.succ_mul]; omega
theorem sum_filter {α : Type} (p : α → Bool) (g : α → Nat) : ∀ D : List α, ((D.filter p).map g).sum = (D.map fun d => if p d = true then g d else 0).sum
  | [] => rfl
  | d :: D => by
    rw [List.map_cons, List.sum_cons, ← sum_filter p g D, List.filter_cons]
    cases h : p d
    · simp
    · simp
theorem sum_le {α : Type} {f g : α → Nat} : ∀ {D : List α}, (∀ d ∈ D, f d ≤ g d) → (D.map f).sum ≤ (D.map g).sum
  | [], _ => Nat.le_refl _
  | d :: D, h => by
    rw [List.map_cons, List.sum_cons, List.map_cons, List.sum_cons]
    have h1 := h d (by simp)
    have h2 := sum_le (D := D) (f := f) (g := g) fun e he => h e (List.mem_cons_of_mem _ he)
    omega
theorem sum_eq {α : Type} {f g : α → Nat} {D : List α} (h : ∀ d ∈ D, f d = g d) : (D.map f).sum = (D.map g).sum := by
  rw [List.map_congr_left h]
theorem sum_const {α : Type} (k : Nat) : ∀ D : List α, (D.map fun _ => k).sum = D.length * k
  | [] => by simp
  | d :: D => by rw [List.map_cons, List.sum_cons, sum_const k D, List.length_cons, Nat.succ_mul]; omega
theorem sum_mul {α : Type} (k : Nat) (g : α → Nat) : ∀ D : List α, (D.map fun d => k * g d).sum = k * (D.map g).sum
  | [] => by simp
  | d :: D => by rw [List.map_cons, List.sum_cons, sum_mul k g D, List.map_cons, List.sum_cons, Nat.mul_add]
theorem filter_in {A d : List UInt8} (hA : Rise A) (hd : Rise d) (hs : ∀ c ∈ d, c ∈ A) : A.filter (fun c => d.contains c) = d := by
  refine rise_ext (hA.filter _) hd fun x => ?_
  rw [List.mem_filter, List.contains_iff_mem]
  exact ⟨fun h => h.2, fun h => ⟨hs x h, h⟩⟩
theorem len_split {α : Type} (p : α → Bool) : ∀ l : List α, l.length = (l.filter p).length + (l.filter fun x => !p x).length
  | [] => rfl
  | x :: l => by
    rw [List.length_cons, len_split p l, List.filter_cons, List.filter_cons]
    cases h : p x <;> simp <;> omega
theorem filter_out {A d : List UInt8} (hA : Rise A) (hd : Rise d) (hs : ∀ c ∈ d, c ∈ A) : (A.filter fun c => !d.contains c).length + d.length = A.length := by
  have h1 := len_split (fun c => d.contains c) A
  rw [filter_in hA hd hs] at h1
  omega

theorem lym : ∀ (n : Nat) (A : List UInt8), A.length = n → Rise A → ∀ D : List (List UInt8), (∀ d ∈ D, Rise d ∧ ∀ c ∈ d, c ∈ A) → D.Nodup → (∀ d ∈ D, ∀ e ∈ D, (∀ c ∈ d, c ∈ e) → d = e) →
    (D.map fun d => fac d.length * fac (n - d.length)).sum ≤ fac n
  | 0, A, hA, _, D, hD, hn, _ => by
    obtain rfl := List.eq_nil_of_length_eq_zero hA
    have h1 : ∀ d ∈ D, d = [] := fun d hd => List.eq_nil_iff_forall_not_mem.2 fun c hc => by simpa using (hD d hd).2 c hc
    match D, h1, hn with
    | [], _, _ => simp [fac]
    | [d], h1, _ => rw [h1 d (by simp)]; simp [fac]
    | d :: e :: D, h1, hn =>
      exfalso
      rw [List.nodup_cons] at hn
      apply hn.1
      rw [h1 d (by simp), h1 e (by simp)]
      simp
  | n + 1, A, hA, hR, D, hD, hn, hanti => by
    have hle : ∀ d ∈ D, (A.filter fun c => !d.contains c).length + d.length = n + 1 := fun d hd => by rw [← hA]; exact filter_out hR (hD d hd).1 (hD d hd).2
    by_cases hfull : ∃ d ∈ D, d.length = n + 1
    · obtain ⟨d, hd, hl⟩ := hfull
      have h1 : ∀ c ∈ A, c ∈ d := by
        intro c hc
        apply Classical.byContradiction
        intro h
        have h2 : c ∈ A.filter fun c => !d.contains c := List.mem_filter.2 ⟨hc, by simpa using h⟩
        have h3 := List.length_pos_of_mem h2
        have := hle d hd
        omega
      have h2 : ∀ e ∈ D, e = d := fun e he => hanti e he d hd fun c hc => h1 c ((hD e he).2 c hc)
      match D, h2, hn, hd with
      | [], _, _, hd => simp at hd
      | [e], h2, _, _ =>
        rw [h2 e (by simp)]
        simp [hl, fac]
      | e :: f :: D, h2, hn, _ =>
        exfalso
        rw [List.nodup_cons] at hn
        apply hn.1
        rw [h2 e (by simp), h2 f (by simp)]
        simp
    · have hlt : ∀ d ∈ D, d.length ≤ n := by
        intro d hd
        have := hle d hd
        have h2 : d.length ≠ n + 1 := fun e => hfull ⟨d, hd, e⟩
        omega
      have key : ∀ x ∈ A, ((D.filter fun d => !d.contains x).map fun d => fac d.length * fac (n - d.length)).sum ≤ fac n := by
        intro x hx
        refine lym n (A.filter fun c => !([x] : List UInt8).contains c) ?_ (hR.filter _) _ ?_ (hn.filter _) ?_
        · have := filter_out hR (d := [x]) (by unfold Rise; simp) (by intro c hc; simp at hc; rw [hc]; exact hx)
          simp only [List.length_singleton] at this
          omega
        · intro d hd
          obtain ⟨h1, h2⟩ := List.mem_filter.1 hd
          refine ⟨(hD d h1).1, fun c hc => List.mem_filter.2 ⟨(hD d h1).2 c hc, ?_⟩⟩
          have hcx : c ≠ x := by rintro rfl; simp at h2; exact h2 hc
          simpa using hcx
        · intro d hd e he
          exact hanti d (List.mem_filter.1 hd).1 e (List.mem_filter.1 he).1
      have h1 := sum_le (D := A) key
      rw [sum_const, hA] at h1
      have h2 : (A.map fun x => ((D.filter fun d => !d.contains x).map fun d => fac d.length * fac (n - d.length)).sum).sum = (D.map fun d => fac d.length * fac (n + 1 - d.length)).sum := by
        simp only [sum_filter]
        rw [sum_swap]
        apply sum_eq
        intro d hd
        rw [sum_if]
        have h3 := hle d hd
        have h4 := hlt d hd
        rw [show (A.filter fun x => !d.contains x).length = (n - d.length) + 1 by omega, show n + 1 - d.length = (n - d.length) + 1 by omega]
        show (n - d.length + 1) * (fac d.length * fac (n - d.length)) = fac d.length * ((n - d.length + 1) * fac (n - d.length))
        rw [Nat.mul_left_comm]
      rw [h2] at h1
      exact h1

theorem comm_exact : ∀ (l : List UInt8), l ≠ [] → 2 * (commL l).length + 4 = 3 * 2 ^ l.length
  | [], h => absurd rfl h
  | [c], _ => by simp [commL]
  | c :: d :: l, _ => by
    have := comm_exact (d :: l) (by simp)
    rw [commL, List.length_append, List.length_append, List.length_append, invL_len]
    rw [show (c :: d :: l).length = (d :: l).length + 1 from rfl, Nat.pow_succ]
    simp only [List.length_singleton]
    omega
theorem comm_weight2 : ∀ n, n ≤ 10 → ∀ k, k ≤ n → fac n * (3 * 2 ^ k) ≤ 60000 * (fac k * fac (n - k)) := by decide +kernel
theorem flat_len {α : Type} : ∀ (L : List (List α)), L.flatten.length = (L.map List.length).sum
  | [] => rfl
  | l :: L => by rw [List.flatten_cons, List.length_append, flat_len L, List.map_cons, List.sum_cons]
theorem hang_ten {fs : List NS} (hn : (strN (unionN fs)).length ≤ 10) : (hangL fs).length ≤ 30000 := by
  have hanti : ∀ d ∈ dualS fs, ∀ e ∈ dualS fs, (∀ c ∈ d, c ∈ e) → d = e := by
    intro d hd e he hs
    exact (mem_dualS.1 he).2.2.2 d (mem_dualS.1 hd).1 hs (mem_dualS.1 hd).2.2.1
  have h1 := lym _ (strN (unionN fs)) rfl (strN_rise _) (dualS fs) (fun d hd => ⟨(mem_dualS.1 hd).1, (mem_dualS.1 hd).2.1⟩) (asc_nodup (sortS_asc _)) hanti
  have hle : ∀ d ∈ dualS fs, d.length ≤ (strN (unionN fs)).length := fun d hd => mem_least_len hd
  generalize (strN (unionN fs)).length = n at *
  show ((dualS fs).map commL).flatten.length ≤ 30000
  rw [flat_len, List.map_map]
  have h2 : (dualS fs).map (List.length ∘ commL) = (dualS fs).map fun d => (commL d).length := rfl
  rw [h2]
  generalize dualS fs = D at *
  have h3 : (D.map fun d => fac n * (2 * (commL d).length)).sum ≤ (D.map fun d => 60000 * (fac d.length * fac (n - d.length))).sum := by
    apply sum_le
    intro d hd
    have h4 := comm_weight2 n hn d.length (hle d hd)
    have h5 : 2 * (commL d).length ≤ 3 * 2 ^ d.length := by
      by_cases h0 : d = []
      · subst h0; simp [commL]
      · have := comm_exact d h0; omega
    exact Nat.le_trans (Nat.mul_le_mul_left _ h5) h4
  rw [sum_mul (fac n), sum_mul 2, sum_mul 60000] at h3
  have h7 : 60000 * (D.map fun d => fac d.length * fac (n - d.length)).sum ≤ 60000 * fac n := Nat.mul_le_mul_left _ h1
  have h8 := Nat.le_trans h3 h7
  rw [Nat.mul_comm 60000] at h8
  have h9 := Nat.le_of_mul_le_mul_left h8 (fac_pos n)
  omega
end Go.Proofs.Ytjdmmgaddbleeaa

/- HangTen: the walk. -/
namespace Go.Proofs.Ytjdmmgaddbleeaa
open Go.RowKit

def wantL (F : List (List UInt8)) (T : List UInt8) (k : Nat) : Bool := (F.take k).any fun s => subL s T
theorem wantL_succ {F : List (List UInt8)} {k : Nat} {s : List UInt8} (h : F[k]? = some s) (T : List UInt8) : wantL F T (k + 1) = (wantL F T k || inL T s) := by
  unfold wantL
  rw [take_snoc' h, List.any_append]
  simp
  rfl
theorem want_all {F : List (List UInt8)} (h0 : F ≠ []) (hF : ∀ t ∈ F, isSet 0 t = true) (T : List UInt8) : fallsL T (hangL (F.map marksOf)) = wantL F T F.length := by
  rw [falls_eq (hang_word _), Bool.eq_iff_iff, falls_hang (by simpa using h0)]
  unfold wantL
  rw [List.take_length, List.any_eq_true]
  constructor
  · rintro ⟨f, hf, hs⟩
    obtain ⟨t, ht, rfl⟩ := List.mem_map.1 hf
    rw [strN_marks (hF t ht)] at hs
    exact ⟨t, ht, subL_iff.2 hs⟩
  · rintro ⟨t, ht, hs⟩
    refine ⟨marksOf t, List.mem_map_of_mem ht, ?_⟩
    rw [strN_marks (hF t ht)]
    exact subL_iff.1 hs
theorem ListT.src {w : World} {base : Nat} {a : Option Addr} {n c : Nat} {ss : List (List UInt8)} (h : ListT w base (.slice a n c) ss) : SrcT w a (ss.map strB) := by
  intro hp
  obtain ⟨a', cap', hv, _, hc⟩ := OwnT.strs h.1
  obtain ⟨rfl, _, _⟩ : a = a' ∧ n = _ ∧ c = cap' := by simpa using hv
  exact hc hp

set_option maxRecDepth 100000 in
set_option maxHeartbeats 4000000 in
theorem HangTen_any (v v2 : Value) (zs ys : List Int) (w : World) (hv : Ints w v zs) (hv2 : Ints w v2 ys) :
    Calls Try.prog 4 #[v, v2] w fun e w' => e = .returned (.bool true) ∧ Below w.heap.size w w' := by
  have hse : Calls Try.prog 18 #[v, .int .i64 8, .int .i64 10, .bool false] w fun e w' => ∃ u, e = .returned u ∧ ListT w' w.heap.size u (setsI 10 8 false zs) ∧ Below w.heap.size w w' := sets_any v zs 10 8 false w hv (by omega) (by omega)
  have hse2 : ∀ W, Ints W v2 ys → Calls Try.prog 18 #[v2, .int .i64 6, .int .i64 10, .bool true] W fun e w' => ∃ u, e = .returned u ∧ ListT w' W.heap.size u (setsI 10 6 true ys) ∧ Below W.heap.size W w' := fun W h => sets_any v2 ys 10 6 true W h (by omega) (by omega)
  have hF : ∀ t ∈ setsI 10 8 false zs, isSet 0 t = true ∧ t ≠ [] ∧ fewB 10 t ∧ t.length ≤ 11 := by
    intro t ht
    unfold setsI at ht
    obtain ⟨x, _, rfl⟩ := List.mem_map.1 ht
    exact ⟨setI_set (by omega) false x, setI_ne 10 x, setI_few (by omega) (by omega) false x, setI_len 10 false x⟩
  have hFl : (setsI 10 8 false zs).length ≤ 8 := by unfold setsI; rw [List.length_map, List.length_take]; omega
  have hG : ∀ t ∈ setsI 10 6 true ys, t.length ≤ 11 := by
    intro t ht
    unfold setsI at ht
    obtain ⟨x, _, rfl⟩ := List.mem_map.1 ht
    exact setI_len 10 true x
  have hGl : (setsI 10 6 true ys).length ≤ 6 := by unfold setsI; rw [List.length_map, List.length_take]; omega
  generalize setsI 10 8 false zs = F at *
  generalize setsI 10 6 true ys = G at *
  have HSE := Lib.hid hse
  have HSE2 := Lib.hid hse2
  have HV2 := Lib.hid hv2
  have HAW := Lib.hid awake_any
  clear hse hse2 hv hv2
  obtain ⟨n, hn⟩ : ∃ n, F.length = n := ⟨_, rfl⟩
  by_cases h0 : F = []
  · subst h0
    clear hF hG
    go_enter Try.func4, Try.ntmps4
    go_wp2_with (go_at_call 18; ((with_reducible refine HSE.out.mono ?_)))
    rintro e w1 ⟨u, rfl, hl, hb1⟩
    obtain ⟨a, c, rfl, _⟩ := hl.shape (n := 0) rfl
    go_wp2_with (go_at_call 17; refine (HAW.out _).mono ?_; rintro e w2 ⟨rfl, hb2⟩)
    go_ret
    exact ⟨rfl, hb1.trans (hb2.mono hb1.size)⟩
  · have hn0 : ((n : Int) == 0) = false := by
      have : n ≠ 0 := by rw [← hn]; exact fun e => h0 (List.eq_nil_of_length_eq_zero e)
      simp; omega
    have hset : ∀ s ∈ F.map strB, isSet 0 (bts s) = true ∧ s.size ≤ 1000 := by
      intro s hs
      obtain ⟨t, ht, rfl⟩ := List.mem_map.1 hs
      exact ⟨(hF t ht).1, by rw [size_str]; have := (hF t ht).2.2.2; omega⟩
    have hne : ∀ s ∈ F.map strB, bts s ≠ [] := by
      intro s hs
      obtain ⟨t, ht, rfl⟩ := List.mem_map.1 hs
      exact (hF t ht).2.1
    have hfew : ∀ t ∈ F, fewB 10 t := fun t ht => (hF t ht).2.2.1
    have hten : (strN (unionN (F.map marksOf))).length ≤ 10 := union_few hfew
    have cHang : ∀ (u : Value) (W : World), Strs W u (F.map strB) → Calls Try.prog 19 #[u] W fun e w' => e = .returned (.tuple #[.string (strB (hangL (F.map marksOf))), .int .i64 0]) ∧ Below W.heap.size W w' := by
      intro u W hu
      have := Hang_any u _ W hu (by rw [List.length_map]; omega) (by simpa using h0) hset hne (by rw [str_marks]; exact hten)
      rwa [str_marks] at this
    have hhl := hang_ten hten
    have hwz : wordErr (strB (hangL (F.map marksOf))) = 0 := word_zero (hang_word _) hhl
    have cCheck : ∀ W, Calls Try.prog 12 #[.string (strB (hangL (F.map marksOf)))] W fun e w' => e = .returned (.int .i64 0) ∧ w' = W := by
      intro W
      have := rCheck_any (strB (hangL (F.map marksOf))) W (by rw [size_str]; omega)
      rwa [hwz] at this
    have cFalls : ∀ (T : List UInt8) (W : World), T.length ≤ 11 → Calls Try.prog 21 #[.string (strB (hangL (F.map marksOf))), .string (strB T)] W fun e w' => e = .returned (.bool (wantL F T n)) ∧ Below W.heap.size W w' := by
      intro T W hT
      have := rFalls_any (strB (hangL (F.map marksOf))) (strB T) W (hang_word _) (by rw [size_str]; omega) (by rw [size_str]; omega)
      rwa [bts_str, bts_str, want_all h0 (fun t ht => (hF t ht).1), hn] at this
    obtain ⟨N, hN⟩ : ∃ N, G.length + F.length = N := ⟨_, rfl⟩
    have hT11 : ∀ t ∈ G ++ F, t.length ≤ 11 := by
      intro t ht
      rcases List.mem_append.1 ht with h | h
      · exact hG t h
      · exact (hF t h).2.2.2
    have hF11 : ∀ t ∈ F, t.length ≤ 11 := fun t h => (hF t h).2.2.2
    generalize strB (hangL (F.map marksOf)) = HW at *
    have CHANG := Lib.hid cHang
    have CCHECK := Lib.hid cCheck
    have CFALLS := Lib.hid cFalls
    have HN := Lib.hid hn
    have HNN := Lib.hid hN
    have HT11 := Lib.hid hT11
    have HF11 := Lib.hid hF11
    have HFL := Lib.hid hFl
    have HGL := Lib.hid hGl
    clear hset hne hfew hten cHang hhl hwz cCheck cFalls hT11 hF11 hN hF hFl hG hGl hn h0
    go_enter Try.func4, Try.ntmps4
    go_wp2_with (go_at_call 18; ((with_reducible refine HSE.out.mono ?_)))
    rintro e w1 ⟨u, rfl, hl, hb1⟩
    obtain ⟨a, c, rfl, hnc, hcm, _⟩ := hl.shape HN.out
    have hst1 := OwnT.strs hl.1
    have HST1 := Lib.hid hst1
    have HSRC1 := Lib.hid hl.src
    have h19 := CHANG.out _ _ hst1
    have H19 := Lib.hid h19
    have HB1 := Lib.hid hb1
    clear hl hst1 h19 hb1
    go_wp2_with (first
      | (go_at_call 19; refine H19.out.mono ?_; rintro e w2 ⟨rfl, hb2⟩)
      | (go_at_call 12; refine (CCHECK.out _).mono ?_; rintro e w3 ⟨rfl, rfl⟩))
    have hb03 := HB1.out.trans (hb2.mono HB1.out.size)
    have hint := HV2.out.below hb03 (Nat.le_refl _)
    have hs2 := HSE2.out _ hint
    have HS2 := Lib.hid hs2
    have HB2 := Lib.hid hb2
    have HB03 := Lib.hid hb03
    clear hint hs2 hb2 hb03
    refine HS2.out.mono ?_
    rintro e w4 ⟨u4, rfl, hl4, hb4⟩
    have hsz4 := hb4.size
    have hb14 := HB2.out.trans (hb4.mono HB2.out.size)
    have hsrc4 := HSRC1.out.keep hb14
    have hfl : (F.map strB).length = n := by rw [List.length_map]; exact HN.out
    have hl9 : (G.map strB).length + n < 1000000000 := by rw [List.length_map]; have := HGL.out; have := HFL.out; have := HN.out; omega
    have HO4 := Lib.hid hl4.1
    have HSRC4 := Lib.hid hsrc4
    have HFLN := Lib.hid hfl
    have HL9 := Lib.hid hl9
    have HB14 := Lib.hid hb14
    have HB4 := Lib.hid hb4
    clear hl4 hb14 hsrc4 hfl hl9 hb4
    go_wp2_with (at_builtin; refine wpList_appM HO4.out hsz4 rfl _ _ rfl rfl rfl HFLN.out HSRC4.out HL9.out ?_)
    intro v5 w5 hown5 hb45 hg5 hsh5
    rw [← List.map_append] at hown5
    obtain ⟨N', hN'⟩ : ∃ N', G.length + n = N' := ⟨_, rfl⟩
    rw [hN'] at hsh5
    obtain ⟨a5, c5, rfl⟩ := hsh5
    have hst5 := OwnT.strs hown5
    have hb15 := HB14.out.trans (hb45.mono HB2.out.size)
    have hst15 := HST1.out.keep hb15
    have hb05 := HB1.out.trans (hb15.mono HB1.out.size)
    have hN2 : (G ++ F).length = N' := by rw [List.length_append, HN.out]; exact hN'
    have HST5 := Lib.hid hst5
    have HST15 := Lib.hid hst15
    have HB05 := Lib.hid hb05
    have HN2 := Lib.hid hN2
    have hN14 : N' ≤ 14 := by have := HGL.out; have := HFL.out; have := HN.out; omega
    have hn8 : n ≤ 8 := by have := HFL.out; have := HN.out; omega
    clear hst5 hb15 hst15 hb05 hown5 hb45 hg5 hN' hN2
    go_wp2_with fail
    go_loopw [9] (fun iv wr => ∃ k : Nat, k ≤ N' ∧ iv = .int .i64 k ∧ Hid (Below w5.heap.size w5 wr)) (fun iv _ => N' - (intOf iv).toNat)
    case atStart => exact ⟨0, by omega, rfl, (show Hid _ from Below.refl _ _)⟩
    case round =>
      obtain ⟨k, hk, rfl, HB⟩ := hrel
      obtain ⟨w6, rfl⟩ : ∃ w6, w6 = wr := ⟨_, rfl⟩
      by_cases hlt : k < N'
      · obtain ⟨b, o, sT, rfl, hbl, hgT, hcT⟩ := (HST5.out.keep HB.out).at_ hlt
        obtain ⟨T, hT, rfl⟩ : ∃ T, (G ++ F)[k]? = some T ∧ strB T = sT := by
          have h1 := hgT.out
          rw [List.getElem?_map] at h1
          cases h : (G ++ F)[k]? with
          | none => rw [h] at h1; cases h1
          | some T => rw [h] at h1; exact ⟨T, rfl, by simpa using h1⟩
        have hT11 := HT11.out T (List.mem_of_getElem? hT)
        have hfa := fun W => CFALLS.out T W hT11
        have hsu := fun j s (h : F[j]? = some s) => wantL_succ h T
        have hw0 : wantL F T 0 = false := rfl
        have hcon := fun (s : List UInt8) W (h : s.length ≤ 11) => contains_any (strB T) (strB s) W (by rw [size_str]; omega) (by rw [size_str]; omega)
        have HFA := Lib.hid hfa
        have HSU := Lib.hid hsu
        have HW0 := Lib.hid hw0
        have HCON := Lib.hid hcon
        have HCT := Lib.hid hcT
        clear hfa hsu hw0 hcon hgT hT
        go_wp2_with fail
        go_loopw [10, 11] (fun bv jv wx => ∃ j q : Nat, j ≤ n ∧ jv = .int .i64 j ∧ bv = .bool (wantL F T j) ∧ Hid (wx = w6.drewN q)) (fun _ jv _ => n - (intOf jv).toNat)
        case atStart => exact ⟨0, 0, by omega, rfl, by rw [HW0.out], (show Hid (_ = _) from rfl)⟩
        case round =>
          obtain ⟨j, q, hj, rfl, rfl, HQ⟩ := hrel
          have hbq : Below w6.heap.size w6 wr := by rw [HQ.out]; exact (Below.refl _ _).drewN' q
          have hcT2 := (hbq.cell (p := ⟨b, o + k, none⟩) hbl).trans HCT.out
          have HBQ := Lib.hid hbq
          clear hbq
          by_cases hlt2 : j < n
          · obtain ⟨b', o', sS, rfl, hbl', hgS, hcS⟩ := (HST15.out.keep (HB.out.mono (Nat.le_refl _))).at_ hlt2
            obtain ⟨S, hS, rfl⟩ : ∃ S, F[j]? = some S ∧ strB S = sS := by
              have h1 := hgS.out
              rw [List.getElem?_map] at h1
              cases h : F[j]? with
              | none => rw [h] at h1; cases h1
              | some T => rw [h] at h1; exact ⟨T, rfl, by simpa using h1⟩
            have hsj := HSU.out j S hS
            have hcn := fun W => HCON.out S W (HF11.out S (List.mem_of_getElem? hS))
            rw [bts_str, bts_str] at hcn
            have HCN := Lib.hid hcn
            have HSJ := Lib.hid hsj
            clear hcn hsj hgS hS
            generalize wantL F T j = m at *
            generalize inL T S = r at *
            have hcS2 := (HBQ.out.cell (p := ⟨b', o' + j, none⟩) hbl').trans hcS
            clear hcS
            cases m
            · go_wp2_with fail
              go_quiet ((go_at_call 20; exact Calls.quiet_of_same (HCN.out _)))
              go_wp2_with fail
              go_roundw
              case rel => exact ⟨j + 1, q + nq, by omega, by go_num, by rw [HSJ.out]; rfl, by show _ = _; rw [HQ.out, World.drewN_drewN]⟩
              case measure => simp [intOf]; omega
            · go_wp2_with fail
              go_quiet (fail)
              go_wp2_with fail
              go_roundw
              case rel => exact ⟨j + 1, q + nq, by omega, by go_num, by rw [HSJ.out]; rfl, by show _ = _; rw [HQ.out, World.drewN_drewN]⟩
              case measure => simp [intOf]; omega
          · obtain rfl : j = n := by omega
            have hfa2 := HFA.out
            generalize wantL F T j = m at *
            have HFA2 := Lib.hid hfa2
            clear hfa2 HFA HSU HW0
            go_wp2_with (go_at_call 21; refine (HFA2.out _).mono ?_; rintro e w9 ⟨rfl, hb9⟩)
            have hb6 : Below w5.heap.size w5 wr := by rw [HQ.out]; exact HB.out.drewN' q
            go_roundw
            case rel => exact ⟨k + 1, by omega, by go_num, hb6.trans (hb9.mono hb6.size)⟩
            case measure => simp [intOf]; omega
      · obtain rfl : k = N' := by omega
        go_wp2_with (go_at_call 17; refine (HAW.out _).mono ?_; rintro e w9 ⟨rfl, hb9⟩)
        go_ret
        exact ⟨rfl, (HB05.out.trans (HB.out.mono HB05.out.size)).trans (hb9.mono (HB05.out.trans (HB.out.mono HB05.out.size)).size)⟩
end Go.Proofs.Ytjdmmgaddbleeaa
