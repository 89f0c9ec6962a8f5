/- The way of a word is put in: the walk. -/
import Derived.Test.YtlooclpfoeakgaaMC
import Derived.Maps.OwnSet
import Derived.StillTailTactics
namespace Go.Proofs.Ytlooclpfoeakgaa
open Go.RowKit

/-! ### plain laws -/
theorem take_snoc {α : Type} {l : List α} {i : Nat} {c : α} (h : l[i]? = some c) : l.take i ++ [c] = l.take (i + 1) := by
  rw [List.take_add_one, h]; rfl
section
variable (n0 a b : Nat) (φ : Nat → List UInt8) (l : List UInt8)
/-- the vertices of the way -/
def vtW (i : Nat) : Nat := if i = 0 then a else if i < l.length then n0 + (i - 1) else b
/-- words that lead to them -/
def psiW (v : Nat) : List UInt8 := if v < n0 then φ v else φ a ++ l.take (v - n0 + 1)
end
section
variable {n0 a b : Nat} {φ : Nat → List UInt8} {l : List UInt8}
theorem psiW_at (ha : a < n0) {i : Nat} (hi : i < l.length) : psiW n0 a φ l (vtW n0 a b l i) = φ a ++ l.take i := by
  unfold vtW psiW
  by_cases h : i = 0
  · subst h; rw [if_pos rfl, if_pos ha]; simp
  · rw [if_neg h, if_pos hi, if_neg (by omega), show n0 + (i - 1) - n0 + 1 = i by omega]
theorem vtW_gen {S : List UInt8 → Prop} (ha : a < n0) (hb : b < n0) (hG : Gen S (φ a ++ l ++ invL (φ b))) {i : Nat} {c : UInt8} (hc : l[i]? = some c) (hl : letter c.toNat = true) :
    Gen S (psiW n0 a φ l (vtW n0 a b l i) ++ [letP (placeB c)] ++ invL (psiW n0 a φ l (vtW n0 a b l (i + 1)))) := by
  obtain ⟨hi, rfl⟩ := List.getElem?_eq_some_iff.1 hc
  rw [psiW_at ha hi, (let_place _ hl).1]
  have e : φ a ++ l.take i ++ [l[i]] = φ a ++ l.take (i + 1) := by rw [List.append_assoc, take_snoc hc]
  rw [e]
  by_cases h : i + 1 < l.length
  · rw [psiW_at ha h]; exact Gen.refl_ S _
  · have h1 : l.take (i + 1) = l := List.take_of_length_le (by omega)
    have h2 : vtW n0 a b l (i + 1) = b := by unfold vtW; rw [if_neg (by omega), if_neg h]
    have h3 : psiW n0 a φ l b = φ b := by unfold psiW; rw [if_pos hb]
    rw [h1, h2, h3]; exact hG
theorem vtW_lt (ha : a < n0) (hb : b < n0) {i : Nat} : vtW n0 a b l i < n0 + min i (l.length - 1) := by
  unfold vtW
  split
  · omega
  · split <;> omega
end

set_option maxRecDepth 100000 in
set_option maxHeartbeats 4000000 in
theorem way_any (w : World) (base g kk : Nat) (x : FS) (up d : Nat → Nat) (uv hv tv : Value) {k : Nat} {S : List UInt8 → Prop} {φ : Nat → List UInt8} {E : List (Nat × Nat × Nat)} (hI : Inv k S φ E x) (hk : k ≤ 4) (h0 : x.todo = [])
    (h : FM w base g kk x up uv hv tv) (hu : UF x.n up x.R d) (hb : base ≤ w.heap.size) (s : ByteArray) (a b : Nat) (ha : a < x.n) (hbb : b < x.n) (hw : ∀ c ∈ bts s, letter c.toNat = true ∧ placeB c < 2 * k)
    (hG : Gen S (φ a ++ bts s ++ invL (φ b))) (hne : s.size ≠ 0 ∨ a = b) (hn : 8 * (x.n + s.size) + 2 < 1000000) :
    Calls Try.prog 61 #[.pointer (some ⟨g, 0, none⟩), .int .i64 a, .string s, .int .i64 b] w fun e w' => e = .returned (.tuple #[]) ∧ ∃ (y : FS) (ψ : Nat → List UInt8) (F : List (Nat × Nat × Nat)) (up' d' : Nat → Nat) (uv' hv' tv' : Value),
      Inv k S ψ F y ∧ y.todo = [] ∧ (∀ i, i < x.n → ψ i = φ i) ∧ (∀ e ∈ E, e ∈ F) ∧ Along F a (bts s) b ∧ x.n ≤ y.n ∧ y.n ≤ x.n + s.size ∧ FM w' base g kk y up' uv' hv' tv' ∧ UF y.n up' y.R d' ∧ Frm w w' g uv hv tv uv' hv' tv' := by
  have hpsi : ∀ i, i < x.n → psiW x.n a φ (bts s) i = φ i := fun i hi => by unfold psiW; rw [if_pos hi]
  have HI := Lib.hid (inv_phi hI hpsi hI.has_lt)
  have HM := Lib.hid h
  have HU := Lib.hid hu
  have HF := Lib.hid (Frm.refl w g uv hv tv)
  have HP := Lib.hid hpsi
  have HG := Lib.hid hG
  have HW := Lib.hid hw
  have HA0 : Hid (Along E a ((bts s).take 0) (vtW x.n a b (bts s) 0)) := Lib.hid (Along.nil a)
  have HT := Lib.hid h0
  have HE0 := Lib.hid (fun (e : Nat × Nat × Nat) (he : e ∈ E) => he)
  have hV0 : vtW x.n a b (bts s) 0 = a := rfl
  have hlen : (bts s).length = s.size := bts_len s
  clear hI h hu hpsi hG hw h0
  go_enter Try.func61, Try.ntmps61
  go_wp2_with fail
  go_loopw [12, 1] (fun iv fv wr => ∃ (i : Nat) (y : FS) (F : List (Nat × Nat × Nat)) (up d : Nat → Nat) (uv2 hv2 tv2 : Value), i ≤ s.size ∧ iv = .int .i64 i ∧ fv = .int .i64 (vtW x.n a b (bts s) i) ∧ Hid (Inv k S (psiW x.n a φ (bts s)) F y) ∧ Hid (y.todo = []) ∧ Hid (y.n = x.n + min i (s.size - 1)) ∧
    Hid (∀ e ∈ E, e ∈ F) ∧ Hid (Along F a ((bts s).take i) (vtW x.n a b (bts s) i)) ∧ Hid (FM wr base g kk y up uv2 hv2 tv2) ∧ Hid (UF y.n up y.R d) ∧ Hid (Frm w wr g uv hv tv uv2 hv2 tv2)) (fun iv _ _ => s.size - (intOf iv).toNat)
  case atStart => exact ⟨0, x, E, up, d, uv, hv, tv, by omega, rfl, rfl, HI, HT, Lib.hid (by omega), HE0, HA0, HM, HU, HF⟩
  case round =>
    clear HI HM HU HF HT HE0 HA0 up d
    obtain ⟨i, y, F, up, d, uv2, hv2, tv2, hi, rfl, rfl, HI, HT, HN, HE, HA, HM, HU, HF⟩ := hrel
    by_cases hlt : i < s.size
    · have hci := bts_get hlt
      obtain ⟨hc1, hc2⟩ := HW.out (s[i]'hlt) (List.mem_of_getElem? hci)
      have hgen := vtW_gen (n0 := x.n) (a := a) (b := b) (φ := φ) ha hbb HG.out hci hc1
      have hvi := vtW_lt (n0 := x.n) (a := a) (b := b) (l := bts s) ha hbb (i := i)
      rw [hlen, ← HN.out] at hvi
      have hpl := fun W => place_any (s[i]'hlt) W hc1
      have halong := fun (F2 : List (Nat × Nat × Nat)) (hs : ∀ e ∈ F, e ∈ F2) (hm : (vtW x.n a b (bts s) i, placeB (s[i]'hlt), vtW x.n a b (bts s) (i + 1)) ∈ F2) => ((HA.out.mono hs).snoc hc1 hm : Along F2 a ((bts s).take i ++ [s[i]'hlt]) (vtW x.n a b (bts s) (i + 1)))
      rw [take_snoc hci] at halong
      have hsz := HF.out.size
      obtain ⟨c, hc⟩ : ∃ c, s[i]'hlt = c := ⟨_, rfl⟩
      rw [hc] at hc1 hc2 hgen hpl halong hci
      obtain ⟨v, hv⟩ : ∃ v, vtW x.n a b (bts s) i = v := ⟨_, rfl⟩
      have HC1 := Lib.hid hc1
      have HC2 := Lib.hid hc2
      have hy9 : y.n ≤ x.n + s.size := by rw [HN.out]; omega
      rw [hv] at hvi hgen halong
      by_cases hlast : i + 1 < s.size
      · have hv1 : vtW x.n a b (bts s) (i + 1) = y.n := by
          unfold vtW
          rw [if_neg (by omega), if_pos (by rw [hlen]; exact hlast), HN.out]; omega
        have hlasti : (i : Int) + 1 < s.size := by omega
        rw [hv1] at hgen halong
        have HV1 := Lib.hid hv1
        have HGEN := Lib.hid hgen
        have HAL := Lib.hid halong
        have HPL := Lib.hid hpl
        have HV := Lib.hid hv
        clear hgen halong hpl hv1 HA hci
        go_upto_region 5 with fail
        go_region_with (first
          | (go_at_call 101; refine (bare_any _).mono ?_; rintro e w2 ⟨rfl, hb2⟩; have hb2' : Below wr.heap.size wr w2 := ((Below.refl _ wr).drewN' 1).trans (by exact hb2))
          | (go_at_call 100; refine (add_any w2 base g kk y up uv2 hv2 tv2 (HM.out.keep hb2') (by have := hb2'.size; omega) (by omega)).mono ?_; rintro e w3 ⟨rfl, nv, mv, hz3, hf3⟩))
        have hI3 := inv_add HI.out
        have hM3 : FM w3 base g kk (addF y) _ nv mv tv2 := FM.added (HI.out.out y.n (Nat.le_refl _)).2 hz3
        have hU3 : UF (addF y).n _ (addF y).R d := UF.added HU.out (HI.out.out y.n (Nat.le_refl _)).1
        have hF3 := (HF.out.trans (Frm.of_below hb2' g _ _ _)).trans hf3
        have hed := edge_any w3 base g kk (addF y) _ d nv mv tv2 hI3 hk hM3 hU3 (by have := hF3.size; omega) (by show 8 * (y.n + 1) + y.todo.length + 2 < 1000000; have := HN.out; rw [HT.out]; simp; omega) (a := v) (p := placeB c) (b := y.n) (by show v < y.n + 1; omega) (by show y.n < y.n + 1; omega) HC2.out HGEN.out
        have HED := Lib.hid hed
        have HF3 := Lib.hid hF3
        clear hI3 hM3 hU3 hF3 hed hz3 hf3 hb2 hb2' HM HU HF HI
        go_wp2_with (first
          | (go_at_call 76; refine (HPL.out _).mono ?_; rintro e w4 ⟨rfl, rfl⟩)
          | (go_at_call 103; refine HED.out.mono ?_; rintro e w9 ⟨rfl, y2, up9, d9, tv9, h1, h2, h3, h4, h5, h6⟩; have G1 := Lib.hid h1; have G2 := Lib.hid h2; have G3 := Lib.hid h3; have G4 := Lib.hid h4; have G5 := Lib.hid h5; have G6 := Lib.hid (HF3.out.trans h6); clear h1 h2 h3 h4 h5 h6))
        have hn2 : y2.n = x.n + min (i + 1) (s.size - 1) := by rw [G3.out]; show y.n + 1 = _; rw [HN.out]; omega
        have he2 : ∀ e ∈ E, e ∈ (v, placeB c, y.n) :: F := fun e he => List.mem_cons_of_mem _ (HE.out e he)
        have hal2 := HAL.out ((v, placeB c, y.n) :: F) (fun e he => List.mem_cons_of_mem _ he) (List.mem_cons_self ..)
        have G7 := Lib.hid hn2
        have G8 := Lib.hid he2
        have G9 := Lib.hid hal2
        clear hn2 he2 hal2
        go_roundw
        case rel => exact ⟨i + 1, y2, _, up9, d9, _, _, _, by omega, by go_num, by rw [HV1.out], G1, G2, G7, G8, by rw [HV1.out]; exact G9, G4, G5, G6⟩
        case measure => simp [intOf]; omega
      · have hv1 : vtW x.n a b (bts s) (i + 1) = b := by
          unfold vtW
          rw [if_neg (by omega), if_neg (by rw [hlen]; exact hlast)]
        have hlasti : ¬ (i : Int) + 1 < s.size := by omega
        rw [hv1] at hgen halong
        have hed := edge_any wr base g kk y up d uv2 hv2 tv2 HI.out hk HM.out HU.out (by omega) (by have := HN.out; rw [HT.out]; simp; omega) (a := v) (p := placeB c) (b := b) hvi (by have := HN.out; omega) HC2.out hgen
        have HV1 := Lib.hid hv1
        have HAL := Lib.hid halong
        have HPL := Lib.hid hpl
        have HV := Lib.hid hv
        have HED := Lib.hid hed
        clear hgen halong hpl hv1 HA hci hed HI HM HU
        go_wp2_with (first
          | (go_at_call 76; refine (HPL.out _).mono ?_; rintro e w4 ⟨rfl, rfl⟩)
          | (go_at_call 103; refine HED.out.mono ?_; rintro e w9 ⟨rfl, y2, up9, d9, tv9, h1, h2, h3, h4, h5, h6⟩; have G1 := Lib.hid h1; have G2 := Lib.hid h2; have G3 := Lib.hid h3; have G4 := Lib.hid h4; have G5 := Lib.hid h5; have G6 := Lib.hid (HF.out.trans h6); clear h1 h2 h3 h4 h5 h6))
        have hn2 : y2.n = x.n + min (i + 1) (s.size - 1) := by rw [G3.out, HN.out]; omega
        have he2 : ∀ e ∈ E, e ∈ (v, placeB c, b) :: F := fun e he => List.mem_cons_of_mem _ (HE.out e he)
        have hal2 := HAL.out ((v, placeB c, b) :: F) (fun e he => List.mem_cons_of_mem _ he) (List.mem_cons_self ..)
        have G7 := Lib.hid hn2
        have G8 := Lib.hid he2
        have G9 := Lib.hid hal2
        clear hn2 he2 hal2
        go_roundw
        case rel => exact ⟨i + 1, y2, _, up9, d9, _, _, _, by omega, by go_num, by rw [HV1.out], G1, G2, G7, G8, by rw [HV1.out]; exact G9, G4, G5, G6⟩
        case measure => simp [intOf]; omega
    · obtain rfl : i = s.size := by omega
      have hn3 : x.n ≤ y.n ∧ y.n ≤ x.n + s.size := by rw [HN.out]; omega
      have hb9 : s.size ≠ 0 → vtW x.n a b (bts s) s.size = b := fun h => by
        unfold vtW
        rw [if_neg h, if_neg (by rw [hlen]; omega)]
      have hal : Along F a (bts s) (vtW x.n a b (bts s) s.size) := by
        have := HA.out
        rwa [List.take_of_length_le (by rw [hlen]; exact Nat.le_refl _)] at this
      by_cases hs0 : s.size = 0
      · have hab : a = b := hne.resolve_left (fun h => h hs0)
        have hva : vtW x.n a b (bts s) s.size = a := by unfold vtW; rw [if_pos hs0]
        have hte : s.toList.isEmpty = true := by rw [ByteArray.size_eq_zero_iff.1 hs0, ByteArray.toList_eq]; rfl
        rw [hva, hab] at hal
        rw [hva]
        subst hab
        have H3 := Lib.hid hn3
        have HAL := Lib.hid hal
        clear hn3 hal hb9 hva HA hs0 hne
        go_wp2_with fail
        go_end0
        exact ⟨rfl, y, _, F, up, d, _, _, _, HI.out, HT.out, HP.out, HE.out, HAL.out, H3.out.1, H3.out.2, HM.out, HU.out, HF.out⟩
      · have hte : s.toList.isEmpty = false := by
          cases h : s.toList.isEmpty with
          | false => rfl
          | true =>
            refine absurd ?_ hs0
            have h1 := List.isEmpty_iff.1 h
            rw [ByteArray.toList_eq] at h1
            have h2 := bts_len s
            rw [show bts s = [] from h1] at h2
            exact h2.symm
        have hva := hb9 hs0
        rw [hva] at hal
        rw [hva]
        have H3 := Lib.hid hn3
        have HAL := Lib.hid hal
        clear hn3 hal hb9 hva HA hs0 hne
        go_wp2_with fail
        go_end0
        exact ⟨rfl, y, _, F, up, d, _, _, _, HI.out, HT.out, HP.out, HE.out, HAL.out, H3.out.1, H3.out.2, HM.out, HU.out, HF.out⟩
end Go.Proofs.Ytlooclpfoeakgaa

/- Maps of integers to integers, and to bools: the walks' equations. -/
namespace Go.Proofs.Ytlooclpfoeakgaa
open Go.RowKit

theorem intKeyed : Maps.Keyed Try.prog 3 := Maps.int_keyed Try.underlying3
theorem zero3 (w : World) : (zeroValue 3).run Try.prog w = .ok (.int .i64 0) w := by kernel_rfl
theorem zero4 (w : World) : (zeroValue 4).run Try.prog w = .ok (.bool false) w := by kernel_rfl
theorem wf_nat {k : Nat} (h : k ≤ 1000000000) : (Lit.int .i64 (k : Int)).wf = true := WalkArith.wf_i64 (by omega)
theorem key_nat {k : Nat} (h : k ≤ 1000000000) : keyOf Try.prog 3 (.int .i64 (k : Int)) = some (.int .i64 (k : Int)) := Maps.keyOf_int_mk Try.underlying3 (wf_nat h)
theorem lit_ne {j k : Nat} (h : j ≠ k) : (Lit.int .i64 (j : Int)) ≠ .int .i64 (k : Int) := by
  intro e; simp at e; exact h (by omega)

theorem isKey (k : Nat) : WideAt.IsKeyLit (.int .i64 (k : Int)) := trivial
/-- the block is a map of integers -/
def MapI (w : World) (b n : Nat) (f : Nat → Option Int) : Prop :=
  ∃ D : DataW Unit, w.ownsMap Try.prog 3 (plainElem Try.prog 3) b n D ∧ ∀ k : Nat, k ≤ 1000000000 → Maps.has D (.int .i64 (k : Int)) = (f k).isSome ∧ ∀ v, f k = some v → ∀ z, D.atKey (.int .i64 (k : Int)) z = .lit (.int .i64 v)
def MapB (w : World) (b n : Nat) (f : Nat → Bool) : Prop :=
  ∃ D : DataW Unit, w.ownsMap Try.prog 3 (plainElem Try.prog 4) b n D ∧ ∀ k : Nat, k ≤ 1000000000 → D.atKey (.int .i64 (k : Int)) (.lit (.bool false)) = .lit (.bool (f k))
theorem own_congr {w w2 : World} {k : TypeId} {R : Value → Option (DataW Unit × List MemPlace)} {b n : Nat} {D : DataW Unit} (h : w.ownsMap Try.prog k R b n D) (e : w2.heap[b]? = w.heap[b]?) : w2.ownsMap Try.prog k R b n D := by
  obtain ⟨es, clock, hb, r⟩ := h
  exact ⟨es, clock, e.trans hb, r⟩
section
variable {w w2 : World} {b n : Nat} {f : Nat → Option Int} {g : Nat → Bool}
theorem MapI.congr (h : MapI w b n f) (e : w2.heap[b]? = w.heap[b]?) : MapI w2 b n f := let ⟨D, h1, h2⟩ := h; ⟨D, own_congr h1 e, h2⟩
theorem MapB.congr (h : MapB w b n g) (e : w2.heap[b]? = w.heap[b]?) : MapB w2 b n g := let ⟨D, h1, h2⟩ := h; ⟨D, own_congr h1 e, h2⟩
theorem MapI.lt (h : MapI w b n f) : b < w.heap.size := let ⟨_, h1, _⟩ := h; h1.lt
theorem MapB.lt (h : MapB w b n g) : b < w.heap.size := let ⟨_, h1, _⟩ := h; h1.lt
theorem MapI.new (w : World) : MapI (w.alloc (.map #[] 0)) w.heap.size 0 (fun _ => none) := ⟨_, World.ownsMap_made _ _ _ _, fun _ _ => ⟨rfl, fun v h => by cases h⟩⟩
theorem MapB.new (w : World) : MapB (w.alloc (.map #[] 0)) w.heap.size 0 (fun _ => false) := ⟨_, World.ownsMap_made _ _ _ _, fun _ _ => rfl⟩
theorem MapI.wf (h : MapI w b n f) {k : Nat} (hk : k ≤ 1000000000) {v : Int} (hv : f k = some v) : (Lit.int .i64 v).wf = true := by
  obtain ⟨D, h1, h2⟩ := h
  obtain ⟨c, _, hat, hwf⟩ := h1.lookup_int intKeyed Try.underlying157 Try.underlying3 (zero3 w) (key_nat hk)
  rw [(h2 k hk).2 v hv] at hat
  simp at hat
  rw [hat]; exact hwf
/-- m[k] -/
theorem MapI.look (h : MapI w b n f) {k : Nat} (hk : k ≤ 1000000000) : (Instr.lookup 157 (.map (some b)) (.int .i64 (k : Int)) false).run Try.prog w = .ok (.int .i64 ((f k).getD 0)) w := by
  obtain ⟨D, h1, h2⟩ := h
  obtain ⟨c, hrun, hat, -⟩ := h1.lookup_int intKeyed Try.underlying157 Try.underlying3 (zero3 w) (key_nat hk)
  rw [hrun]
  obtain ⟨h3, h4⟩ := h2 k hk
  cases hf : f k with
  | some v => rw [h4 v hf] at hat; simp at hat; rw [hat]; rfl
  | none =>
    rw [hf] at h3
    rw [Maps.atKey_of_not_has h3] at hat
    simp at hat; rw [← hat]; rfl
/-- v, ok := m[k] -/
theorem MapI.look2 (h : MapI w b n f) {k : Nat} (hk : k ≤ 1000000000) : (Instr.lookup 157 (.map (some b)) (.int .i64 (k : Int)) true).run Try.prog w = .ok (.tuple #[.int .i64 ((f k).getD 0), .bool (f k).isSome]) w := by
  obtain ⟨D, h1, h2⟩ := h
  obtain ⟨v, ps, hrun, hv⟩ := h1.look_ok intKeyed Try.underlying157 (zero3 w) (plainElem_int Try.underlying3 (by decide)) (key_nat hk)
  obtain ⟨c, rfl, hc, -⟩ := plainElem_int_inv Try.underlying3 hv
  rw [hrun]
  obtain ⟨h3, h4⟩ := h2 k hk
  have hat := congrArg Prod.fst hc
  simp only at hat
  rw [h3]
  cases hf : f k with
  | some v => rw [h4 v hf] at hat; simp at hat; rw [hat]; rfl
  | none =>
    rw [hf] at h3
    rw [Maps.atKey_of_not_has h3] at hat
    simp at hat; rw [← hat]; rfl
/-- m[k] = v -/
theorem MapI.update (h : MapI w b n f) (hn : n < 1000000000) {k : Nat} (hk : k ≤ 1000000000) {v : Int} (hv : (Lit.int .i64 v).wf = true) :
    ∃ w', (Instr.mapUpdate 157 (.map (some b)) (.int .i64 (k : Int)) (.int .i64 v)).run Try.prog w = .ok () w' ∧ MapI w' b (n + 1) (fun j => if j = k then some v else f j) ∧ w.grownBy w' (some b) := by
  obtain ⟨D, h1, h2⟩ := h
  obtain ⟨w', hrun, h3, h4⟩ := h1.update intKeyed Try.underlying157 (by unfold maxLen; omega) (key_nat hk) (plainElem_int Try.underlying3 hv)
  refine ⟨w', hrun, ⟨_, h3, fun j hj => ?_⟩, h4⟩
  dsimp only
  by_cases e : j = k
  · subst e
    rw [if_pos rfl]
    exact ⟨Maps.has_put_same h1.isMap (isKey j) _, fun u hu z => by rw [Maps.atKey_put_same h1.isMap (isKey j)]; cases hu; rfl⟩
  · rw [if_neg e, Maps.has_put_other (lit_ne e)]
    exact ⟨(h2 j hj).1, fun u hu z => by rw [Maps.atKey_put_other (lit_ne e)]; exact (h2 j hj).2 u hu z⟩
theorem plainElem_bool_inv {P : Program} {e : TypeId} (he : P.underlying e = some .bool) {v : Value} {z : DataW Unit × List MemPlace} (h : plainElem P e v = some z) : ∃ a, v = .bool a ∧ z = (.lit (.bool a), []) := by
  unfold plainElem at h
  rw [he] at h
  cases v <;> simp at h
  exact ⟨_, rfl, h.symm⟩
theorem MapB.look (h : MapB w b n g) {k : Nat} (hk : k ≤ 1000000000) : (Instr.lookup 129 (.map (some b)) (.int .i64 (k : Int)) false).run Try.prog w = .ok (.bool (g k)) w := by
  obtain ⟨D, h1, h2⟩ := h
  obtain ⟨v, ps, hrun, hv⟩ := h1.lookup intKeyed Try.underlying129 (zero4 w) (plainElem_bool Try.underlying4 false) (key_nat hk)
  obtain ⟨c, rfl, hc⟩ := plainElem_bool_inv Try.underlying4 hv
  rw [hrun]
  have hat := congrArg Prod.fst hc
  simp only at hat
  rw [h2 k hk] at hat
  simp at hat; rw [hat]
theorem MapB.update (h : MapB w b n g) (hn : n < 1000000000) {k : Nat} (hk : k ≤ 1000000000) (v : Bool) :
    ∃ w', (Instr.mapUpdate 129 (.map (some b)) (.int .i64 (k : Int)) (.bool v)).run Try.prog w = .ok () w' ∧ MapB w' b (n + 1) (fun j => if j = k then v else g j) ∧ w.grownBy w' (some b) := by
  obtain ⟨D, h1, h2⟩ := h
  obtain ⟨w', hrun, h3, h4⟩ := h1.update intKeyed Try.underlying129 (by unfold maxLen; omega) (key_nat hk) (plainElem_bool Try.underlying4 v)
  refine ⟨w', hrun, ⟨_, h3, fun j hj => ?_⟩, h4⟩
  dsimp only
  by_cases e : j = k
  · subst e
    rw [if_pos rfl, Maps.atKey_put_same h1.isMap (isKey j)]
  · rw [if_neg e, Maps.atKey_put_other (lit_ne e)]
    exact h2 j hj
end
end Go.Proofs.Ytlooclpfoeakgaa

/- A graph whose vertices are numbered: how it lies. -/
namespace Go.Proofs.Ytlooclpfoeakgaa
open Go.RowKit

/-- blocks from B on are as they were -/
structure Fr (B : Nat) (w w' : World) : Prop where
  os : w'.os = w.os
  tape : w'.tape = w.tape
  output : w'.output = w.output
  size : w.heap.size ≤ w'.heap.size
  block : ∀ i, B ≤ i → i < w.heap.size → w'.heap[i]? = w.heap[i]?
theorem Fr.refl (B : Nat) (w : World) : Fr B w w := ⟨rfl, rfl, rfl, Nat.le_refl _, fun _ _ _ => rfl⟩
theorem Fr.trans {B : Nat} {w w1 w2 : World} (a : Fr B w w1) (b : Fr B w1 w2) : Fr B w w2 :=
  ⟨b.os.trans a.os, b.tape.trans a.tape, b.output.trans a.output, Nat.le_trans a.size b.size, fun i h1 h2 => (b.block i h1 (Nat.lt_of_lt_of_le h2 a.size)).trans (a.block i h1 h2)⟩
theorem Fr.of_below {B : Nat} {w w1 : World} (h : Below w.heap.size w w1) : Fr B w w1 := ⟨h.os, h.tape, h.output, h.size, fun i _ h2 => h.block i h2⟩

/-- rows of integers, each in a block of its own that is as q says -/
def RowsAt (w : World) (B : Nat) (rv : Value) (g : List (List Int)) (q : Nat → Prop) : Prop :=
  ∃ vs : List Value, w.ownsRow B 54 1 rv g.length vs ∧ ∀ (i : Nat) (r : List Int), g[i]? = some r → ∃ u, vs[i]? = some u ∧ OwnK w B 3 1 u r.length r ∧ ∀ b, u.ownBlock = some b → q b
theorem RowsAt.nil (w : World) (B : Nat) (q : Nat → Prop) : RowsAt w B (.slice none 0 0) [] q := ⟨[], ⟨rfl, .inl ⟨rfl, rfl⟩⟩, fun i r h => by simp at h⟩
theorem RowsAt.congr {w w2 : World} {B : Nat} {rv : Value} {g : List (List Int)} {q q2 : Nat → Prop} (h : RowsAt w B rv g q) (he : ∀ i, B ≤ i → i < w.heap.size → (rv.ownBlock = some i ∨ q i) → w2.heap[i]? = w.heap[i]?) (hq : ∀ b, b < w.heap.size → q b → q2 b) : RowsAt w2 B rv g q2 := by
  obtain ⟨vs, h1, h2⟩ := h
  refine ⟨vs, row_congr h1 fun i hi => ?_, fun i r hr => ?_⟩
  · obtain ⟨h3, h4⟩ := World.ownsRow.lt h1 i hi
    exact he i h3 h4 (.inl hi)
  · obtain ⟨u, h3, h4, h5⟩ := h2 i r hr
    refine ⟨u, h3, row_congr h4 fun j hj => ?_, fun b hb => hq b (World.ownsRow.lt h4 b hb).2 (h5 b hb)⟩
    obtain ⟨h6, h7⟩ := World.ownsRow.lt h4 j hj
    exact he j h6 h7 (.inr (h5 j hj))

/-- the numbering under way -/
structure NumS (w : World) (B gb mb ob oc n k : Nat) (l : List Nat) (g : List (List Int)) (rv : Value) (q : Nat → Prop) : Prop where
  gB : B ≤ gb
  mB : B ≤ mb
  box : Blk w gb 25 [.int .i64 k, rv]
  ord : OwnK w B 3 1 (.slice (some ⟨ob, 0, none⟩) l.length oc) l.length (l.map fun (u : Nat) => (u : Int))
  map : MapI w mb n (fun u => (posOf u l).map fun (m : Nat) => (m : Int))
  rows : RowsAt w B rv g fun b => b ≠ ob ∧ q b
theorem NumS.oB {w : World} {B gb mb ob oc n k : Nat} {l : List Nat} {g : List (List Int)} {rv : Value} {q : Nat → Prop} (h : NumS w B gb mb ob oc n k l g rv q) : B ≤ ob ∧ ob < w.heap.size := World.ownsRow.lt h.ord ob rfl
theorem NumS.congr {w w2 : World} {B gb mb ob oc n k : Nat} {l : List Nat} {g : List (List Int)} {rv : Value} {q : Nat → Prop} (h : NumS w B gb mb ob oc n k l g rv q) (he : ∀ i, B ≤ i → i < w.heap.size → w2.heap[i]? = w.heap[i]?) : NumS w2 B gb mb ob oc n k l g rv q :=
  ⟨h.gB, h.mB, (he gb h.gB h.box.lt).trans h.box, row_congr h.ord fun i hi => he i (World.ownsRow.lt h.ord i hi).1 (World.ownsRow.lt h.ord i hi).2, h.map.congr (he mb h.mB h.map.lt), h.rows.congr (fun i h1 h2 _ => he i h1 h2) (fun _ _ h => h)⟩
theorem NumS.kept {w w2 : World} {B gb mb ob oc n k : Nat} {l : List Nat} {g : List (List Int)} {rv : Value} {q q2 : Nat → Prop} (h : NumS w B gb mb ob oc n k l g rv q) (hq : ∀ b, b < w.heap.size → q b → q2 b) (he : ∀ i, B ≤ i → i < w.heap.size → w2.heap[i]? = w.heap[i]?) : NumS w2 B gb mb ob oc n k l g rv q2 :=
  have h1 := h.congr he
  ⟨h1.gB, h1.mB, h1.box, h1.ord, h1.map, h.rows.congr (fun i h1 h2 _ => he i h1 h2) (fun b hb h => ⟨h.1, hq b hb h.2⟩)⟩
/-- a block of another type than a row's -/
theorem own_ne {w : World} {base : Nat} {e e2 : TypeId} {s : Nat} {v : Value} {n g : Nat} {xs vs : List Value} (h1 : w.ownsRow base e s v n xs) (h2 : Blk w g e2 vs) (he : e ≠ e2) {b : Nat} (hb : v.ownBlock = some b) : b ≠ g := fun e3 => row_blk h1 h2 he (by rw [hb, e3])
/-- a map's block is no row's -/
theorem map_ne {w : World} {base : Nat} {e : TypeId} {s : Nat} {v : Value} {n mb m : Nat} {xs : List Value} {f : Nat → Option Int} (h1 : w.ownsRow base e s v n xs) (h2 : MapI w mb m f) {b : Nat} (hb : v.ownBlock = some b) : b ≠ mb := by
  rintro rfl
  obtain ⟨D, ⟨es, clock, h3, _⟩, _⟩ := h2
  rcases h1.2 with ⟨rfl, _⟩ | ⟨g1, cap, cur, rfl, _, hg, _⟩
  · cases hb
  · cases hb
    rw [hg] at h3; cases h3
theorem map_nb {w : World} {mb m g : Nat} {e : TypeId} {vs : List Value} {f : Nat → Option Int} (h2 : MapI w mb m f) (h1 : Blk w g e vs) : g ≠ mb := by
  rintro rfl
  obtain ⟨D, ⟨es, clock, h3, _⟩, _⟩ := h2
  rw [Blk] at h1
  rw [h1] at h3; cases h3
section
variable {w w2 : World} {B gb mb ob oc n k : Nat} {l : List Nat} {g : List (List Int)} {rv : Value} {q : Nat → Prop}
/-- the number of what is met is put in -/
theorem NumS.mapped (h : NumS w B gb mb ob oc n k l g rv q) (hg : w.grownBy w2 (some mb)) : Blk w2 gb 25 [.int .i64 k, rv] ∧ OwnK w2 B 3 1 (.slice (some ⟨ob, 0, none⟩) l.length oc) l.length (l.map fun (u : Nat) => (u : Int)) ∧ RowsAt w2 B rv g fun b => b < w.heap.size ∧ b ≠ ob ∧ q b := by
  obtain ⟨vs, r1, r2⟩ := id h.rows
  refine ⟨(hg.block gb h.box.lt (fun e => map_nb h.map h.box (Option.some.inj e))).trans h.box, World.ownsRow.kept h.ord hg (.inr (fun e => map_ne h.ord h.map rfl (Option.some.inj e))), vs, World.ownsRow.kept r1 hg ?_, fun i r hr => ?_⟩
  · cases hrv : rv.ownBlock with
    | none => exact .inl rfl
    | some b => exact .inr (fun e => map_ne r1 h.map hrv (Option.some.inj e))
  · obtain ⟨u, u1, u2, u3⟩ := r2 i r hr
    refine ⟨u, u1, World.ownsRow.kept u2 hg ?_, fun b hb => ⟨(World.ownsRow.lt u2 b hb).2, u3 b hb⟩⟩
    cases huv : u.ownBlock with
    | none => exact .inl rfl
    | some b => exact .inr (fun e => map_ne u2 h.map huv (Option.some.inj e))
end
/-- append of one value of one cell, in the walk of a region that keeps its order -/
theorem wpList_appV {P : Program} {w : World} {ops : Array Oper} {rest : List Oper} {o : Oper} {a : Act} {Q : Exit → Act → World → Prop} {e t : TypeId} {bytes : Nat} {zv : Value} (hinfo : (P.info? e).map (fun i => (i.zero, i.size, i.bytes)) = some (some zv, 1, bytes)) (hzs : zv.cells.size = 1) (hby : bytes ≤ 1000) (ht : P.underlying t = some (.slice e))
    {base : Nat} {v : Value} {n : Nat} {xs : List Value} (hown : w.ownsRow base e 1 v n xs) (hl : n < 1000000000) (hgd : o.guard = none) (s x : Operand)
    (ho : o.op = .call { callee := .builtin .append, args := #[s, x], argTypes := #[t, t] }) {B : Nat} {y : Value} (hs : a.eval s = v) (hx : a.eval x = .slice (some ⟨B, 0, none⟩) 1 1) (hc : Blk w B e [y]) (hy : y.oneCell' = true)
    (hbase : base ≤ w.heap.size) (H : Nat) (hH : w.heap.size = H)
    (h : ∀ g cap w', w'.ownsRow base e 1 (.slice (some ⟨g, 0, none⟩) (n + 1) cap) (n + 1) (xs ++ [y]) → w.grownBy w' v.ownBlock → (v.ownBlock = some g ∨ g = H) → g < w'.heap.size → wpList P ops Q rest (a.put o.dst (.slice (some ⟨g, 0, none⟩) (n + 1) cap)) w') :
    wpList P ops Q (o :: rest) a w := by
  obtain ⟨i, h2, h3, h4, h5⟩ := info_parts hinfo
  refine wpList_step fun K hK => step_append_lies w hgd s x t ho base e i zv 1 bytes ht h2 h3 h4 h5 hzs (by decide) v n _ hs hown ⟨B, 0, none⟩ 1 1 [y] hx (by simp) ?_ ?_ (by decide) ?_ ?_ hbase H hH (fun g cap w' r1 r2 r3 r4 => hK _ _ (h g cap w' r1 r2 r3 r4))
  · have := World.news_of_block hc
    simpa using this
  · intro u hu
    obtain rfl := List.mem_singleton.1 hu
    exact hy
  · unfold maxLen; omega
  · have : (n + 1) * bytes ≤ 1000000000 * 1000 := Nat.mul_le_mul (by omega) hby
    omega
/-- a whole block is a row -/
theorem Blk.own {w : World} {B b : Nat} {r : List Int} (h : Blk w b 3 (I64s r)) (hB : B ≤ b) (hl : r.length ≤ 1000000000) : OwnK w B 3 1 (.slice (some ⟨b, 0, none⟩) r.length r.length) r.length r :=
  ⟨by simp, .inr ⟨b, r.length, _, rfl, hB, h, Nat.le_refl _, by unfold maxLen; omega, by simp, by rw [Nat.mul_one, List.take_of_length_le (by simp)]⟩⟩
section
variable {w w2 w3 : World} {B gb mb ob oc n k : Nat} {l : List Nat} {g : List (List Int)} {rv : Value} {q : Nat → Prop}
/-- what is met is put behind -/
theorem NumS.more (h : NumS w B gb mb ob oc n k l g rv q) {u : Nat} {n2 : Nat} {f : Nat → Option Int} (hm : MapI w2 mb n2 f) (hf : ∀ x, f x = (posOf x (l ++ [u])).map fun (m : Nat) => (m : Int)) (hg : w.grownBy w2 (some mb)) {g6 cap : Nat}
    (ho : OwnK w3 B 3 1 (.slice (some ⟨g6, 0, none⟩) (l.length + 1) cap) (l.length + 1) ((l.map fun (u : Nat) => (u : Int)) ++ [(u : Int)])) (hg3 : w2.grownBy w3 (some ob)) (hat : ob = g6 ∨ w2.heap.size ≤ g6) :
    NumS w3 B gb mb g6 cap n2 k (l ++ [u]) g rv q := by
  obtain ⟨m1, m2, vs, r1, r2⟩ := h.mapped hg
  have hbo : some gb ≠ some ob := row_blk m2 m1 (by decide)
  have hmo : mb ≠ ob := fun e => map_ne m2 hm rfl e.symm
  have hw := hg.size
  refine ⟨h.gB, h.mB, m1.grown hg3 hbo, by simpa using ho, ?_, vs, World.ownsRow.kept r1 hg3 ?_, fun i r hr => ?_⟩
  · have h1 := hm.congr (hg3.block mb hm.lt (fun e => hmo (Option.some.inj e)))
    obtain ⟨D, d1, d2⟩ := h1
    exact ⟨D, d1, fun j hj => by dsimp only; rw [← hf j]; exact d2 j hj⟩
  · exact row_ne r1 m2 (by decide)
  · obtain ⟨v, u1, u2, u3⟩ := r2 i r hr
    refine ⟨v, u1, World.ownsRow.kept u2 hg3 ?_, fun b hb => ?_⟩
    · cases huv : v.ownBlock with
      | none => exact .inl rfl
      | some b => exact .inr (fun e => (u3 b huv).2.1 (Option.some.inj e))
    · obtain ⟨b1, b2, b3⟩ := u3 b hb
      exact ⟨by rcases hat with e | e <;> omega, b3⟩
/-- a row is put behind -/
theorem NumS.rowed {rb : Nat} {r : List Int} (h : NumS w B gb mb ob oc n k l g rv fun b => b ≠ rb) (hr : Blk w rb 3 (I64s r)) (hrB : B ≤ rb) (hrl : r.length ≤ 1000000000) (hro : rb ≠ ob) {vs : List Value} (hv : ∀ (i : Nat) (s : List Int), g[i]? = some s → ∃ u, vs[i]? = some u ∧ OwnK w B 3 1 u s.length s ∧ ∀ b, u.ownBlock = some b → b ≠ ob ∧ b ≠ rb)
    (hvo : w.ownsRow B 54 1 rv g.length vs) {g6 cap : Nat} (ho : w2.ownsRow B 54 1 (.slice (some ⟨g6, 0, none⟩) (g.length + 1) cap) (g.length + 1) (vs ++ [.slice (some ⟨rb, 0, none⟩) r.length r.length])) (hg : w.grownBy w2 rv.ownBlock) :
    NumS (w2.setCell ⟨gb, 1, none⟩ (.slice (some ⟨g6, 0, none⟩) (g.length + 1) cap)) B gb mb ob oc n k l (g ++ [r]) (.slice (some ⟨g6, 0, none⟩) (g.length + 1) cap) fun _ => True := by
  have b1 := h.box.grown hg (fun e => row_blk hvo h.box (by decide) e)
  have o1 := World.ownsRow.kept h.ord hg (row_ne h.ord hvo (by decide))
  have m1 := h.map.congr (hg.block mb h.map.lt (fun e => map_ne hvo h.map e.symm rfl))
  have hvl : vs.length = g.length := by have := hvo.1; omega
  have hmg : mb ≠ gb := fun e => map_nb h.map h.box e.symm
  refine ⟨h.gB, h.mB, by have := b1.set 1 (.slice (some ⟨g6, 0, none⟩) (g.length + 1) cap); exact this, row_other o1 b1 (by decide) _ _, m1.congr (Below.heap_setCell _ _ _ _ hmg), vs ++ [.slice (some ⟨rb, 0, none⟩) r.length r.length], ?_, fun i s hs => ?_⟩
  · rw [List.length_append, List.length_singleton]
    exact row_other ho b1 (by decide) _ _
  · by_cases hi : i < g.length
    · rw [List.getElem?_append_left hi] at hs
      obtain ⟨u, u1, u2, u3⟩ := hv i s hs
      refine ⟨u, by rw [List.getElem?_append_left (by omega)]; exact u1, row_other (World.ownsRow.kept u2 hg (row_ne u2 hvo (by decide))) b1 (by decide) _ _, fun b hb => ⟨(u3 b hb).1, trivial⟩⟩
    · have hi2 : i = g.length := by
        have := (List.getElem?_eq_some_iff.1 hs).1
        simp at this; omega
      subst hi2
      rw [List.getElem?_append_right (Nat.le_refl _), Nat.sub_self] at hs
      simp at hs; subst hs
      refine ⟨_, by rw [List.getElem?_append_right (by omega), hvl, Nat.sub_self]; rfl, row_other (World.ownsRow.kept (hr.own hrB hrl) hg (row_ne (hr.own hrB hrl) hvo (by decide))) b1 (by decide) _ _, fun b hb => ?_⟩
      cases hb
      exact ⟨hro, trivial⟩
end
theorem RowsAt.other {w : World} {B c : Nat} {rv : Value} {g : List (List Int)} {q : Nat → Prop} {e : TypeId} {vs : List Value} (h : RowsAt w B rv g q) (hc : Blk w c e vs) (h1 : 54 ≠ e) (h2 : 3 ≠ e) (j : Nat) (x : Value) : RowsAt (w.setCell ⟨c, j, none⟩ x) B rv g q := by
  obtain ⟨us, r1, r2⟩ := h
  refine ⟨us, row_other r1 hc h1 _ _, fun i r hr => ?_⟩
  obtain ⟨u, u1, u2, u3⟩ := r2 i r hr
  exact ⟨u, u1, row_other u2 hc h2 _ _, u3⟩
theorem Fr.put {B : Nat} {w w2 w3 : World} (h : Fr w.heap.size w w2) (hb : Below B w2 w3) : Fr w.heap.size w w3 :=
  ⟨hb.os.trans h.os, hb.tape.trans h.tape, hb.output.trans h.output, Nat.le_trans h.size hb.size, fun _ h1 h2 => absurd h2 (by omega)⟩
/-- the row under way is written -/
theorem NumS.setR {w : World} {B gb mb ob oc n k rb : Nat} {l : List Nat} {g : List (List Int)} {rv : Value} {vs : List Value} (h : NumS w B gb mb ob oc n k l g rv fun b => b ≠ rb) (hr : Blk w rb 3 vs) (hro : rb ≠ ob) (p : Nat) (x : Value) : NumS (w.setCell ⟨rb, p, none⟩ x) B gb mb ob oc n k l g rv fun b => b ≠ rb := by
  have e1 : gb ≠ rb := by
    rintro rfl
    have h1 := h.box
    rw [Blk] at h1 hr
    rw [hr] at h1
    simp at h1
  have e2 : mb ≠ rb := fun e => map_nb h.map hr e.symm
  have hh : ∀ i, i ≠ rb → (w.setCell ⟨rb, p, none⟩ x).heap[i]? = w.heap[i]? := fun i hi => Below.heap_setCell _ _ _ i hi
  refine ⟨h.gB, h.mB, h.box.other e1 _, row_congr h.ord fun i hi => hh i ?_, h.map.congr (hh mb e2), ?_⟩
  · have hi : some ob = some i := hi
    cases hi
    exact fun e => hro e.symm
  · obtain ⟨us, r1, r2⟩ := h.rows
    refine ⟨us, row_congr r1 fun i hi => hh i ?_, fun i r hr2 => ?_⟩
    · rintro rfl
      exact row_blk r1 hr (by decide) hi.symm
    · obtain ⟨u, u1, u2, u3⟩ := r2 i r hr2
      exact ⟨u, u1, row_congr u2 fun j hj => hh j (u3 j hj).2, u3⟩
end Go.Proofs.Ytlooclpfoeakgaa

/- Vertices are numbered as they are met: the walk. -/
namespace Go.Proofs.Ytlooclpfoeakgaa
open Go.RowKit

/-! ### plain laws -/
theorem posOf_none {u : Nat} : ∀ {l : List Nat}, posOf u l = none ↔ u ∉ l
  | [] => by simp [posOf]
  | x :: l => by
    rw [posOf]
    by_cases h : x = u
    · subst h; simp
    · rw [if_neg h, Option.map_eq_none_iff, posOf_none]
      simp [show u ≠ x from fun e => h e.symm]
theorem posOf_lt {u : Nat} : ∀ {l : List Nat} {n : Nat}, posOf u l = some n → n < l.length
  | [], n, h => by simp [posOf] at h
  | x :: l, n, h => by
    rw [posOf] at h
    split at h
    · cases h; simp
    · rw [Option.map_eq_some_iff] at h
      obtain ⟨m, h1, rfl⟩ := h
      have := posOf_lt h1
      simp; omega
theorem posOf_snoc {u : Nat} (x : Nat) : ∀ {l : List Nat}, u ∉ l → posOf x (l ++ [u]) = if x = u then some l.length else posOf x l
  | [], _ => by
    show (if u = x then some 0 else Option.map _ none) = _
    by_cases h : x = u
    · subst h; simp
    · rw [if_neg (fun e => h e.symm), if_neg h]; rfl
  | y :: l, hu => by
    rw [List.cons_append, posOf, posOf, posOf_snoc x (l := l) (fun h => hu (by simp [h]))]
    by_cases h : x = u
    · subst h
      rw [if_neg (fun e => hu (by simp [e])), if_pos rfl, if_pos rfl]; rfl
    · rw [if_neg h, if_neg h]
theorem nodup_len {N : Nat} {l : List Nat} (hn : l.Nodup) (h : ∀ x ∈ l, x < N) : l.length ≤ N := by
  by_cases hc : l.length ≤ N
  · exact hc
  · exfalso
    obtain ⟨i, j, h1, h2, h3⟩ := pigeon N (fun i => l.getD i 0) (fun i hi => by
      have hi2 : i < l.length := by omega
      show l.getD i 0 < N
      rw [List.getD_eq_getElem?_getD, List.getElem?_eq_getElem hi2]
      exact h _ (List.getElem_mem hi2))
    have hi2 : i < l.length := by omega
    have hj2 : j < l.length := by omega
    have h3 : l.getD i 0 = l.getD j 0 := h3
    rw [List.getD_eq_getElem?_getD, List.getD_eq_getElem?_getD, List.getElem?_eq_getElem hi2, List.getElem?_eq_getElem hj2] at h3
    exact List.pairwise_iff_getElem.1 hn i j hi2 hj2 h1 h3

theorem Try.size25 : (Try.prog.info? 25).map (·.size) = some 2 := by kernel_rfl
theorem ret107 {w : World} {tmps : Array Value} {g : Nat} {M : List Value} (hM : M.length = 2) (hp : tmps.getD 8 undef = .pointer (some ⟨g, 0, none⟩)) (hb : Blk w g 25 M) : (results Try.f107 tmps).run Try.prog w = .ok (.agg M.toArray) w :=
  results_cell_row rfl tmps w g 25 _ (0, 0) _ hp hb Try.underlying25 rfl (by rw [Try.size25]; simp [hM])
theorem Try.info54 : (Try.prog.info? 54).map (fun i => (i.zero, i.size, i.bytes)) = some (some (.slice none 0 0), 1, 24) := by kernel_rfl

theorem grown_alloc {a w : World} {row : Option Nat} (h : a.grownBy w row) (o : Obj) : a.grownBy (w.alloc o) row :=
  ⟨h.os, h.tape, h.output, Nat.le_trans h.size (by simp), fun i h1 h2 => (Below.heap_alloc w o i (Nat.lt_of_lt_of_le h1 h.size)).trans (h.block i h1 h2)⟩
theorem numN_end {nx : Nat → Nat → Option Nat} {ps : List Nat} {f i : Nat} {l : List Nat} {g : List (List Int)} (h : l[i]? = none) : numN nx ps f i l g = g := by
  cases f with
  | zero => rfl
  | succ f => rw [numN, h]
theorem row_blk_other {w : World} {g b : Nat} {e e2 : TypeId} {vs us : List Value} (h : Blk w g e vs) (hb : Blk w b e2 us) (he : e ≠ e2) (j : Nat) (x : Value) : Blk (w.setCell ⟨b, j, none⟩ x) g e vs := by
  refine h.other (a := ⟨b, j, none⟩) ?_ x
  rintro rfl
  rw [Blk] at h hb
  rw [h] at hb
  simp at hb
  exact he hb.2
theorem row_put {K p : Nat} {r : List Int} (hr : r.length = p) (hp : p < K) (x : Int) : (I64s (r ++ List.replicate (K - p) 0)).set p (.int .i64 x) = I64s ((r ++ [x]) ++ List.replicate (K - (p + 1)) 0) := by
  rw [i64s_set, show K - p = (K - (p + 1)) + 1 by omega, List.replicate_succ, List.set_append_right _ _ (by omega), hr, Nat.sub_self, List.set_cons_zero, List.append_assoc]; rfl
theorem row_at {K p : Nat} {r : List Int} (hr : r.length = p) (hp : p < K) : (I64s (r ++ List.replicate (K - p) 0))[p]? = some (.int .i64 0) := by
  refine i64s_get ?_
  rw [List.getElem?_append_right (by omega), hr, Nat.sub_self, show K - p = (K - (p + 1)) + 1 by omega]; rfl
theorem rest_cons {K p : Nat} (hp : p < K) : List.range' p (K - p) = p :: List.range' (p + 1) (K - (p + 1)) := by
  rw [show K - p = (K - (p + 1)) + 1 by omega, List.range'_succ]

set_option maxRecDepth 100000 in
set_option maxHeartbeats 4000000 in
theorem numbered_any (w : World) (k start N fn : Nat) (cap : Array Value) (nx : Nat → Nat → Option Nat) (V : Nat → Prop) (J : World → Prop)
    (eg : ∀ (args : Array Value) (w : World), (callFunc fn args).run Try.prog w = .ok (.enter fn args) w) (hk1 : 1 ≤ k) (hk4 : k ≤ 4) (hs : V start) (hVN : ∀ v, V v → v < N) (hN : N < 1000000) (hnx : ∀ v p u, V v → nx v p = some u → V u)
    (hJ : J w) (hJb : ∀ w1 w2, J w1 → Below w.heap.size w1 w2 → J w2)
    (hclo : ∀ w1, J w1 → w.heap.size ≤ w1.heap.size → ∀ v p, V v → p < 2 * k → Calls Try.prog fn (#[.int .i64 v, .int .i64 p] ++ cap) w1 fun e w2 => e = .returned (.int .i64 (optI (nx v p))) ∧ J w2 ∧ Fr w.heap.size w1 w2) :
    Calls Try.prog 107 #[.int .i64 k, .int .i64 start, .int .i64 (-1), .func (.func fn) #[] cap] w fun e w' => ∃ rv, e = .returned (.agg #[.int .i64 k, rv]) ∧ RowsAt w' w.heap.size rv (numN nx (List.range (2 * k)) N 0 [start] []) (fun _ => True) ∧ J w' ∧ Fr w.heap.size w w' := by
  obtain ⟨K, hK⟩ : ∃ K, K = 2 * k := ⟨_, rfl⟩
  have hK8 : K ≤ 8 := by omega
  have hK2 : 2 ≤ K := by omega
  have hwK : IntKind.i64.wrap (2 * (k : Int)) = K := by rw [IntKind.wrap_i64]; omega
  have hmm := @run_makeMap Try.prog
  have HVN := Lib.hid hVN
  have HNX := Lib.hid hnx
  have HJB := Lib.hid hJb
  have HCLO := Lib.hid hclo
  have HVS := Lib.hid hs
  have hsN := hVN start hs
  clear hVN hnx hJb hclo hs
  rw [← hK] at HCLO ⊢
  clear hK hk1
  obtain ⟨w0, hw0⟩ : ∃ w0, w0 = ((w.alloc (.cells #[.int .i64 0, .slice none 0 0] 25)).alloc (.cells #[.int .i64 k, .slice none 0 0] 25)) := ⟨_, rfl⟩
  have hw0s : w0.heap.size = w.heap.size + 1 + 1 := by rw [hw0]; simp
  obtain ⟨w1, hupd, hm1, hg1⟩ := (MapI.new w0).update (n := 0) (by omega) (k := start) (by omega) (v := 0) (by decide)
  rw [hw0s, hw0] at hupd
  rw [hw0s] at hm1 hg1
  have hb0 : Below w.heap.size w w0 := by rw [hw0]; exact ((Below.refl _ w).alloc (Nat.le_refl _) _).alloc (by simp) _
  have hb1 : Below w.heap.size w w1 := (hb0.alloc (by omega) (.map #[] 0)).grown hg1 (by simp; omega) (fun k e => by cases e; omega)
  have hz0 : Blk w0 w.heap.size 25 [.int .i64 0, .slice none 0 0] := by rw [hw0]; exact (Blk.new w 25 [.int .i64 0, .slice none 0 0]).alloc _
  have hx0 : Blk w0 (w.heap.size + 1) 25 [.int .i64 k, .slice none 0 0] := by
    rw [hw0]
    have := Blk.new (w.alloc (.cells #[.int .i64 0, .slice none 0 0] 25)) 25 [.int .i64 k, .slice none 0 0]
    simpa using this
  have hz1 := (hz0.alloc (.map #[] 0)).grown hg1 (fun e => by have := Option.some.inj e; omega)
  have hx1 := (hx0.alloc (.map #[] 0)).grown hg1 (fun e => by have := Option.some.inj e; omega)
  have hfm : (fun j => if j = start then some (0 : Int) else (fun _ => none) j) = fun u => (posOf u [start]).map fun (m : Nat) => (m : Int) := by
    funext u
    show _ = Option.map _ (if start = u then some 0 else Option.map _ none)
    by_cases e : u = start
    · subst e; simp
    · rw [if_neg e, if_neg (fun h => e h.symm)]; rfl
  have hm1' : MapI w1 (w.heap.size + 1 + 1) 1 (fun u => (posOf u [start]).map fun (m : Nat) => (m : Int)) := by rw [← hfm]; exact hm1
  have hs1 := hb1.size
  obtain ⟨w2, hw2⟩ : ∃ w2, w2 = w1.alloc (.cells (I64s [(start : Int)]).toArray 3) := ⟨_, rfl⟩
  have hb2 : Below w.heap.size w w2 := by rw [hw2]; exact hb1.alloc hs1 _
  have hr2 : Fr w.heap.size w w2 := Fr.of_below hb2
  have hz2 : Blk w2 w.heap.size 25 [.int .i64 0, .slice none 0 0] := by rw [hw2]; exact hz1.alloc _
  have hn2 : NumS w2 w.heap.size (w.heap.size + 1) (w.heap.size + 1 + 1) w1.heap.size 1 1 k [start] [] (.slice none 0 0) (fun _ => True) :=
    ⟨by omega, by omega, by rw [hw2]; exact hx1.alloc _, by rw [hw2]; exact (Blk.new w1 3 (I64s [(start : Int)])).own hs1 (by simp), by rw [hw2]; exact hm1'.congr (Below.heap_alloc _ _ _ hm1'.lt), RowsAt.nil _ _ _⟩
  have HN := Lib.hid hn2
  have HZ := Lib.hid hz2
  have HJ := Lib.hid (HJB.out w w2 hJ hb2)
  have HR := Lib.hid hr2
  have HD : Hid ([start].Nodup ∧ ∀ x ∈ [start], V x) := Lib.hid ⟨by simp, fun x hx => by rw [List.mem_singleton.1 hx]; exact HVS.out⟩
  have hob : w1.heap.size < w2.heap.size := by rw [hw2]; simp
  clear hfm hm1' hm1 hg1 hz0 hx0 hz1 hx1 hb0 hb1 hn2 hz2 hr2 hb2 hw0s hJ
  go_enter Try.func107, Try.ntmps107
  go_wp2_with fail
  change Code.wp _ _ _ _ (w1.alloc (.cells (I64s [(start : Int)]).toArray 3))
  rw [← hw2]
  generalize w1.heap.size = o1 at *
  clear hupd hmm hw2 hw0 w0 w1
  go_loopw [12, 11] (fun iv ov wr => ∃ (i : Nat) (l : List Nat) (g : List (List Int)) (ob oc n : Nat) (rv : Value), i ≤ l.length ∧ iv = .int .i64 i ∧ ov = .slice (some ⟨ob, 0, none⟩) l.length oc ∧ Hid (l.Nodup ∧ ∀ x ∈ l, V x) ∧ Hid (g.length = i) ∧ Hid (n ≤ l.length) ∧
    Hid (numN nx (List.range K) N 0 [start] [] = numN nx (List.range K) (N - i) i l g) ∧ Hid (NumS wr w.heap.size (w.heap.size + 1) (w.heap.size + 1 + 1) ob oc n k l g rv (fun _ => True)) ∧ Hid (Blk wr w.heap.size 25 [.int .i64 0, .slice none 0 0]) ∧ Hid (J wr) ∧ Hid (Fr w.heap.size w wr)) (fun iv _ _ => N - (intOf iv).toNat)
  case atStart => exact ⟨0, [start], [], o1, 1, 1, .slice none 0 0, by simp, rfl, rfl, HD, Lib.hid rfl, Lib.hid (by simp), Lib.hid rfl, HN, HZ, HJ, HR⟩
  case round =>
    clear HN HZ HJ HR HD
    obtain ⟨i, l, g, ob, oc, n, rv, hi, rfl, rfl, HD, HG, HNN, HNU, HN, HZ, HJ, HR⟩ := hrel
    have hll : l.length ≤ N := nodup_len HD.out.1 (fun x hx => HVN.out x (HD.out.2 x hx))
    by_cases hlt : i < l.length
    · obtain ⟨v, hv⟩ : ∃ v, l[i]? = some v := ⟨_, List.getElem?_eq_getElem hlt⟩
      have hvV := HD.out.2 v (List.mem_of_getElem? hv)
      have HV := Lib.hid hv
      have HVV := Lib.hid hvV
      clear hv hvV
      go_upto_region 8 with (at_make; refine wpList_makeV Try.info3 Try.underlying54 rfl rfl _ _ rfl K rfl rfl (by omega) (by omega) (by omega) (by omega) ?_; intro wm hbm hBm hsm)
      have hnm : NumS wm w.heap.size (w.heap.size + 1) (w.heap.size + 1 + 1) ob oc n k l g rv (fun b => b ≠ wr.heap.size) := HN.out.kept (fun b hb _ => by omega) (fun i _ h2 => hBm.block i h2)
      have hzm := HZ.out.keep hBm
      have hJm := HJB.out wr wm HJ.out (hBm.mono HR.out.size)
      have hRm := HR.out.trans (Fr.of_below (B := w.heap.size) hBm)
      have hobl := HN.out.oB.2
      have hrs := HR.out.size
      obtain ⟨rb, hrb⟩ : ∃ rb, wr.heap.size = rb := ⟨_, rfl⟩
      rw [hrb] at hnm hbm hobl hrs ⊢
      have hbm' : Blk wm rb 3 (I64s ([] ++ List.replicate (K - 0) 0)) := by
        have e : I64s ([] ++ List.replicate (K - 0) 0) = List.replicate K (.int .i64 0) := by simp [I64s]
        rw [e]; exact hbm
      have hrow : rowN nx v (List.range K) l [] = rowN nx v (List.range' 0 (K - 0)) l [] := by rw [List.range_eq_range', Nat.sub_zero]
      have HNM := Lib.hid hnm
      have HZM := Lib.hid hzm
      have HJM := Lib.hid hJm
      have HRM := Lib.hid hRm
      have HBM := Lib.hid hbm'
      have HRW := Lib.hid hrow
      have HRO : Hid (rb ≠ ob) := Lib.hid (by omega)
      have HRS := Lib.hid hrs
      clear hnm hzm hJm hRm hbm hbm' hrow hobl hBm hsm hrb HZ HJ HR hrs
      go_wp2_with fail
      go_loopw [36, 11] (fun pv ov wr => ∃ (p : Nat) (l2 : List Nat) (r : List Int) (ob oc n : Nat), p ≤ K ∧ pv = .int .i64 p ∧ ov = .slice (some ⟨ob, 0, none⟩) l2.length oc ∧ Hid (l2.Nodup ∧ ∀ x ∈ l2, V x) ∧ Hid (n ≤ l2.length) ∧ Hid (rowN nx v (List.range K) l [] = rowN nx v (List.range' p (K - p)) l2 r) ∧ Hid (r.length = p) ∧
        Hid (NumS wr w.heap.size (w.heap.size + 1) (w.heap.size + 1 + 1) ob oc n k l2 g rv (fun b => b ≠ rb)) ∧ Hid (Blk wr rb 3 (I64s (r ++ List.replicate (K - p) 0))) ∧ Hid (rb ≠ ob) ∧ Hid (l2[i]? = some v) ∧ Hid (Blk wr w.heap.size 25 [.int .i64 0, .slice none 0 0]) ∧ Hid (J wr) ∧ Hid (Fr w.heap.size w wr)) (fun pv _ _ => K - (intOf pv).toNat)
      case atStart => exact ⟨0, l, [], ob, oc, n, by omega, rfl, rfl, HD, HNN, HRW, Lib.hid rfl, HNM, HBM, HRO, HV, HZM, HJM, HRM⟩
      case round =>
        clear HNM HBM HRO HZM HJM HRM HRW
        obtain ⟨p, l2, r, ob2, oc2, n2, hp, rfl, rfl, HD2, HN2, HROW, HRL, HNS, HRB, HRO, HVI, HZ, HJ, HR⟩ := hrel
        have hil := (List.getElem?_eq_some_iff.1 HVI.out).1
        have hll2 : l2.length ≤ N := nodup_len HD2.out.1 (fun x hx => HVN.out x (HD2.out.2 x hx))
        have hvN := HVN.out v HVV.out
        by_cases hlp : p < K
        · obtain ⟨hb0, hc0, e', hhb, hhl, hh1, hh2, hfr, hcs⟩ := HNS.out.ord.open (by omega)
          obtain ⟨rfl, rfl⟩ : ob2 = hb0 ∧ oc2 = hc0 := by simpa using e'
          have cI := hcs i (v : Int) (by rw [List.getElem?_map, HVI.out]; rfl)
          have i0 : (0 : Int) ≤ i := by omega
          have i1 : (i : Int) < l2.length := by omega
          have hrc := rest_cons hlp
          have hrow2 := HROW.out
          rw [hrc, rowN] at hrow2
          have HCL := Lib.hid (HCLO.out wr HJ.out HR.out.size v p HVV.out hlp)
          clear e' hcs hfr hrc HROW
          go_upto_region 12 with (refine HCL.out.mono ?_; rintro e w2 ⟨rfl, hJ2, hF2⟩)
          have hns := HNS.out.congr (fun i h1 h2 => hF2.block i h1 h2)
          have hrbk : Blk w2 rb 3 (I64s (r ++ List.replicate (K - p) 0)) := (hF2.block rb HRS.out HRB.out.lt).trans HRB.out
          have hzz : Blk w2 w.heap.size 25 [.int .i64 0, .slice none 0 0] := (hF2.block _ (Nat.le_refl _) HZ.out.lt).trans HZ.out
          have hRR := HR.out.trans hF2
          have cR := hrbk.cell (row_at HRL.out hlp)
          have fR := hrbk.free p
          have p0 : (0 : Int) ≤ p := by omega
          have p1 : (p : Int) < K := by omega
          have hsz := hRR.size
          clear HNS HRB HZ HJ HR HCL cI
          cases hnv : nx v p with
          | none =>
            rw [hnv] at hrow2
            simp only at hrow2
            simp only [optI]
            have G1 := Lib.hid (hns.setR hrbk HRO.out p (.int .i64 (-1)))
            have G2 : Hid (Blk (w2.setCell ⟨rb, p, none⟩ (.int .i64 (-1))) rb 3 (I64s ((r ++ [-1]) ++ List.replicate (K - (p + 1)) 0))) := Lib.hid (by rw [← row_put HRL.out hlp]; exact hrbk.set p _)
            have hbl : Below w.heap.size w2 (w2.setCell ⟨rb, p, none⟩ (.int .i64 (-1))) := (Below.refl _ _).setCell HRS.out _
            have GZ : Hid (Blk (w2.setCell ⟨rb, p, none⟩ (.int .i64 (-1))) w.heap.size 25 [.int .i64 0, .slice none 0 0]) := Lib.hid (row_blk_other hzz hrbk (by decide) p _)
            have GJ := Lib.hid (HJB.out _ _ hJ2 hbl)
            have GR := Lib.hid (Fr.put hRR hbl)
            have GROW := Lib.hid hrow2
            clear hns hrbk hzz hRR hJ2 hF2 hrow2 hbl hnv
            go_wp2_with fail
            go_roundw
            case rel => exact ⟨p + 1, l2, r ++ [-1], ob2, oc2, n2, by omega, by go_num, rfl, HD2, HN2, GROW, Lib.hid (by simp [HRL.out]), G1, G2, HRO, HVI, GZ, GJ, GR⟩
            case measure => simp [intOf]; omega
          | some u =>
            rw [hnv] at hrow2
            simp only at hrow2
            simp only [optI]
            have huV := HNX.out v p u HVV.out hnv
            have huN := HVN.out u huV
            have hneq : ¬ ((u : Int) = -1) := by omega
            cases hpo : posOf u l2 with
            | some m =>
              rw [hpo] at hrow2
              simp only at hrow2
              have hlk := hns.map.look2 (k := u) (by omega)
              simp only [hpo, Option.map_some, Option.getD_some, Option.isSome_some] at hlk
              have hml := posOf_lt hpo
              have G1 := Lib.hid (hns.setR hrbk HRO.out p (.int .i64 m))
              have G2 : Hid (Blk (w2.setCell ⟨rb, p, none⟩ (.int .i64 m)) rb 3 (I64s ((r ++ [(m : Int)]) ++ List.replicate (K - (p + 1)) 0))) := Lib.hid (by rw [← row_put HRL.out hlp]; exact hrbk.set p _)
              have hbl : Below w.heap.size w2 (w2.setCell ⟨rb, p, none⟩ (.int .i64 m)) := (Below.refl _ _).setCell HRS.out _
              have GZ : Hid (Blk (w2.setCell ⟨rb, p, none⟩ (.int .i64 m)) w.heap.size 25 [.int .i64 0, .slice none 0 0]) := Lib.hid (row_blk_other hzz hrbk (by decide) p _)
              have GJ := Lib.hid (HJB.out _ _ hJ2 hbl)
              have GR := Lib.hid (Fr.put hRR hbl)
              have GROW := Lib.hid hrow2
              clear hns hrbk hzz hRR hJ2 hF2 hrow2 hbl hnv hpo huV
              go_wp2_with fail
              go_roundw
              case rel => exact ⟨p + 1, l2, r ++ [(m : Int)], ob2, oc2, n2, by omega, by go_num, rfl, HD2, HN2, GROW, Lib.hid (by simp [HRL.out]), G1, G2, HRO, HVI, GZ, GJ, GR⟩
              case measure => simp [intOf]; omega
            | none =>
              rw [hpo] at hrow2
              simp only at hrow2
              have hnotin := posOf_none.1 hpo
              have hlk := hns.map.look2 (k := u) (by omega)
              simp only [hpo, Option.map_none, Option.getD_none, Option.isSome_none] at hlk
              obtain ⟨w3, hupd, hm3, hg3⟩ := hns.map.update (n := n2) (by have := HN2.out; omega) (k := u) (by omega) (v := (l2.length : Int)) (WalkArith.wf_i64 (by omega))
              have hb3 : Below w.heap.size w2 w3 := (Below.refl _ _).grown hg3 hsz (fun k e => by cases e; omega)
              have hb4 : Below w.heap.size w2 (w3.alloc (.cells (I64s [(u : Int)]).toArray 3)) := hb3.alloc (by have := hb3.size; omega) _
              have hord := World.ownsRow.keep (hns.mapped hg3).2.1 ((Below.refl w3.heap.size w3).alloc (Nat.le_refl _) (.cells (I64s [(u : Int)]).toArray 3))
              have hmm3 := hm3.congr (Below.heap_alloc w3 (.cells (I64s [(u : Int)]).toArray 3) _ hm3.lt)
              have hf : ∀ x, (fun j => if j = u then some (l2.length : Int) else (fun u => (posOf u l2).map fun (m : Nat) => (m : Int)) j) x = (posOf x (l2 ++ [u])).map fun (m : Nat) => (m : Int) := by
                intro x
                rw [posOf_snoc x hnotin]
                by_cases e : x = u
                · simp [e]
                · simp [e]
              have hrb4 := (hrbk.grown hg3 (fun e => map_nb hns.map hrbk (Option.some.inj e))).alloc (.cells (I64s [(u : Int)]).toArray 3)
              have hz4 := (hzz.grown hg3 (fun e => map_nb hns.map hzz (Option.some.inj e))).alloc (.cells (I64s [(u : Int)]).toArray 3)
              have HB4 := Lib.hid hb4
              have HORD := Lib.hid hord
              have HBS : Hid (w.heap.size ≤ (w3.alloc (.cells (I64s [(u : Int)]).toArray 3)).heap.size) := Lib.hid (by have := hb4.size; omega)
              have HNS := Lib.hid hns
              have HMM := Lib.hid hmm3
              have HF := Lib.hid hf
              have HG3 := Lib.hid (grown_alloc hg3 (.cells (I64s [(u : Int)]).toArray 3))
              have HRB4 := Lib.hid hrb4
              have HZ4 := Lib.hid hz4
              have HJ2 := Lib.hid hJ2
              have HRR := Lib.hid hRR
              have HROW := Lib.hid hrow2
              have HNI := Lib.hid hnotin
              have HUV := Lib.hid huV
              clear hb3 hb4 hord hmm3 hf hrb4 hz4 hns hrbk hzz hg3 hm3 hrow2 hRR hJ2 hF2 hnv hpo hnotin huV cR fR
              go_upto_region 19 with (at_builtin; refine wpList_appK Try.info3 rfl (by decide) (by decide) Try.underlying54 HORD.out (by omega) rfl (.tmp 65) (.tmp 67) rfl (by simp [Act.eval]) (by simp [Act.eval]) (Blk.new w3 3 (I64s [(u : Int)])) rfl HBS.out _ rfl ?_; intro g6 cap6 w6 hown6 hgrow6 hat6 hlt6)
              have hns6 := HNS.out.more HMM.out HF.out HG3.out hown6 hgrow6 (hat6.imp (fun e => Option.some.inj e) (fun e => Nat.le_of_eq e.symm))
              have hrb6 := HRB4.out.grown hgrow6 (fun e => HRO.out (Option.some.inj e))
              have hz6 := HZ4.out.grown hgrow6 (row_blk HORD.out HZ4.out (by decide))
              have hobB := HNS.out.oB.1
              have hb6 : Below w.heap.size w2 w6 := HB4.out.grown hgrow6 HBS.out (fun k e => by cases e; exact hobB)
              have hro6 : rb ≠ g6 := by
                rcases hat6 with e | e
                · intro e2; exact HRO.out (by rw [e2]; exact (Option.some.inj e).symm)
                · exact fun e2 => absurd HRB4.out.lt (by rw [e2, e]; exact Nat.lt_irrefl _)
              have cR := hrb6.cell (row_at HRL.out hlp)
              have fR := hrb6.free p
              have hd6 : (l2 ++ [u]).Nodup ∧ ∀ x ∈ l2 ++ [u], V x := by
                refine ⟨List.nodup_append.2 ⟨HD2.out.1, by simp, fun a ha b hb => ?_⟩, fun x hx => ?_⟩
                · rintro rfl
                  rw [List.mem_singleton] at hb
                  exact HNI.out (by rw [← hb]; exact ha)
                · rcases List.mem_append.1 hx with h | h
                  · exact HD2.out.2 x h
                  · rw [List.mem_singleton.1 h]; exact HUV.out
              have hvi6 : (l2 ++ [u])[i]? = some v := by rw [List.getElem?_append_left hil]; exact HVI.out
              have G1 := Lib.hid (hns6.setR hrb6 hro6 p (.int .i64 (l2.length : Int)))
              have G2 : Hid (Blk (w6.setCell ⟨rb, p, none⟩ (.int .i64 (l2.length : Int))) rb 3 (I64s ((r ++ [(l2.length : Int)]) ++ List.replicate (K - (p + 1)) 0))) := Lib.hid (by rw [← row_put HRL.out hlp]; exact hrb6.set p _)
              have hbl : Below w.heap.size w2 (w6.setCell ⟨rb, p, none⟩ (.int .i64 (l2.length : Int))) := hb6.setCell HRS.out _
              have GZ : Hid (Blk (w6.setCell ⟨rb, p, none⟩ (.int .i64 (l2.length : Int))) w.heap.size 25 [.int .i64 0, .slice none 0 0]) := Lib.hid (row_blk_other hz6 hrb6 (by decide) p _)
              have GJ := Lib.hid (HJB.out _ _ HJ2.out hbl)
              have GR := Lib.hid (Fr.put HRR.out hbl)
              have GD := Lib.hid hd6
              have GVI := Lib.hid hvi6
              have GRO := Lib.hid hro6
              have GN : Hid (n2 + 1 ≤ (l2 ++ [u]).length) := Lib.hid (by rw [List.length_append, List.length_singleton]; have := HN2.out; omega)
              clear hns6 hrb6 hz6 hb6 hbl hd6 hvi6 hro6 hown6 hgrow6 hat6 hlt6 HNS HMM HF HG3 HRB4 HZ4 HJ2 HRR HB4 HORD HBS hobB
              go_wp2_with fail
              go_roundw
              case rel => exact ⟨p + 1, l2 ++ [u], r ++ [(l2.length : Int)], g6, cap6, n2 + 1, by omega, by go_num, by rw [List.length_append, List.length_singleton], GD, GN, HROW, Lib.hid (by simp [HRL.out]), G1, G2, GRO, GVI, GZ, GJ, GR⟩
              case measure => simp [intOf]; omega
        · have hpK : p = K := by omega
          subst hpK
          have hrowE := HROW.out
          rw [Nat.sub_self] at hrowE
          have hrbk := HRB.out
          rw [Nat.sub_self, List.replicate_zero, List.append_nil] at hrbk
          have hnum := HNU.out
          rw [show N - i = (N - (i + 1)) + 1 by omega, numN, HV.out] at hnum
          simp only at hnum
          rw [hrowE] at hnum
          have hnumE : numN nx (List.range p) N 0 [start] [] = numN nx (List.range p) (N - (i + 1)) (i + 1) l2 (g ++ [r]) := hnum
          obtain ⟨wx, hwx⟩ : ∃ wx, wx = wr.alloc (.cells #[.slice (some ⟨rb, 0, none⟩) p p] 54) := ⟨_, rfl⟩
          have hbx : Below w.heap.size wr wx := by rw [hwx]; exact (Below.refl _ _).alloc HR.out.size _
          have hnx := HNS.out.congr (w2 := wx) (fun i _ h2 => by rw [hwx]; exact Below.heap_alloc _ _ _ h2)
          have hrx : Blk wx rb 3 (I64s r) := by rw [hwx]; exact hrbk.alloc _
          have hzx : Blk wx w.heap.size 25 [.int .i64 0, .slice none 0 0] := by rw [hwx]; exact HZ.out.alloc _
          have hlx : Blk wx wr.heap.size 54 [.slice (some ⟨rb, 0, none⟩) p p] := by rw [hwx]; exact Blk.new _ _ _
          obtain ⟨vs, hvo, hvv⟩ := id hnx.rows
          have cb := HNS.out.box.cell (j := 1) rfl
          have hgl : g.length = i := HG.out
          have hbxs := hbx.size
          have hrs := HR.out.size
          have HNX2 := Lib.hid hnx
          have HRX := Lib.hid hrx
          have HZX := Lib.hid hzx
          have HLX := Lib.hid hlx
          have HVO := Lib.hid hvo
          have HVX := Lib.hid hvv
          have HBX := Lib.hid hbx
          have HNE := Lib.hid hnumE
          clear hnx hrx hzx hlx hvo hvv hbx hnum hnumE hrowE hrbk HROW HRB HNS HZ
          go_wp2_with (at_builtin; rw [← hwx]; refine wpList_appV Try.info54 rfl (by decide) Try.underlying23 HVO.out (by omega) rfl (.tmp 75) (.tmp 77) rfl (by simp [Act.eval]) (by simp [Act.eval]) HLX.out rfl (by omega) _ rfl ?_; intro g6 cap6 w6 hown6 hgrow6 hat6 hlt6; have hb6 := HNX2.out.box.grown hgrow6 (row_blk HVO.out HNX2.out.box (by decide)); have c6 := hb6.cell (j := 1) rfl; have f6 := hb6.free 1)
          have hrl : r.length = p := HRL.out
          have hvx : ∀ (j : Nat) (s : List Int), g[j]? = some s → ∃ u, vs[j]? = some u ∧ OwnK wx w.heap.size 3 1 u s.length s ∧ ∀ b, u.ownBlock = some b → b ≠ ob2 ∧ b ≠ rb := HVX.out
          rw [← hrl] at hown6
          have hn6 := HNX2.out.rowed HRX.out HRS.out (by omega) HRO.out hvx HVO.out hown6 hgrow6
          have hz6 := (HZX.out.grown hgrow6 (row_blk HVO.out HZX.out (by decide))).other (a := ⟨w.heap.size + 1, 1, none⟩) (by show w.heap.size ≠ w.heap.size + 1; omega) (.slice (some ⟨g6, 0, none⟩) (g.length + 1) cap6)
          have hvB := World.ownsRow.lt HVO.out
          have hs6 : Below w.heap.size wr w6 := HBX.out.grown hgrow6 (by omega) (fun k e => (hvB k e).1)
          have hbl := hs6.setCell (p := ⟨w.heap.size + 1, 1, none⟩) (by show w.heap.size ≤ w.heap.size + 1; omega) (.slice (some ⟨g6, 0, none⟩) (g.length + 1) cap6)
          rw [hgl] at hn6 hz6 hbl
          have G1 := Lib.hid hn6
          have GZ := Lib.hid hz6
          have GJ := Lib.hid (HJB.out _ _ HJ.out hbl)
          have GR := Lib.hid (Fr.put HR.out hbl)
          clear hn6 hz6 hs6 hbl hvB hown6 hgrow6 hat6 hlt6 hb6
          go_roundw
          case rel => exact ⟨i + 1, l2, g ++ [r], ob2, oc2, n2, _, by omega, by go_num, rfl, HD2, Lib.hid (by simp [hgl]), HN2, HNE, G1, GZ, GJ, GR⟩
          case measure => simp [intOf]; omega
    · have hiE : i = l.length := by omega
      have hnone : l[i]? = none := List.getElem?_eq_none (by omega)
      have hnum := HNU.out
      rw [numN_end hnone] at hnum
      have c0 := HN.out.box.cell (j := 0) rfl
      have c1 := HN.out.box.cell (j := 1) rfl
      have d0 := HZ.out.cell (j := 0) rfl
      have d1 := HZ.out.cell (j := 1) rfl
      have f0 := HZ.out.free 0
      have f1 := HZ.out.free 1
      have hz1 := HZ.out.set 0 (.int .i64 k)
      have hrv1 : rv.oneCell' = true := by
        obtain ⟨us, r1, _⟩ := HN.out.rows
        rcases r1.2 with ⟨rfl, _⟩ | ⟨_, _, _, rfl, _⟩ <;> rfl
      have e1 := hz1.cell (j := 1) rfl
      have g1 := hz1.free 1
      have hz2 := hz1.set 1 rv
      have hrow := (HN.out.rows.other HZ.out (by decide) (by decide) 0 (.int .i64 k)).other hz1 (by decide) (by decide) 1 rv
      have hbl : Below w.heap.size wr ((wr.setCell ⟨w.heap.size, 0, none⟩ (.int .i64 k)).setCell ⟨w.heap.size, 1, none⟩ rv) := ((Below.refl w.heap.size wr).setCell (p := ⟨w.heap.size, 0, none⟩) (Nat.le_refl w.heap.size) _).setCell (p := ⟨w.heap.size, 1, none⟩) (Nat.le_refl w.heap.size) _
      have G1 := Lib.hid hrow
      have G2 := Lib.hid hz2
      have GJ := Lib.hid (HJB.out _ _ HJ.out hbl)
      have GR := Lib.hid (Fr.put HR.out hbl)
      have HNUM := Lib.hid hnum
      have HRV : Hid (∀ x ∈ [Value.int .i64 k, rv], x.oneCell' = true) := Lib.hid (by
        intro x hx
        rcases List.mem_cons.1 hx with rfl | hx
        · rfl
        · rw [List.mem_singleton.1 hx]; exact hrv1)
      clear hrow hz2 hbl hnum hnone HNU hz1 e1 g1 hrv1
      go_wp2_with (with_reducible show wpList _ _ _ (Oper.mk _ (Op.store 25 _ _) _ _ _ _ :: _) _ _; (refine wpList_storeB (vs := [.int .i64 k, rv]) HZ.out Try.size25 rfl rfl HRV.out rfl _ _ rfl rfl rfl ?_))
      exact bodyPost_ret (ret107 (M := [.int .i64 k, rv]) rfl rfl G2.out) rfl ⟨rv, rfl, by rw [HNUM.out]; exact G1.out.congr (fun _ _ _ _ => rfl) (fun _ _ _ => trivial), GJ.out, GR.out⟩
end Go.Proofs.Ytlooclpfoeakgaa

/- Where an edge of the folded graph leads: the walks. -/
namespace Go.Proofs.Ytlooclpfoeakgaa
open Go.RowKit

/-- where an edge leads, for any vertex -/
def nxR (x : FS) (v p : Nat) : Option Nat := (x.has v p).map x.R
theorem nxR_root {x : FS} {v p : Nat} (h : x.R v = v) : nxR x v p = nxF x v p := by unfold nxR nxF; rw [if_pos h]
/-- a folder in memory, with a box in which its address lies -/
structure FB (w : World) (base g kk c : Nat) (x : FS) (d : Nat → Nat) (uv hv tv : Value) : Prop where
  mem : ∃ up, FM w base g kk x up uv hv tv ∧ UF x.n up x.R d
  box : Blk w c 91 [.pointer (some ⟨g, 0, none⟩)]
theorem FB.keep {w w6 : World} {base g kk c : Nat} {x : FS} {d : Nat → Nat} {uv hv tv : Value} (h : FB w base g kk c x d uv hv tv) (hb : Below w.heap.size w w6) : FB w6 base g kk c x d uv hv tv :=
  let ⟨up, h1, h2⟩ := h.mem; ⟨⟨up, h1.keep hb, h2⟩, h.box.keep hb⟩
theorem FB.after {w w6 : World} {base g kk c : Nat} {x : FS} {d : Nat → Nat} {uv hv tv : Value} (h : FB w base g kk c x d uv hv tv) {up : Nat → Nat} (h1 : FM w6 base g kk x up uv hv tv) (h2 : UF x.n up x.R d) (hf : Frm w w6 g uv hv tv uv hv tv) : FB w6 base g kk c x d uv hv tv :=
  let ⟨_, h3, _⟩ := h.mem
  ⟨⟨up, h1, h2⟩, hf.blkOf h3.parts h.box (by decide) (by decide) (by decide) (by decide)⟩

set_option maxRecDepth 100000 in
set_option maxHeartbeats 4000000 in
theorem next_any (w : World) (base g kk c : Nat) (x : FS) (d : Nat → Nat) (uv hv tv : Value) (v p : Nat) (h : FB w base g kk c x d uv hv tv) (hbd : ∀ v p t, x.has v p = some t → t < x.n) (hn : x.n ≤ 1000000) (hvn : v < x.n) (hp : p < 8) :
    Calls Try.prog 106 #[.int .i64 v, .int .i64 p, .pointer (some ⟨c, 0, none⟩)] w fun e w' => e = .returned (.int .i64 (optI (nxR x v p))) ∧ FB w' base g kk c x d uv hv tv ∧ Frm w w' g uv hv tv uv hv tv := by
  obtain ⟨up, hM, hU⟩ := h.mem
  have hh := hM.hass
  obtain ⟨hb0, hc0, rfl, hhb, hhl, hh1, hh2, hfr, hcs⟩ := hh.open (by omega)
  have c1 := hM.blk.cell (j := 1) rfl
  have cc := h.box.cell (j := 0) rfl
  have cA := hcs _ _ (hasL_get hvn hp)
  have i1 : (0 : Int) ≤ v := by omega
  have i2 : (v : Int) < x.n := by omega
  have i3 : (0 : Int) ≤ p := by omega
  have i4 : (p : Int) < 8 := by omega
  have HB := Lib.hid h
  have HM := Lib.hid hM
  have HU := Lib.hid hU
  have HBD := Lib.hid hbd
  clear h hM hU hh hcs hfr hbd
  cases hx : x.has v p with
  | none =>
    have hnx : nxR x v p = none := by unfold nxR; rw [hx]; rfl
    rw [hnx]
    rw [hx] at cA
    replace cA : w.cell? ⟨hb0, v * 8 + p, none⟩ = some (.int .i64 (-1)) := cA
    clear hx hnx
    go_enter Try.func106, Try.ntmps106
    go_wp2_with fail
    go_ret
    exact ⟨rfl, HB.out, Frm.refl _ _ _ _ _⟩
  | some t =>
    have hnx : nxR x v p = some (x.R t) := by unfold nxR; rw [hx]; rfl
    rw [hnx]
    rw [hx] at cA
    replace cA : w.cell? ⟨hb0, v * 8 + p, none⟩ = some (.int .i64 t) := cA
    have ht := HBD.out v p t hx
    have HX := Lib.hid hx
    have hrt := rootOf_any w base g kk x up x.R d uv (.slice (some ⟨hb0, 0, none⟩) x.n hc0) tv t HM.out HU.out ht (by omega)
    have HRT := Lib.hid hrt
    clear hx hnx hrt
    go_enter Try.func106, Try.ntmps106
    go_wp2_with (go_at_call 105; refine HRT.out.mono ?_; rintro e w2 ⟨rfl, up2, hM2, hU2, hF2⟩)
    go_ret
    exact ⟨rfl, HB.out.after hM2 hU2 hF2, hF2⟩

/-! ### the same, without what is gone -/
def funcN (c : Nat) : Value := .func (.func 106) #[] #[.pointer (some ⟨c, 0, none⟩)]
def nxH (x : FS) (G : Nat → Bool) (v p : Nat) : Option Nat := (nxR x v p).bind fun t => if G t then none else some t
theorem mapB_ne {w : World} {base : Nat} {e : TypeId} {s : Nat} {v : Value} {n mb m : Nat} {xs : List Value} {f : Nat → Bool} (h1 : w.ownsRow base e s v n xs) (h2 : MapB w mb m f) {b : Nat} (hb : v.ownBlock = some b) : b ≠ mb := by
  rintro rfl
  obtain ⟨D, ⟨es, clock, h3, _⟩, _⟩ := h2
  rcases h1.2 with ⟨rfl, _⟩ | ⟨g1, cap, cur, rfl, _, hg, _⟩
  · cases hb
  · cases hb
    rw [hg] at h3; cases h3
theorem mapB_nb {w : World} {mb m g : Nat} {e : TypeId} {vs : List Value} {f : Nat → Bool} (h2 : MapB w mb m f) (h1 : Blk w g e vs) : g ≠ mb := by
  rintro rfl
  obtain ⟨D, ⟨es, clock, h3, _⟩, _⟩ := h2
  rw [Blk] at h1
  rw [h1] at h3; cases h3
theorem Frm.mapB {w w' : World} {base g kk nu nh nt : Nat} {us hs ts : List Int} {u h t u1 h1 t1 : Value} (a : Frm w w' g u h t u1 h1 t1) (hz : FZ w base g kk nu us nh hs nt ts u h t) {mb m : Nat} {f : Nat → Bool} (hm : MapB w mb m f) : MapB w' mb m f :=
  hm.congr (a.block mb hm.lt (fun e => mapB_nb hm hz.blk e.symm) (fun e => mapB_ne hz.ups hm e.symm rfl) (fun e => mapB_ne hz.hass hm e.symm rfl) (fun e => mapB_ne hz.todos hm e.symm rfl))
theorem Frm.mapI {w w' : World} {base g kk nu nh nt : Nat} {us hs ts : List Int} {u h t u1 h1 t1 : Value} (a : Frm w w' g u h t u1 h1 t1) (hz : FZ w base g kk nu us nh hs nt ts u h t) {mb m : Nat} {f : Nat → Option Int} (hm : MapI w mb m f) : MapI w' mb m f :=
  hm.congr (a.block mb hm.lt (fun e => map_nb hm hz.blk e.symm) (fun e => map_ne hz.ups hm e.symm rfl) (fun e => map_ne hz.hass hm e.symm rfl) (fun e => map_ne hz.todos hm e.symm rfl))
/-- what the second closure sees -/
structure GB (w : World) (base g kk c c5 c10 mb nb : Nat) (x : FS) (d : Nat → Nat) (uv hv tv : Value) (G : Nat → Bool) : Prop where
  fb : FB w base g kk c x d uv hv tv
  fn : Blk w c5 156 [funcN c]
  mp : Blk w c10 129 [.map (some mb)]
  gone : MapB w mb nb G
theorem GB.keep {w w6 : World} {base g kk c c5 c10 mb nb : Nat} {x : FS} {d : Nat → Nat} {uv hv tv : Value} {G : Nat → Bool} (h : GB w base g kk c c5 c10 mb nb x d uv hv tv G) (hb : Below w.heap.size w w6) : GB w6 base g kk c c5 c10 mb nb x d uv hv tv G :=
  ⟨h.fb.keep hb, h.fn.keep hb, h.mp.keep hb, h.gone.congr (hb.block mb h.gone.lt)⟩
theorem GB.after {w w6 : World} {base g kk c c5 c10 mb nb : Nat} {x : FS} {d : Nat → Nat} {uv hv tv : Value} {G : Nat → Bool} (h : GB w base g kk c c5 c10 mb nb x d uv hv tv G) (h1 : FB w6 base g kk c x d uv hv tv) (hf : Frm w w6 g uv hv tv uv hv tv) : GB w6 base g kk c c5 c10 mb nb x d uv hv tv G :=
  let ⟨_, h3, _⟩ := h.fb.mem
  ⟨h1, hf.blkOf h3.parts h.fn (by decide) (by decide) (by decide) (by decide), hf.blkOf h3.parts h.mp (by decide) (by decide) (by decide) (by decide), hf.mapB h3.parts h.gone⟩
set_option maxRecDepth 100000 in
set_option maxHeartbeats 4000000 in
theorem gone_any (w : World) (base g kk c c5 c10 mb nb : Nat) (x : FS) (d : Nat → Nat) (uv hv tv : Value) (G : Nat → Bool) (v p : Nat) (h : GB w base g kk c c5 c10 mb nb x d uv hv tv G) (hbd : ∀ v p t, x.has v p = some t → t < x.n) (hlt : ∀ i, i < x.n → x.R i < x.n) (hn : x.n ≤ 1000000) (hvn : v < x.n) (hp : p < 8) :
    Calls Try.prog 108 #[.int .i64 v, .int .i64 p, .pointer (some ⟨c5, 0, none⟩), .pointer (some ⟨c10, 0, none⟩)] w fun e w' => e = .returned (.int .i64 (optI (nxH x G v p))) ∧ GB w' base g kk c c5 c10 mb nb x d uv hv tv G ∧ Frm w w' g uv hv tv uv hv tv := by
  have HN := Lib.hid (next_any w base g kk c x d uv hv tv v p h.fb hbd hn hvn hp)
  have cf := h.fn.cell (j := 0) rfl
  unfold funcN at cf
  have HG := Lib.hid h
  cases hx : nxR x v p with
  | none =>
    have hnx : nxH x G v p = none := by unfold nxH; rw [hx]; rfl
    rw [hnx]
    rw [hx] at HN
    clear hx hnx h
    go_enter Try.func108, Try.ntmps108
    go_wp2_with (go_at_call 106; refine HN.out.mono ?_; rintro e w2 ⟨rfl, hB2, hF2⟩)
    go_ret
    exact ⟨rfl, HG.out.after hB2 hF2, hF2⟩
  | some t =>
    rw [hx] at HN
    simp only [optI_some] at HN
    have htn : t < x.n := by
      unfold nxR at hx
      rw [Option.map_eq_some_iff] at hx
      obtain ⟨a, h1, rfl⟩ := hx
      exact hlt a (hbd v p a h1)
    cases hg : G t with
    | true =>
      have hnx : nxH x G v p = none := by unfold nxH; rw [hx]; show (if G t then _ else _) = _; rw [if_pos hg]
      rw [hnx]
      clear hx hnx h
      go_enter Try.func108, Try.ntmps108
      go_wp2_with (go_at_call 106; refine HN.out.mono ?_; rintro e w2 ⟨rfl, hB2, hF2⟩; have hG2 := HG.out.after hB2 hF2; have cm := hG2.mp.cell (j := 0) rfl; have hlk := hG2.gone.look (k := t) (by omega); rw [hg] at hlk)
      go_ret
      exact ⟨rfl, hG2, hF2⟩
    | false =>
      have hnx : nxH x G v p = some t := by unfold nxH; rw [hx]; show (if G t then _ else _) = _; rw [hg]; rfl
      rw [hnx, optI_some]
      clear hx hnx h
      go_enter Try.func108, Try.ntmps108
      go_wp2_with (go_at_call 106; refine HN.out.mono ?_; rintro e w2 ⟨rfl, hB2, hF2⟩; have hG2 := HG.out.after hB2 hF2; have cm := hG2.mp.cell (j := 0) rfl; have hlk := hG2.gone.look (k := t) (by omega); rw [hg] at hlk)
      go_ret
      exact ⟨rfl, hG2, hF2⟩
end Go.Proofs.Ytlooclpfoeakgaa

/- Graphs that are lists of edges. Plain laws. -/
namespace Go.Proofs.Ytlooclpfoeakgaa

/-- an edge: from, letter, to -/
abbrev Ed := Nat × Nat × Nat
/-- whether an edge goes out of v by the place p -/
def hitE (v p : Nat) (e : Ed) : Bool := e.2.1 == p / 2 && (if p % 2 = 0 then e.1 == v else e.2.2 == v)
/-- where it leads -/
def endE (p : Nat) (e : Ed) : Nat := if p % 2 = 0 then e.2.2 else e.1
def nxE (l : List Ed) (v p : Nat) : Option Nat := (l.find? (hitE v p)).map (endE p)
/-- there is an edge from v to u by the place p -/
def AtE (l : List Ed) (v p u : Nat) : Prop := ∃ e ∈ l, hitE v p e = true ∧ endE p e = u
/-- no two edges are alike -/
def Det (l : List Ed) : Prop := l.Pairwise fun a b => a.2.1 = b.2.1 → a.1 ≠ b.1 ∧ a.2.2 ≠ b.2.2
theorem nxE_at {l : List Ed} {v p u : Nat} (h : nxE l v p = some u) : AtE l v p u := by
  unfold nxE at h
  rw [Option.map_eq_some_iff] at h
  obtain ⟨e, h1, h2⟩ := h
  exact ⟨e, List.mem_of_find?_eq_some h1, List.find?_some h1, h2⟩
theorem hit_iff {v p : Nat} {e : Ed} : hitE v p e = true ↔ e.2.1 = p / 2 ∧ (p % 2 = 0 → e.1 = v) ∧ (p % 2 ≠ 0 → e.2.2 = v) := by
  unfold hitE
  by_cases hp : p % 2 = 0
  · simp [hp]
  · simp [hp]
theorem Det.uniq {l : List Ed} (hd : Det l) {a b : Ed} (ha : a ∈ l) (hb : b ∈ l) (h1 : a.2.1 = b.2.1) (h2 : a.1 = b.1 ∨ a.2.2 = b.2.2) : a = b := by
  rw [List.mem_iff_getElem] at ha hb
  obtain ⟨i, hi, rfl⟩ := ha
  obtain ⟨j, hj, rfl⟩ := hb
  have hp := List.pairwise_iff_getElem.1 hd
  by_cases e : i = j
  · subst e; rfl
  · exfalso
    rcases Nat.lt_or_gt_of_ne e with h | h
    · have := hp i j hi hj h h1
      rcases h2 with q | q
      · exact this.1 q
      · exact this.2 q
    · have := hp j i hj hi h h1.symm
      rcases h2 with q | q
      · exact this.1 q.symm
      · exact this.2 q.symm
theorem Det.hit {l : List Ed} (hd : Det l) {v p : Nat} {a b : Ed} (ha : a ∈ l) (hb : b ∈ l) (h1 : hitE v p a = true) (h2 : hitE v p b = true) : a = b := by
  rw [hit_iff] at h1 h2
  refine hd.uniq ha hb (h1.1.trans h2.1.symm) ?_
  by_cases hp : p % 2 = 0
  · exact .inl ((h1.2.1 hp).trans (h2.2.1 hp).symm)
  · exact .inr ((h1.2.2 hp).trans (h2.2.2 hp).symm)
theorem nxE_of {l : List Ed} (hd : Det l) {v p u : Nat} (h : AtE l v p u) : nxE l v p = some u := by
  obtain ⟨e, he, h1, h2⟩ := h
  unfold nxE
  cases hf : l.find? (hitE v p) with
  | none => exact absurd h1 (by simpa using List.find?_eq_none.1 hf e he)
  | some x =>
    have := hd.hit (List.mem_of_find?_eq_some hf) he (List.find?_some hf) h1
    rw [this, Option.map_some, h2]
theorem nxE_iff {l : List Ed} (hd : Det l) {v p u : Nat} : nxE l v p = some u ↔ AtE l v p u := ⟨nxE_at, nxE_of hd⟩
theorem xor_half : ∀ p : Nat, p < 52 → (p ^^^ 1) / 2 = p / 2 ∧ ((p ^^^ 1) % 2 = 0 ↔ p % 2 ≠ 0) := by decide
theorem AtE.flip {l : List Ed} {v p u : Nat} (hp : p < 52) (h : AtE l v p u) : AtE l u (p ^^^ 1) v := by
  obtain ⟨e, he, h1, h2⟩ := h
  obtain ⟨x1, x2⟩ := xor_half p hp
  rw [hit_iff] at h1
  refine ⟨e, he, ?_, ?_⟩
  · rw [hit_iff, x1]
    unfold endE at h2
    refine ⟨h1.1, fun q => ?_, fun q => ?_⟩
    · rw [if_neg (x2.1 q)] at h2; exact h2
    · have : p % 2 = 0 := by
        by_cases r : p % 2 = 0
        · exact r
        · exact absurd (x2.2 r) q
      rw [if_pos this] at h2; exact h2
  · unfold endE
    split
    · rename_i q; exact h1.2.2 (x2.1 q)
    · rename_i q
      have : p % 2 = 0 := by
        by_cases r : p % 2 = 0
        · exact r
        · exact absurd (x2.2 r) q
      exact h1.2.1 this
theorem Det.fold {l : List Ed} (hd : Det l) {k : Nat} (hk : k ≤ 26) : FoldP k (nxE l) := by
  intro v p u hp hu
  exact nxE_of hd ((nxE_at hu).flip (by omega))

/-! ### the words that edges spell -/
inductive Walk (k : Nat) (l : List Ed) : Nat → List UInt8 → Nat → Prop
  | nil (a : Nat) : Walk k l a [] a
  | cons {a b d : Nat} {c : UInt8} {w : List UInt8} : letter c.toNat = true → placeB c < 2 * k → AtE l a (placeB c) b → Walk k l b w d → Walk k l a (c :: w) d
theorem Walk.mono {k : Nat} {l m : List Ed} (h : ∀ v p u, AtE l v p u → AtE m v p u) {a b : Nat} {w : List UInt8} (hw : Walk k l a w b) : Walk k m a w b := by
  induction hw with
  | nil a => exact .nil a
  | cons h1 h2 h3 _ ih => exact .cons h1 h2 (h _ _ _ h3) ih
theorem Walk.snoc {k : Nat} {l : List Ed} {a b d : Nat} {c : UInt8} {w : List UInt8} (hw : Walk k l a w b) (h1 : letter c.toNat = true) (h2 : placeB c < 2 * k) (h3 : AtE l b (placeB c) d) : Walk k l a (w ++ [c]) d := by
  induction hw with
  | nil a => exact .cons h1 h2 h3 (.nil _)
  | cons q1 q2 q3 _ ih => exact .cons q1 q2 q3 (ih h3)
theorem Walk.run {k : Nat} {l : List Ed} (hd : Det l) {a b : Nat} {w : List UInt8} (hw : Walk k l a w b) : runS (stepL k (nxE l)) a w = some b := by
  induction hw with
  | nil a => rfl
  | @cons a b d c w h1 h2 h3 _ ih =>
    refine run_app_some (a := [c]) ?_ ih
    rw [run_one]
    unfold stepL
    rw [if_pos ⟨h1, h2⟩, nxE_of hd h3]
theorem Gen.turn {S : List UInt8 → Prop} {x y : List UInt8} {c : UInt8} (h : Gen S (x ++ [c] ++ invL y)) : Gen S (y ++ [invB c] ++ invL x) := by
  have h8 := h.back
  rw [invL_app, invL_app, invL_inv] at h8
  rw [List.append_assoc]
  exact h8
/-- edges that are in some group's graph, and spell all of it -/
structure EInv (k N : Nat) (S : List UInt8 → Prop) (φ : Nat → List UInt8) (l : List Ed) : Prop where
  low : ∀ e ∈ l, e.1 < N ∧ e.2.1 < k ∧ e.2.2 < N
  zero : φ 0 = []
  edge : ∀ e ∈ l, Gen S (φ e.1 ++ [letP (2 * e.2.1)] ++ invL (φ e.2.2))
  all : ∀ s, S s → Walk k l 0 s 0
/-- one vertex in place of another one -/
def renE (f t : Nat) (e : Ed) : Ed := (if e.1 = f then t else e.1, e.2.1, if e.2.2 = f then t else e.2.2)
theorem AtE.ren {l : List Ed} {v p u : Nat} (f t : Nat) (h : AtE l v p u) : AtE (l.map (renE f t)) (if v = f then t else v) p (if u = f then t else u) := by
  obtain ⟨e, he, h1, h2⟩ := h
  refine ⟨_, List.mem_map_of_mem he, ?_, ?_⟩
  · rw [hit_iff] at *
    refine ⟨h1.1, fun q => ?_, fun q => ?_⟩
    · show (if e.1 = f then t else e.1) = _; rw [h1.2.1 q]
    · show (if e.2.2 = f then t else e.2.2) = _; rw [h1.2.2 q]
  · rw [← h2]
    unfold endE
    split <;> rfl
theorem Walk.ren {k : Nat} {l : List Ed} (f t : Nat) {a b : Nat} {w : List UInt8} (hw : Walk k l a w b) : Walk k (l.map (renE f t)) (if a = f then t else a) w (if b = f then t else b) := by
  induction hw with
  | nil a => exact .nil _
  | cons h1 h2 h3 _ ih => exact .cons h1 h2 (h3.ren f t) ih
theorem EInv.ren {k N : Nat} {S : List UInt8 → Prop} {φ : Nat → List UInt8} {l : List Ed} (h : EInv k N S φ l) {f t : Nat} (hf : f ≠ 0) (ht : t < N) (hG : Gen S (φ f ++ invL (φ t))) : EInv k N S φ (l.map (renE f t)) := by
  have hren : ∀ x, Gen S (φ x ++ invL (φ (if x = f then t else x))) := by
    intro x
    split
    · rename_i e; rw [e]; exact hG
    · exact Gen.refl_ S _
  refine ⟨fun e he => ?_, h.zero, fun e he => ?_, fun s hs => ?_⟩
  · obtain ⟨x, hx, rfl⟩ := List.mem_map.1 he
    obtain ⟨h1, h2, h3⟩ := h.low x hx
    refine ⟨?_, h2, ?_⟩
    · show (if x.1 = f then t else x.1) < N; split <;> omega
    · show (if x.2.2 = f then t else x.2.2) < N; split <;> omega
  · obtain ⟨x, hx, rfl⟩ := List.mem_map.1 he
    have h1 := h.edge x hx
    have h2 := (hren x.1).ends (h1 : Gen S (φ x.1 ++ [letP (2 * x.2.1)] ++ invL (φ x.2.2))) (Gen.refl_ S _ : Gen S (φ (if x.1 = f then t else x.1) ++ [letP (2 * x.2.1)] ++ invL (φ (if x.1 = f then t else x.1) ++ [letP (2 * x.2.1)])))
    -- φ x2 ~ φ x1' c
    have h3 : Gen S (φ (if x.1 = f then t else x.1) ++ [letP (2 * x.2.1)] ++ invL (φ x.2.2)) := by
      have := (hren x.1).flip
      rw [List.append_assoc] at h1 ⊢
      exact this.mid h1
    exact h3.endd (hren x.2.2)
  · have := (h.all s hs).ren f t
    have h0 : (if 0 = f then t else 0) = 0 := if_neg (fun e => hf e.symm)
    rw [h0] at this
    exact this
theorem EInv.sub {k N : Nat} {S : List UInt8 → Prop} {φ : Nat → List UInt8} {l m : List Ed} (h : EInv k N S φ l) (h1 : ∀ e, e ∈ m ↔ e ∈ l) : EInv k N S φ m :=
  ⟨fun e he => h.low e ((h1 e).1 he), h.zero, fun e he => h.edge e ((h1 e).1 he), fun s hs => (h.all s hs).mono fun _ _ _ ⟨e, he, h2⟩ => ⟨e, (h1 e).2 he, h2⟩⟩
/-- two edges by one letter from one vertex -/
theorem EInv.clash {k N : Nat} {S : List UInt8 → Prop} {φ : Nat → List UInt8} {l : List Ed} (h : EInv k N S φ l) {a b : Ed} (ha : a ∈ l) (hb : b ∈ l) (hl : a.2.1 = b.2.1) : (a.1 = b.1 → Gen S (φ a.2.2 ++ invL (φ b.2.2))) ∧ (a.2.2 = b.2.2 → Gen S (φ a.1 ++ invL (φ b.1))) := by
  have h1 := h.edge a ha
  have h2 := h.edge b hb
  rw [hl] at h1
  constructor
  · intro e
    rw [e] at h1
    exact (Gen.refl_ S (φ b.1)).ends h1 h2
  · intro e
    rw [e] at h1
    exact (Gen.refl_ S (φ b.2.2)).ends h1.turn h2.turn
/-- the sum of what the vertices are called -/
def sumE (l : List Ed) : Nat := (l.map fun e => e.1 + e.2.2).sum
theorem sumE_ren (l : List Ed) {f t : Nat} (ht : t < f) : sumE (l.map (renE f t)) ≤ sumE l ∧ ((∃ e ∈ l, e.1 = f ∨ e.2.2 = f) → sumE (l.map (renE f t)) < sumE l) := by
  induction l with
  | nil => exact ⟨Nat.le_refl _, fun ⟨e, he, _⟩ => by cases he⟩
  | cons x l ih =>
    have h1 : sumE ((x :: l).map (renE f t)) = (if x.1 = f then t else x.1) + (if x.2.2 = f then t else x.2.2) + sumE (l.map (renE f t)) := by simp [sumE, renE]
    have h2 : sumE (x :: l) = x.1 + x.2.2 + sumE l := by simp [sumE]
    obtain ⟨i1, i2⟩ := ih
    rw [h1, h2]
    constructor
    · split <;> split <;> omega
    · rintro ⟨e, he, h3⟩
      rcases List.mem_cons.1 he with rfl | he
      · rcases h3 with q | q
        · rw [if_pos q]; split <;> omega
        · rw [if_pos q]; split <;> omega
      · have := i2 ⟨e, he, h3⟩
        split <;> split <;> omega

/-! ### what hangs loose -/
/-- the ends of the edges: at which vertex, by which place -/
def endsE (l : List Ed) : List (Nat × Nat) := l.flatMap fun e => [(e.1, 2 * e.2.1), (e.2.2, 2 * e.2.1 + 1)]
def manyE (l : List Ed) (v : Nat) : Nat := ((endsE l).filter fun x => x.1 == v).length
theorem many_cons (e : Ed) (l : List Ed) (v : Nat) : manyE (e :: l) v = (if e.1 = v then 1 else 0) + (if e.2.2 = v then 1 else 0) + manyE l v := by
  unfold manyE endsE
  rw [List.flatMap_cons, List.filter_append, List.length_append]
  congr 1
  by_cases h1 : e.1 = v <;> by_cases h2 : e.2.2 = v <;> simp [h1, h2]
theorem many_snoc (e : Ed) : ∀ (l : List Ed) (v : Nat), manyE (l ++ [e]) v = manyE l v + (if e.1 = v then 1 else 0) + (if e.2.2 = v then 1 else 0)
  | [], v => by rw [List.nil_append, many_cons]; show _ + 0 = 0 + _ + _; omega
  | x :: l, v => by rw [List.cons_append, many_cons, many_cons, many_snoc e l v]; omega
theorem mem_ends {l : List Ed} {v p : Nat} : (v, p) ∈ endsE l ↔ ∃ e ∈ l, hitE v p e = true := by
  unfold endsE
  rw [List.mem_flatMap]
  constructor
  · rintro ⟨e, he, h⟩
    refine ⟨e, he, ?_⟩
    rw [hit_iff]
    simp only [List.mem_cons, Prod.mk.injEq, List.not_mem_nil, or_false] at h
    rcases h with ⟨rfl, rfl⟩ | ⟨rfl, rfl⟩
    · exact ⟨by omega, fun _ => rfl, fun h => absurd (by omega) h⟩
    · exact ⟨by omega, fun h => absurd h (by omega), fun _ => rfl⟩
  · rintro ⟨e, he, h⟩
    refine ⟨e, he, ?_⟩
    rw [hit_iff] at h
    simp only [List.mem_cons, Prod.mk.injEq, List.not_mem_nil, or_false]
    by_cases hp : p % 2 = 0
    · exact .inl ⟨(h.2.1 hp).symm, by omega⟩
    · exact .inr ⟨(h.2.2 hp).symm, by omega⟩
theorem Det.ends {l : List Ed} (hd : Det l) : (endsE l).Nodup := by
  induction l with
  | nil => exact List.nodup_nil
  | cons e l ih =>
    unfold Det at hd
    rw [List.pairwise_cons] at hd
    have h1 := ih hd.2
    show ([(e.1, 2 * e.2.1), (e.2.2, 2 * e.2.1 + 1)] ++ endsE l).Nodup
    rw [List.nodup_append]
    refine ⟨by simp, h1, fun a ha b hb => ?_⟩
    rintro rfl
    obtain ⟨v, p⟩ := a
    obtain ⟨x, hx, h2⟩ := mem_ends.1 hb
    rw [hit_iff] at h2
    simp only [List.mem_cons, Prod.mk.injEq, List.not_mem_nil, or_false] at ha
    rcases ha with ⟨rfl, rfl⟩ | ⟨rfl, rfl⟩
    · exact (hd.1 x hx (by omega)).1 (h2.2.1 (by omega)).symm
    · exact (hd.1 x hx (by omega)).2 (h2.2.2 (by omega)).symm
theorem two_mem {α : Type} {l : List α} {a b : α} (ha : a ∈ l) (hb : b ∈ l) (h : a ≠ b) : 2 ≤ l.length := by
  match l, ha, hb with
  | [x], ha, hb => exact absurd ((List.mem_singleton.1 ha).trans (List.mem_singleton.1 hb).symm) h
  | x :: y :: l, _, _ => simp
theorem many_two {l : List Ed} {v p q : Nat} (h1 : (v, p) ∈ endsE l) (h2 : (v, q) ∈ endsE l) (h : p ≠ q) : 2 ≤ manyE l v :=
  two_mem (List.mem_filter.2 ⟨h1, by simp⟩) (List.mem_filter.2 ⟨h2, by simp⟩) (by simpa using h)
theorem two_of {l : List Ed} (hd : Det l) {v p : Nat} (h1 : (v, p) ∈ endsE l) (h : 2 ≤ manyE l v) : ∃ q, q ≠ p ∧ (v, q) ∈ endsE l := by
  have hn : ((endsE l).filter fun x => x.1 == v).Nodup := hd.ends.filter _
  have hm : (v, p) ∈ (endsE l).filter fun x => x.1 == v := List.mem_filter.2 ⟨h1, by simp⟩
  unfold manyE at h
  generalize hF : (endsE l).filter (fun x => x.1 == v) = F at *
  have hall : ∀ y ∈ F, y.1 = v ∧ y ∈ endsE l := fun y hy => by
    rw [← hF] at hy
    obtain ⟨h2, h3⟩ := List.mem_filter.1 hy
    exact ⟨by simpa using h3, h2⟩
  match F, hn, hm, h, hall with
  | x :: y :: F, hn, hm, _, hall =>
    have hxy : x ≠ y := by
      rw [List.nodup_cons] at hn
      exact fun e => hn.1 (by simp [e])
    obtain ⟨a1, a2⟩ := hall x (by simp)
    obtain ⟨b1, b2⟩ := hall y (by simp)
    obtain ⟨x1, x2⟩ := x
    obtain ⟨y1, y2⟩ := y
    simp only at a1 b1
    subst a1
    subst b1
    by_cases e : x2 = p
    · exact ⟨y2, fun e2 => hxy (by rw [e, e2]), b2⟩
    · exact ⟨x2, e, a2⟩
/-- an edge with a loose end is taken off -/
theorem loose_off {l : List Ed} (hd : Det l) {i : Nat} (hi : i < l.length) {x : Nat} (hx : l[i].1 = x ∨ l[i].2.2 = x) (hm : manyE l x < 2) : nxE (l.eraseIdx i) = nxG (nxE l) fun v => decide (v = x) := by
  have hd2 : Det (l.eraseIdx i) := List.Pairwise.sublist (List.eraseIdx_sublist l i) hd
  have hone : ∀ e ∈ l, (e.1 = x ∨ e.2.2 = x) → e = l[i] := by
    intro e he h
    have hmem : l[i] ∈ l := List.getElem_mem hi
    have en : ∀ e ∈ l, (e.1, 2 * e.2.1) ∈ endsE l ∧ (e.2.2, 2 * e.2.1 + 1) ∈ endsE l := fun e he =>
      ⟨mem_ends.2 ⟨e, he, by rw [hit_iff]; exact ⟨by omega, fun _ => rfl, fun h => absurd (by omega) h⟩⟩, mem_ends.2 ⟨e, he, by rw [hit_iff]; exact ⟨by omega, fun h => absurd h (by omega), fun _ => rfl⟩⟩⟩
    obtain ⟨e1, e2⟩ := en e he
    obtain ⟨f1, f2⟩ := en _ hmem
    have huse : ∀ p q, (x, p) ∈ endsE l → (x, q) ∈ endsE l → p = q := fun p q h1 h2 => by
      by_cases e : p = q
      · exact e
      · have := many_two h1 h2 e; omega
    rcases h with q | q <;> rcases hx with r | r
    · rw [q] at e1; rw [r] at f1
      have := huse _ _ e1 f1
      exact hd.uniq he hmem (by omega) (.inl (q.trans r.symm))
    · rw [q] at e1; rw [r] at f2
      have := huse _ _ e1 f2; omega
    · rw [q] at e2; rw [r] at f1
      have := huse _ _ e2 f1; omega
    · rw [q] at e2; rw [r] at f2
      have := huse _ _ e2 f2
      exact hd.uniq he hmem (by omega) (.inr (q.trans r.symm))
  have hnot : ∀ e ∈ l.eraseIdx i, e ∈ l ∧ e.1 ≠ x ∧ e.2.2 ≠ x := by
    intro e he
    have hel := List.mem_of_mem_eraseIdx he
    have hne : e ≠ l[i] := by
      rintro rfl
      obtain ⟨j, hji, hj⟩ := (List.mem_eraseIdx_iff_getElem?.1 he)
      obtain ⟨hjl, hj2⟩ := List.getElem?_eq_some_iff.1 hj
      have hp := List.pairwise_iff_getElem.1 hd
      rcases Nat.lt_or_gt_of_ne hji with q | q
      · have := (hp j i hjl hi q (by rw [hj2])).1
        exact this (by rw [hj2])
      · have := (hp i j hi hjl q (by rw [hj2])).1
        exact this (by rw [hj2])
    exact ⟨hel, fun q => hne (hone e hel (.inl q)), fun q => hne (hone e hel (.inr q))⟩
  funext v p
  apply Option.ext
  intro u
  rw [nxG_some, nxE_iff hd2, nxE_iff hd]
  simp only [decide_eq_false_iff_not]
  constructor
  · rintro ⟨e, he, h1, h2⟩
    obtain ⟨e1, e2, e3⟩ := hnot e he
    refine ⟨⟨e, e1, h1, h2⟩, ?_, ?_⟩
    · rw [hit_iff] at h1
      by_cases hp : p % 2 = 0
      · rw [← h1.2.1 hp]; exact e2
      · rw [← h1.2.2 hp]; exact e3
    · rw [← h2]
      unfold endE
      split
      · exact e3
      · exact e2
  · rintro ⟨⟨e, he, h1, h2⟩, h3, h4⟩
    refine ⟨e, ?_, h1, h2⟩
    have hne : e ≠ l[i] := by
      rintro rfl
      rw [hit_iff] at h1
      unfold endE at h2
      by_cases hp : p % 2 = 0
      · rw [if_pos hp] at h2
        rcases hx with q | q
        · exact h3 ((h1.2.1 hp).symm.trans q)
        · exact h4 (h2.symm.trans q)
      · rw [if_neg hp] at h2
        rcases hx with q | q
        · exact h4 (h2.symm.trans q)
        · exact h3 ((h1.2.2 hp).symm.trans q)
    obtain ⟨j, hj, rfl⟩ := List.mem_iff_getElem.1 he
    rw [List.mem_eraseIdx_iff_getElem?]
    exact ⟨j, fun e => hne (by subst e; rfl), List.getElem?_eq_getElem hj⟩
theorem loose_peel {l : List Ed} {k x : Nat} (hx : x ≠ 0) (hm : manyE l x < 2) : Peel k (nxE l) 0 fun v => decide (v = x) := by
  refine .more x .zero hx (fun p q _ _ h1 h2 => ?_) (fun v => by simp)
  have e : nxG (nxE l) (fun _ => false) = nxE l := by
    funext v p
    unfold nxG
    cases nxE l v p <;> rfl
  rw [e] at h1 h2
  have hin : ∀ p, nxE l x p ≠ none → (x, p) ∈ endsE l := fun p h => by
    obtain ⟨u, hu⟩ := Option.ne_none_iff_exists'.1 h
    obtain ⟨e, he, h3, _⟩ := nxE_at hu
    exact mem_ends.2 ⟨e, he, h3⟩
  by_cases hpq : p = q
  · exact hpq
  · have := many_two (hin p h1) (hin q h2) hpq; omega
/-- the reference's graph, when nothing is left to be done -/
structure EDone (k N : Nat) (S : List UInt8 → Prop) (l : List Ed) : Prop where
  det : Det l
  low : ∀ e ∈ l, e.1 < N ∧ e.2.1 < k ∧ e.2.2 < N
  loops : ∀ g, Rd g → (runS (stepL k (nxE l)) 0 g = some 0 ↔ Gen S g)
theorem EInv.done {k N : Nat} (hk : k ≤ 26) {S : List UInt8 → Prop} {φ : Nat → List UInt8} {l : List Ed} (h : EInv k N S φ l) (hd : Det l) : EDone k N S l := by
  refine ⟨hd, h.low, fun g hg => ⟨fun hr => ?_, fun hG => ?_⟩⟩
  · have h1 := loop_gen (s := stepL k (nxE l)) φ (S := S) (fun v c u hu => by
      obtain ⟨l1, l2, l3⟩ := stepL_some hu
      obtain ⟨e, he, h2, h3⟩ := nxE_at l3
      have h4 := h.edge e he
      rw [hit_iff] at h2
      have h5 := (let_place c l1).1
      unfold endE at h3
      by_cases hp : placeB c % 2 = 0
      · rw [if_pos hp] at h3
        rw [h2.2.1 hp, h3, h2.1, show 2 * (placeB c / 2) = placeB c by omega, h5] at h4
        exact h4
      · rw [if_neg hp] at h3
        have h6 := let_inv (2 * e.2.1) (by have := (h.low e he).2.1; omega)
        have h7 : (2 * e.2.1) ^^^ 1 = placeB c := by
          rw [h2.1]
          have : ∀ p : Nat, p < 52 → p % 2 ≠ 0 → (2 * (p / 2)) ^^^ 1 = p := by decide
          exact this _ (let_place c l1).2 hp
        rw [h7, h5] at h6
        have h8 := h4.back
        rw [invL_app, invL_app, invL_inv] at h8
        rw [h3, h2.2.2 hp] at h8
        rw [show invL [letP (2 * e.2.1)] = [c] by show [invB (letP (2 * e.2.1))] = [c]; rw [h6]] at h8
        simpa using h8) hr
    rw [h.zero] at h1
    simpa [invL] using h1
  · have := gen_loop (hd.fold hk |>.foldd hk) (fun a ha => (h.all a ha).run hd) hG
    rw [redW_self hg] at this
    exact this
theorem EDone.off {k N : Nat} (hk : k ≤ 26) {S : List UInt8 → Prop} {l : List Ed} (h : EDone k N S l) {i : Nat} (hi : i < l.length) {x : Nat} (hx : l[i].1 = x ∨ l[i].2.2 = x) (h0 : x ≠ 0) (hm : manyE l x < 2) : EDone k N S (l.eraseIdx i) := by
  refine ⟨List.Pairwise.sublist (List.eraseIdx_sublist l i) h.det, fun e he => h.low e (List.mem_of_mem_eraseIdx he), fun g hg => ?_⟩
  rw [← h.loops g hg, loose_off h.det hi hx hm]
  exact ⟨fun hr => run_with hr, fun hr => peel_run hk (h.det.fold hk) (loose_peel h0 hm) hg hr⟩
theorem EDone.graph {k N : Nat} (hk : k ≤ 26) (hN : 0 < N) {S : List UInt8 → Prop} {l : List Ed} (h : EDone k N S l) (hm : ∀ e ∈ l, (e.1 = 0 ∨ 2 ≤ manyE l e.1) ∧ (e.2.2 = 0 ∨ 2 ≤ manyE l e.2.2)) : GraphOf k S (nxE l) 0 := by
  have hf := h.det.fold hk
  refine ⟨hf, core_of (hf.foldd hk) hN (fun v c u hu => ?_) (twos_of hk hf fun v p hv hp hn => ?_), h.loops⟩
  · obtain ⟨l1, l2, l3⟩ := stepL_some hu
    obtain ⟨e, he, _, h3⟩ := nxE_at l3
    rw [← h3]
    unfold endE
    split
    · exact (h.low e he).2.2
    · exact (h.low e he).1
  · obtain ⟨u, hu⟩ := Option.ne_none_iff_exists'.1 hn
    obtain ⟨e, he, h3, _⟩ := nxE_at hu
    have h4 : 2 ≤ manyE l v := by
      have h5 := hm e he
      rw [hit_iff] at h3
      by_cases q : p % 2 = 0
      · rw [h3.2.1 q] at h5; exact h5.1.resolve_left hv
      · rw [h3.2.2 q] at h5; exact h5.2.resolve_left hv
    obtain ⟨q, h5, h6⟩ := two_of h.det (mem_ends.2 ⟨e, he, h3⟩) h4
    obtain ⟨e2, he2, h7⟩ := mem_ends.1 h6
    refine ⟨q, ?_, h5, by rw [nxE_of h.det ⟨e2, he2, h7, rfl⟩]; simp⟩
    have := (h.low e2 he2).2.1
    rw [hit_iff] at h7
    omega
end Go.Proofs.Ytlooclpfoeakgaa

/- What hangs loose is taken off, one vertex after the other. Plain laws. -/
namespace Go.Proofs.Ytlooclpfoeakgaa

/-- how many numbers below m -/
def cnt (f : Nat → Bool) : Nat → Nat
  | 0 => 0
  | m + 1 => cnt f m + (if f m = true then 1 else 0)
section
variable {f g h : Nat → Bool}
theorem cnt_congr : ∀ {m : Nat}, (∀ i, i < m → f i = g i) → cnt f m = cnt g m
  | 0, _ => rfl
  | m + 1, e => by rw [cnt, cnt, cnt_congr (fun i hi => e i (by omega)), e m (by omega)]
theorem cnt_add : ∀ {m : Nat}, (∀ i, i < m → f i = (g i || h i)) → (∀ i, i < m → g i = true → h i = true → False) → cnt f m = cnt g m + cnt h m
  | 0, _, _ => rfl
  | m + 1, e, d => by
    rw [cnt, cnt, cnt, cnt_add (fun i hi => e i (by omega)) (fun i hi => d i (by omega)), e m (by omega)]
    have := d m (by omega)
    cases h1 : g m <;> cases h2 : h m
    · simp
    · simp; omega
    · simp; omega
    · exact (this h1 h2).elim
theorem cnt_pos : ∀ {m i : Nat}, i < m → f i = true → 1 ≤ cnt f m
  | m + 1, i, hi, e => by
    rw [cnt]
    by_cases h : i = m
    · rw [← h, if_pos e]; omega
    · have := cnt_pos (m := m) (show i < m by omega) e; omega
theorem cnt_one : ∀ {m i j : Nat}, cnt f m ≤ 1 → i < m → j < m → f i = true → f j = true → i = j
  | m + 1, i, j, hc, hi, hj, e1, e2 => by
    rw [cnt] at hc
    by_cases h1 : i = m
    · by_cases h2 : j = m
      · omega
      · have := cnt_pos (m := m) (show j < m by omega) e2
        rw [← h1, if_pos e1, h1] at hc; omega
    · by_cases h2 : j = m
      · have := cnt_pos (m := m) (show i < m by omega) e1
        rw [← h2, if_pos e2, h2] at hc; omega
      · exact cnt_one (m := m) (by omega) (by omega) (by omega) e1 e2
theorem cnt_some : ∀ {m : Nat}, 1 ≤ cnt f m → ∃ q, q < m ∧ f q = true
  | m + 1, hc => by
    rw [cnt] at hc
    cases h : f m
    · rw [h] at hc
      simp at hc
      obtain ⟨q, h1, h2⟩ := cnt_some (m := m) hc
      exact ⟨q, by omega, h2⟩
    · exact ⟨m, by omega, h⟩
  | 0, hc => by rw [cnt] at hc; omega
theorem cnt_two : ∀ {m : Nat} (p : Nat), 2 ≤ cnt f m → ∃ q, q < m ∧ q ≠ p ∧ f q = true
  | m + 1, p, hc => by
    rw [cnt] at hc
    by_cases h1 : m ≠ p ∧ f m = true
    · exact ⟨m, by omega, h1.1, h1.2⟩
    · by_cases h2 : 2 ≤ cnt f m
      · obtain ⟨q, h3, h4⟩ := cnt_two (m := m) p h2
        exact ⟨q, by omega, h4⟩
      · have h3 : f m = true := by
          cases h : f m
          · rw [h] at hc; simp at hc; omega
          · rfl
        have h4 : m = p := by
          by_cases e : m = p
          · exact e
          · exact absurd ⟨e, h3⟩ h1
        rw [if_pos h3] at hc
        have h5 : 1 ≤ cnt f m := by omega
        obtain ⟨q, h6, h7⟩ := cnt_some h5
        exact ⟨q, by omega, by omega, h7⟩
  | 0, p, hc => by rw [cnt] at hc; omega
theorem xor_pair (k : Nat) (hk : k < 26) : (2 * k) ^^^ 1 = 2 * k + 1 ∧ (2 * k + 1) ^^^ 1 = 2 * k := by
  have : ∀ k : Nat, k < 26 → (2 * k) ^^^ 1 = 2 * k + 1 ∧ (2 * k + 1) ^^^ 1 = 2 * k := by decide
  exact this k hk
theorem cnt_xor : ∀ {k : Nat}, k ≤ 26 → cnt f (2 * k) = cnt (fun p => f (p ^^^ 1)) (2 * k)
  | 0, _ => rfl
  | k + 1, hk => by
    obtain ⟨x1, x2⟩ := xor_pair k (by omega)
    rw [show 2 * (k + 1) = 2 * k + 1 + 1 by omega, cnt, cnt, cnt, cnt, ← cnt_xor (k := k) (by omega), x1, x2]
    omega
end
/-- how many edges a vertex has to those that are not gone -/
def degG (k : Nat) (nx : Nat → Nat → Option Nat) (G : Nat → Bool) (u : Nat) : Nat := cnt (fun p => match nx u p with
  | none => false
  | some t => !G t) (2 * k)
/-- how many edges lead from v to u -/
def toV (nx : Nat → Nat → Option Nat) (v u : Nat) : Nat → Nat := cnt fun p => decide (nx v p = some u)
theorem toV_flip {k : Nat} (hk : k ≤ 26) {nx : Nat → Nat → Option Nat} (hf : FoldP k nx) (u v : Nat) : toV nx v u (2 * k) = toV nx u v (2 * k) := by
  unfold toV
  rw [cnt_xor hk]
  refine cnt_congr fun p hp => ?_
  have hp2 := xor_one_lt k p hk hp
  have hxx := xor_xor p (by omega)
  by_cases h : nx u p = some v
  · have := hf u p v hp h
    simp [h, this]
  · have : nx v (p ^^^ 1) ≠ some u := fun e => h (by have := hf v _ u hp2 e; rwa [hxx] at this)
    simp [h, this]
/-- the vertices that have one edge are put aside -/
structure LI (k N s : Nat) (nx : Nat → Nat → Option Nat) (G : Nat → Bool) (D : Nat → Int) (Ls : List Nat) : Prop where
  peel : Peel k nx s G
  deg : ∀ u, G u = false → D u = degG k nx G u
  inn : ∀ u, u ∈ Ls → u < N ∧ u ≠ s ∧ (∀ p, p < 2 * k → nx u p = none) = False ∧ (G u = false → D u ≤ 1)
  all : ∀ u, u < N → u ≠ s → G u = false → D u = 1 → u ∈ Ls
/-- what v leads to is looked through -/
structure LJ (k N s : Nat) (nx : Nat → Nat → Option Nat) (G : Nat → Bool) (v i : Nat) (D : Nat → Int) (Ls : List Nat) : Prop where
  peel : Peel k nx s G
  old : G v = false ∧ v ≠ s ∧ degG k nx G v ≤ 1
  deg : ∀ u, G u = false → u ≠ v → D u = degG k nx G u - toV nx v u i
  inn : ∀ u, u ∈ Ls → u < N ∧ u ≠ s ∧ (∀ p, p < 2 * k → nx u p = none) = False ∧ (G u = false → u ≠ v → D u ≤ 1)
  all : ∀ u, u < N → u ≠ s → G u = false → u ≠ v → D u = 1 → u ∈ Ls
def goneV (G : Nat → Bool) (v : Nat) (u : Nat) : Bool := if u = v then true else G u
section
variable {k N s : Nat} {nx : Nat → Nat → Option Nat} {G : Nat → Bool} {D : Nat → Int} {Ls : List Nat} {v i t : Nat}
theorem LI.skip (h : LI k N s nx G D (Ls ++ [v])) (hv : G v = true) : LI k N s nx G D Ls := by
  refine ⟨h.peel, h.deg, fun u hu => h.inn u (by simp [hu]), fun u h1 h2 h3 h4 => ?_⟩
  rcases List.mem_append.1 (h.all u h1 h2 h3 h4) with h5 | h5
  · exact h5
  · rw [List.mem_singleton.1 h5, hv] at h3; cases h3
theorem LI.pop (h : LI k N s nx G D (Ls ++ [v])) (hv : G v = false) : LJ k N s nx G v 0 D Ls := by
  obtain ⟨h1, h2, -, h3⟩ := h.inn v (by simp)
  have h4 := h3 hv
  rw [h.deg v hv] at h4
  refine ⟨h.peel, ⟨hv, h2, by omega⟩, fun u h5 _ => by rw [h.deg u h5]; simp [toV, cnt], fun u hu => ?_, fun u a1 a2 a3 a4 a5 => ?_⟩
  · obtain ⟨b1, b2, b3, b4⟩ := h.inn u (by simp [hu])
    exact ⟨b1, b2, b3, fun q _ => b4 q⟩
  · rcases List.mem_append.1 (h.all u a1 a2 a3 a5) with h5 | h5
    · exact h5
    · exact absurd (List.mem_singleton.1 h5) a4
theorem LJ.pass (h : LJ k N s nx G v i D Ls) (hn : ∀ u, nx v i = some u → G u = true ∨ u = v) : LJ k N s nx G v (i + 1) D Ls := by
  refine ⟨h.peel, h.old, fun u h1 h2 => ?_, h.inn, h.all⟩
  rw [h.deg u h1 h2]
  have : toV nx v u (i + 1) = toV nx v u i := by
    unfold toV
    rw [cnt, if_neg]
    · rfl
    · intro e
      rcases hn u (by simpa using e) with e | e
      · rw [h1] at e; cases e
      · exact h2 e
  rw [this]
theorem LJ.dec (h : LJ k N s nx G v i D Ls) (ht : nx v i = some t) (hg : G t = false) (htv : t ≠ v) (htN : t < N) (hlp : ∃ p, p < 2 * k ∧ nx t p ≠ none) :
    LJ k N s nx G v (i + 1) (fun u => if u = t then D t - 1 else D u) (if D t - 1 = 1 ∧ t ≠ s then Ls ++ [t] else Ls) := by
  have hsub : ∀ u, u ∈ Ls → u ∈ (if D t - 1 = 1 ∧ t ≠ s then Ls ++ [t] else Ls) := fun u hu => by split <;> simp [hu]
  refine ⟨h.peel, h.old, fun u h1 h2 => ?_, fun u hu => ?_, fun u a1 a2 a3 a4 a5 => ?_⟩
  · by_cases e : u = t
    · subst e
      have e2 : toV nx v u (i + 1) = toV nx v u i + 1 := by
        unfold toV
        rw [cnt, if_pos (by simpa using ht)]
      rw [if_pos rfl, h.deg u h1 h2, e2]; omega
    · have e2 : toV nx v u (i + 1) = toV nx v u i := by
        unfold toV
        rw [cnt, if_neg]
        · rfl
        · intro q
          have q : nx v i = some u := by simpa using q
          rw [ht] at q
          exact e (Option.some.inj q).symm
      rw [if_neg e, h.deg u h1 h2, e2]
  · have hnew : u ∈ Ls ∨ (u = t ∧ D t - 1 = 1 ∧ t ≠ s) := by
      split at hu
      · rename_i hc
        rcases List.mem_append.1 hu with q | q
        · exact .inl q
        · exact .inr ⟨List.mem_singleton.1 q, hc⟩
      · exact .inl hu
    rcases hnew with q | ⟨rfl, q1, q2⟩
    · obtain ⟨b1, b2, b3, b4⟩ := h.inn u q
      refine ⟨b1, b2, b3, fun c1 c2 => ?_⟩
      have := b4 c1 c2
      show (if u = t then D t - 1 else D u) ≤ 1
      split
      · rename_i e; subst e; omega
      · exact this
    · refine ⟨htN, q2, ?_, fun _ _ => ?_⟩
      · obtain ⟨p, hp1, hp2⟩ := hlp
        exact propext ⟨fun hh => hp2 (hh p hp1), fun hh => hh.elim⟩
      · show (if u = u then D u - 1 else D u) ≤ 1
        rw [if_pos rfl]; omega
  · have a5 : (if u = t then D t - 1 else D u) = 1 := a5
    by_cases e : u = t
    · subst e
      rw [if_pos rfl] at a5
      rw [if_pos ⟨a5, a2⟩]; simp
    · rw [if_neg e] at a5
      exact hsub u (h.all u a1 a2 a3 a4 a5)
theorem LJ.done (hk : k ≤ 26) (hf : FoldP k nx) (h : LJ k N s nx G v (2 * k) D Ls) : LI k N s nx (goneV G v) D Ls := by
  have hG : ∀ u, goneV G v u = false → u ≠ v ∧ G u = false := fun u hu => by
    unfold goneV at hu
    split at hu
    · cases hu
    · rename_i e; exact ⟨e, hu⟩
  refine ⟨.more v h.peel h.old.2.1 (fun p q hp hq h1 h2 => ?_) (fun u => ?_), fun u hu => ?_, fun u hu => ?_, fun u a1 a2 a3 a4 => ?_⟩
  · have hin : ∀ p, nxG nx G v p ≠ none → (match nx v p with
        | none => false
        | some t => !G t) = true := fun p hp => by
      obtain ⟨t, ht⟩ := Option.ne_none_iff_exists'.1 hp
      obtain ⟨b1, _, b2⟩ := nxG_some.1 ht
      rw [b1]; simp [b2]
    exact cnt_one h.old.2.2 hp hq (hin p h1) (hin q h2)
  · unfold goneV
    by_cases e : u = v
    · simp [e]
    · simp [e]
  · obtain ⟨h1, h2⟩ := hG u hu
    rw [h.deg u h2 h1, toV_flip hk hf u v]
    have : degG k nx G u = degG k nx (goneV G v) u + toV nx u v (2 * k) := by
      unfold degG toV
      refine cnt_add (fun p _ => ?_) (fun p _ q1 q2 => ?_)
      · cases hp : nx u p with
        | none => simp
        | some t =>
          simp only [Option.some.injEq]
          unfold goneV
          by_cases e : t = v
          · subst e; simp [h.old.1]
          · simp [e]
      · have q2 : nx u p = some v := by simpa using q2
        rw [q2] at q1
        simp [goneV] at q1
    omega
  · obtain ⟨b1, b2, b3, b4⟩ := h.inn u hu
    exact ⟨b1, b2, b3, fun c => b4 (hG u c).2 (hG u c).1⟩
  · exact h.all u a1 a2 (hG u a3).2 (hG u a3).1 a4
theorem LI.ends (hN : ∀ v p u, nx v p = some u → v < N) (h : LI k N s nx G D []) : NoEnds k (nxG nx G) s := by
  intro v p hv hp hn
  obtain ⟨u, hu⟩ := Option.ne_none_iff_exists'.1 hn
  obtain ⟨b1, b2, b3⟩ := nxG_some.1 hu
  have hp1 : 1 ≤ degG k nx G v := cnt_pos hp (by rw [b1]; simp [b3])
  have h2 : 2 ≤ degG k nx G v := by
    by_cases e : degG k nx G v = 1
    · have := h.all v (hN v p u b1) hv b2 (by rw [h.deg v b2, e]; rfl)
      cases this
    · omega
  obtain ⟨q, q1, q2, q3⟩ := cnt_two p h2
  refine ⟨q, q1, q2, ?_⟩
  cases hq : nx v q with
  | none => rw [hq] at q3; cases q3
  | some t =>
    rw [hq] at q3
    rw [nxG_some.2 ⟨hq, b2, by simpa using q3⟩]; simp
end
end Go.Proofs.Ytlooclpfoeakgaa
