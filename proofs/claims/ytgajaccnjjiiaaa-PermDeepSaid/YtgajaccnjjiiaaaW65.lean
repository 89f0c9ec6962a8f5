/- Fill: size and fits of a tree: the walks. -/
import Derived.Test.YtgajaccnjjiiaaaL2
import Derived.Test.YtgajaccnjjiiaaaW17
namespace Go.Proofs.Ytgajaccnjjiiaaa
open Go.RowKit

/-- the value v reads as the trees ts -/
def PartsAt (w : World) (ok : Nat → Prop) (v : Value) (ts : List TM) : Prop :=
  ∃ a cap, v = .slice a ts.length cap ∧ (ts.length ≤ cap ∧ cap ≤ 9223372036854775807) ∧ ∀ j t, ts[j]? = some t → ∃ b o, a = some ⟨b, o, none⟩ ∧ b < w.heap.size ∧ ∃ (x : Int) (y z : Value),
    w.cell? ⟨b, o + j * 3, none⟩ = some (.int .i64 x) ∧ w.cell? ⟨b, o + j * 3 + 1, none⟩ = some y ∧ w.cell? ⟨b, o + j * 3 + 2, none⟩ = some z ∧ TreeAt w ok (.agg #[.int .i64 x, y, z]) t
theorem TreeAt.keep {w w' : World} {ok : Nat → Prop} {v : Value} {t : TM} (h : TreeAt w ok v t) (hb : Below w.heap.size w w') : TreeAt w' ok v t :=
  h.kept hb.size fun b hk hlt => ⟨hk, hb.block b hlt⟩
theorem PartsAt.keep {w w' : World} {ok : Nat → Prop} {v : Value} {ts : List TM} (h : PartsAt w ok v ts) (hb : Below w.heap.size w w') : PartsAt w' ok v ts := by
  obtain ⟨a, cap, hv, hl, h⟩ := h
  refine ⟨a, cap, hv, hl, fun j t ht => ?_⟩
  obtain ⟨b, o, ha, hlt, x, y, z, h1, h2, h3, h4⟩ := h j t ht
  have e : ∀ i, w'.cell? ⟨b, i, none⟩ = w.cell? ⟨b, i, none⟩ := fun i => hb.cell (p := ⟨b, i, none⟩) hlt
  exact ⟨b, o, ha, Nat.lt_of_lt_of_le hlt hb.size, x, y, z, by rw [e]; exact h1, by rw [e]; exact h2, by rw [e]; exact h3, h4.keep hb⟩
theorem TreeAt.parts {w : World} {ok : Nat → Prop} {v : Value} {k : Int} {perm : List Int} {ts : List TM} (h : TreeAt w ok v (.mk k perm ts)) : ∃ pv tv, v = .agg #[.int .i64 k, pv, tv] ∧ Ints w pv perm ∧ PartsAt w ok tv ts := by
  cases h with
  | mk k pv perm a n cap parts f hp hpo hn hnc hcap hcells hsub =>
    refine ⟨pv, _, rfl, hp, a, cap, by rw [hn], by rw [hn]; exact ⟨hnc, hcap⟩, fun j t ht => ?_⟩
    have hj : j < n := by rw [← hn]; exact (List.getElem?_eq_some_iff.1 ht).1
    obtain ⟨b, o, ha, hlt, _, hcs⟩ := hcells (by omega)
    obtain ⟨c1, c2, c3⟩ := hcs j hj
    exact ⟨b, o, ha, hlt, _, _, _, c1, c2, c3, hsub j t ht⟩
theorem PartsAt.open {w : World} {ok : Nat → Prop} {v : Value} {ts : List TM} (h : PartsAt w ok v ts) : ∃ a n cap, v = .slice a n cap ∧ Hid (ts.length = n) ∧ n ≤ 9223372036854775807 := by
  obtain ⟨a, cap, hv, hl, h⟩ := h
  exact ⟨a, _, cap, hv, rfl, by omega⟩
theorem PartsAt.at_ {w : World} {ok : Nat → Prop} {a : Option Addr} {n cap : Nat} {ts : List TM} (h : PartsAt w ok (.slice a n cap) ts) {j : Nat} (hj : j < n) : ∃ b o t, a = some ⟨b, o, none⟩ ∧ b < w.heap.size ∧ Hid (ts[j]? = some t) ∧ ∃ (x : Int) (a1 : Option Addr) (n1 c1 : Nat) (a2 : Option Addr) (n2 c2 : Nat),
    w.cell? ⟨b, o + j * 3, none⟩ = some (.int .i64 x) ∧ w.cell? ⟨b, o + j * 3 + 1, none⟩ = some (.slice a1 n1 c1) ∧ w.cell? ⟨b, o + j * 3 + 2, none⟩ = some (.slice a2 n2 c2) ∧ TreeAt w ok (.agg #[.int .i64 x, .slice a1 n1 c1, .slice a2 n2 c2]) t := by
  obtain ⟨a', cap', hv, hl, h⟩ := h
  obtain ⟨rfl, rfl, rfl⟩ : a = a' ∧ n = ts.length ∧ cap = cap' := by simpa using hv
  obtain ⟨b, o, ha, hlt, x, y, z, h1, h2, h3, h4⟩ := h j ts[j] (List.getElem?_eq_getElem hj)
  obtain ⟨k, a1, n1, c1, a2, n2, c2, e⟩ := h4.slices
  simp at e
  obtain ⟨_, rfl, rfl⟩ := e
  exact ⟨b, o, ts[j], ha, hlt, List.getElem?_eq_getElem hj, x, _, _, _, _, _, _, h1, h2, h3, h4⟩

/-! size -/
def addN (f : TM → Nat) : List TM → Nat → Nat
  | [], n => n
  | x :: xs, n => if 1000 < n + f x then n + f x else addN f xs (n + f x)
def sizeT : Nat → TM → Nat
  | 0, _ => 1001
  | l + 1, .mk _ _ parts => addN (sizeT l) parts 1
theorem addN_le {f : TM → Nat} {B : Nat} (hf : ∀ t, f t ≤ B) : ∀ (ts : List TM) (n : Nat), n ≤ 1000 → addN f ts n ≤ 1000 + B
  | [], n, h => by rw [addN]; omega
  | x :: xs, n, h => by
    rw [addN]
    have := hf x
    split
    · omega
    · exact addN_le hf xs _ (by omega)
theorem sizeT_le : ∀ (l : Nat) (t : TM), sizeT l t ≤ 1001 + 1000 * l
  | 0, t => by rw [sizeT]; omega
  | l + 1, .mk k perm parts => by
    rw [sizeT]
    have := addN_le (f := sizeT l) (B := 1001 + 1000 * l) (sizeT_le l) parts 1 (by omega)
    omega
theorem addN_at {f : TM → Nat} {ts : List TM} {j n : Nat} {t : TM} (h : ts[j]? = some t) : addN f (ts.drop j) n = if 1000 < n + f t then n + f t else addN f (ts.drop (j + 1)) (n + f t) := by
  obtain ⟨hj, rfl⟩ := List.getElem?_eq_some_iff.1 h
  rw [List.drop_eq_getElem_cons hj, addN]

set_option maxRecDepth 100000 in
set_option maxHeartbeats 4000000 in
theorem size_any : ∀ (l : Nat) (v : Value) (t : TM) (w : World) (ok : Nat → Prop), l ≤ 1000 → TreeAt w ok v t →
    Calls Try.prog 81 #[v, .int .i64 l] w fun e w' => e = .returned (.int .i64 (sizeT l t)) ∧ Below w.heap.size w w' := by
  intro l
  induction l with
  | zero =>
    intro v t w ok _ h
    obtain ⟨k, a, n, c, a', n', c', rfl⟩ := h.slices
    clear h
    go_enter Try.func81, Try.ntmps81
    go_wp2_with fail
    go_ret
    exact ⟨rfl, (Below.refl _ _).alloc (Nat.le_refl _) _⟩
  | succ l ih =>
    intro v t w ok hl ht
    obtain ⟨k, perm, ts⟩ := t
    obtain ⟨pv, tv, rfl, hp, hts⟩ := ht.parts
    obtain ⟨a1, n1, c1, rfl, _, _⟩ := hp.open
    obtain ⟨a, n, cap, rfl, HN, hn⟩ := hts.open
    have IH := Lib.hid ih
    have HTS := Lib.hid hts
    have hl1 : ((l : Int) + 1 == 0) = false := by simp; omega
    have hsz : sizeT (l + 1) (.mk k perm ts) = addN (sizeT l) ts 1 := rfl
    have HSZ := Lib.hid hsz
    clear ih hp hts ht hsz
    rw [show ((l + 1 : Nat) : Int) = (l : Int) + 1 by omega]
    go_enter Try.func81, Try.ntmps81
    go_wp2_with fail
    go_loopw [5, 13] (fun mv iv wr => ∃ j m : Nat, j ≤ n ∧ iv = .int .i64 j ∧ mv = .int .i64 m ∧ m ≤ 1000 ∧ Below w.heap.size w wr ∧ Hid (addN (sizeT l) ts 1 = addN (sizeT l) (ts.drop j) m)) (fun _ iv _ => n - (intOf iv).toNat)
    case atStart => exact ⟨0, 1, by omega, rfl, rfl, by omega, (Below.refl _ _).alloc (Nat.le_refl _) _, (show Hid (_ = _) from rfl)⟩
    case round =>
      obtain ⟨j, m, hj, rfl, rfl, hm, hB, HA⟩ := hrel
      have hsz := hB.size
      by_cases hlt : j < n
      · obtain ⟨b, o, t, rfl, hbl, hgt, x, ya, yn, yc, za, zn, zc, d0, d1, d2, htr⟩ := HTS.out.at_ hlt
        have e0 := (hB.cell (p := ⟨b, o + j * 3, none⟩) hbl).trans d0
        have e1 := (hB.cell (p := ⟨b, o + j * 3 + 1, none⟩) hbl).trans d1
        have e2 := (hB.cell (p := ⟨b, o + j * 3 + 2, none⟩) hbl).trans d2
        have hst := addN_at (f := sizeT l) (n := m) hgt.out
        have htr1 : TreeAt (wr.alloc (.cells #[.int .i64 x, .slice ya yn yc, .slice za zn zc] 41)) ok (.agg #[.int .i64 x, .slice ya yn yc, .slice za zn zc]) t := (htr.kept hB.size (fun b hk hlt => ⟨hk, hB.block b hlt⟩)).keep ((Below.refl _ _).alloc (Nat.le_refl _) _)
        have hbd := sizeT_le l t
        have hca := IH.out _ t _ ok (by omega) htr1
        generalize sizeT l t = s at *
        have HST := Lib.hid hst
        have HCA := Lib.hid hca
        clear d0 d1 d2 htr htr1 hst hca
        by_cases hbr : 1000 < m + s
        · have hbi : (1000 : Int) < (m : Int) + (s : Int) := by omega
          have hfin : sizeT (l + 1) (.mk k perm ts) = m + s := by rw [HSZ.out, HA.out, HST.out, if_pos hbr]
          have HF := Lib.hid hfin
          clear hfin hbr
          go_wp2_with (go_at_call 81; refine HCA.out.mono ?_; rintro e w3 ⟨rfl, hb3⟩)
          go_ret
          exact ⟨by rw [HF.out]; go_num, (hB.alloc hsz _).trans (hb3.mono (by simp; omega))⟩
        · have hbi : ¬ (1000 : Int) < (m : Int) + (s : Int) := by omega
          rw [if_neg hbr] at HST
          go_wp2_with (go_at_call 81; refine HCA.out.mono ?_; rintro e w3 ⟨rfl, hb3⟩)
          go_roundw
          case rel => exact ⟨j + 1, m + s, by omega, by go_num, by go_num, by omega, (hB.alloc hsz _).trans (hb3.mono (by simp; omega)), by show _ = _; rw [HA.out, HST.out]⟩
          case measure => simp [intOf]; omega
      · obtain rfl : j = n := by omega
        have hfin : sizeT (l + 1) (.mk k perm ts) = m := by rw [HSZ.out, HA.out, List.drop_of_length_le (by rw [HN.out]; exact Nat.le_refl _)]; rfl
        have HF := Lib.hid hfin
        clear hfin
        go_wp2_with fail
        go_ret
        exact ⟨by rw [HF.out]; rfl, hB⟩

/-! fits -/
def ixF (g : TM → Bool) : List TM → Nat → Int
  | [], _ => -1
  | x :: xs, i => if g x then ixF g xs (i + 1) else i
def fitsT : Nat → TM → Bool
  | 0, _ => false
  | d + 1, .mk k perm parts =>
    if k = 0 then parts.length == 0 && perm.length == 0
    else if k = 1 ∨ k = 2 then (if parts.length < 2 ∨ 0 < perm.length then false else parts.all (fitsT d))
    else if k = 3 then (if parts.length < 4 ∨ perm.length ≠ parts.length ∨ checkM perm ≠ 0 then false else parts.all (fitsT d))
    else false
theorem ixF_all (g : TM → Bool) : ∀ (ts : List TM) (i : Nat), decide (0 ≤ ixF g ts i) = !(ts.all g)
  | [], i => rfl
  | x :: xs, i => by
    rw [ixF]
    cases hx : g x
    · simp [hx]
    · simp only [if_true, List.all_cons, hx, Bool.true_and]
      exact ixF_all g xs (i + 1)
theorem ixF_at {g : TM → Bool} {ts : List TM} {j : Nat} {t : TM} (h : ts[j]? = some t) : ixF g (ts.drop j) j = if g t then ixF g (ts.drop (j + 1)) (j + 1) else j := by
  obtain ⟨hj, rfl⟩ := List.getElem?_eq_some_iff.1 h
  rw [List.drop_eq_getElem_cons hj, ixF]

/-- what fits answers, at a depth -/
def FitsAt (d : Nat) : Prop := ∀ (v : Value) (t : TM) (w : World) (ok : Nat → Prop), TreeAt w ok v t → DeepAt d t → Calls Try.prog 82 #[v] w fun e w' => e = .returned (.bool (fitsT d t)) ∧ Below w.heap.size w w'

set_option maxHeartbeats 1000000 in
theorem fits1_any {d : Nat} (ih : FitsAt d) (v : Value) (t : TM) (w : World) (ok : Nat → Prop) (ht : TreeAt w ok v t) (hd : DeepAt d t) :
    Calls Try.prog 106 #[v] w fun e w' => e = .returned (.bool (!fitsT d t)) ∧ Below w.heap.size w w' := by
  obtain ⟨k, a, n, c, a', n', c', rfl⟩ := ht.slices
  have hca := ih _ t _ ok (ht.keep ((Below.refl w.heap.size w).alloc (Nat.le_refl _) (.cells #[.int .i64 k, .slice a n c, .slice a' n' c'] 41))) hd
  generalize fitsT d t = b at *
  have HCA := Lib.hid hca
  clear hca ht ih hd
  go_enter Try.func106, Try.ntmps106
  go_wp2_with (go_at_call 82; refine HCA.out.mono ?_; rintro e w3 ⟨rfl, hb3⟩)
  go_ret
  exact ⟨rfl, ((Below.refl _ _).alloc (Nat.le_refl _) _).trans (hb3.mono (by simp))⟩

set_option maxRecDepth 100000 in
set_option maxHeartbeats 2000000 in
theorem index_any {d : Nat} (ih : FitsAt d) (v : Value) (ts : List TM) (w : World) (ok : Nat → Prop) (hts : PartsAt w ok v ts) (hd : ∀ t ∈ ts, DeepAt d t) :
    Calls Try.prog 115 #[v, .func (.func 106) #[] #[]] w fun e w' => e = .returned (.int .i64 (ixF (fitsT d) ts 0)) ∧ Below w.heap.size w w' := by
  obtain ⟨a, n, cap, rfl, HN, hn⟩ := hts.open
  have HTS := Lib.hid hts
  have HD := Lib.hid hd
  have IH := Lib.hid ih
  clear hts hd ih
  go_enter Try.func115, Try.ntmps115
  go_wp2_with fail
  go_loopw [5, 8] (fun _ iv wr => ∃ j : Nat, j ≤ n ∧ iv = .int .i64 j ∧ Below w.heap.size w wr ∧ Hid (ixF (fitsT d) ts 0 = ixF (fitsT d) (ts.drop j) j)) (fun _ iv _ => n - (intOf iv).toNat)
  case atStart => exact ⟨0, by omega, rfl, Below.refl _ _, (show Hid (_ = _) from rfl)⟩
  case round =>
    obtain ⟨j, hj, rfl, hB, HA⟩ := hrel
    have hsz := hB.size
    by_cases hlt : j < n
    · obtain ⟨b, o, t, rfl, hbl, hgt, x, ya, yn, yc, za, zn, zc, d0, d1, d2, htr⟩ := HTS.out.at_ hlt
      have e0 := (hB.cell (p := ⟨b, o + j * 3, none⟩) hbl).trans d0
      have e1 := (hB.cell (p := ⟨b, o + j * 3 + 1, none⟩) hbl).trans d1
      have e2 := (hB.cell (p := ⟨b, o + j * 3 + 2, none⟩) hbl).trans d2
      have hst := ixF_at (g := fitsT d) hgt.out
      have htr1 : TreeAt wr ok (.agg #[.int .i64 x, .slice ya yn yc, .slice za zn zc]) t := htr.kept hB.size (fun b hk hlt => ⟨hk, hB.block b hlt⟩)
      have hca := fits1_any IH.out _ t _ ok htr1 (HD.out t (List.mem_of_getElem? hgt.out))
      generalize fitsT d t = s at *
      have HST := Lib.hid hst
      have HCA := Lib.hid hca
      clear d0 d1 d2 htr htr1 hst hca
      cases s
      · have hfin : ixF (fitsT d) ts 0 = j := by rw [HA.out, HST.out]; rfl
        have HF := Lib.hid hfin
        clear hfin
        go_wp2_with (go_at_call 106; refine HCA.out.mono ?_; rintro e w3 ⟨rfl, hb3⟩)
        go_ret
        exact ⟨by rw [HF.out]; rfl, hB.trans (hb3.mono hsz)⟩
      · go_wp2_with (go_at_call 106; refine HCA.out.mono ?_; rintro e w3 ⟨rfl, hb3⟩)
        go_roundw
        case rel => exact ⟨j + 1, by omega, by go_num, hB.trans (hb3.mono hsz), by show _ = _; rw [HA.out, HST.out]; rfl⟩
        case measure => simp [intOf]; omega
    · obtain rfl : j = n := by omega
      have hfin : ixF (fitsT d) ts 0 = -1 := by rw [HA.out, List.drop_of_length_le (by rw [HN.out]; exact Nat.le_refl _)]; rfl
      have HF := Lib.hid hfin
      clear hfin
      go_wp2_with fail
      go_ret
      exact ⟨by rw [HF.out]; rfl, hB⟩

set_option maxHeartbeats 1000000 in
theorem contains_any {d : Nat} (ih : FitsAt d) (v : Value) (ts : List TM) (w : World) (ok : Nat → Prop) (hts : PartsAt w ok v ts) (hd : ∀ t ∈ ts, DeepAt d t) :
    Calls Try.prog 105 #[v, .func (.func 106) #[] #[]] w fun e w' => e = .returned (.bool (!(ts.all (fitsT d)))) ∧ Below w.heap.size w w' := by
  have hca := index_any ih v ts w ok hts hd
  have hix := ixF_all (fitsT d) ts 0
  generalize ixF (fitsT d) ts 0 = z at *
  generalize ts.all (fitsT d) = b at *
  have HCA := Lib.hid hca
  have HIX := Lib.hid hix
  clear hca hts hd ih hix
  go_enter Try.func105, Try.ntmps105
  go_wp2_with (go_at_call 115; refine HCA.out.mono ?_; rintro e w3 ⟨rfl, hb3⟩)
  go_ret
  exact ⟨by rw [← HIX.out]; rfl, hb3⟩

set_option maxRecDepth 100000 in
set_option maxHeartbeats 4000000 in
theorem fits_any : ∀ d, FitsAt d := by
  intro d
  induction d with
  | zero => intro v t w ok _ h; exact h.elim
  | succ d ih =>
    intro v t w ok ht hdp
    obtain ⟨k, perm, ts⟩ := t
    obtain ⟨pv, tv, rfl, hp, hts⟩ := ht.parts
    have hB := fun o => (Below.refl w.heap.size w).alloc (Nat.le_refl _) o
    have hp1 := fun o => hp.below (hB o) (Nat.le_refl _)
    have hts1 := fun o => hts.keep (hB o)
    have hck := fun o => check_any _ perm _ (hp1 o)
    have hda : ∀ t ∈ ts, DeepAt d t := by rw [DeepAt] at hdp; exact hdp
    have hco := fun W (h : PartsAt W ok tv ts) => contains_any ih tv ts W ok h hda
    obtain ⟨a1, n1, c1, rfl, HN1, _⟩ := hp.open
    obtain ⟨a, n, cap, rfl, HN, hn⟩ := hts.open
    have hf : fitsT (d + 1) (.mk k perm ts) = if k = 0 then n == 0 && n1 == 0 else if k = 1 ∨ k = 2 then (if n < 2 ∨ 0 < n1 then false else ts.all (fitsT d)) else if k = 3 then (if n < 4 ∨ n1 ≠ n ∨ checkM perm ≠ 0 then false else ts.all (fitsT d)) else false := by
      rw [fitsT, HN.out, HN1.out]
    have HCK := Lib.hid hck
    have HCO := Lib.hid hco
    have HTS1 := Lib.hid hts1
    clear hp hts hp1 hts1 hck hda hco ih ht hdp hB
    generalize ts.all (fitsT d) = bA at *
    generalize fitsT (d + 1) (.mk k perm ts) = F at *
    have fin : ∀ b : Bool, F = b → Ending.returned (.bool b) = Ending.returned (.bool F) := fun b h => by rw [h]
    by_cases h0 : k = 0
    · subst h0
      rw [if_pos rfl] at hf
      by_cases h1 : n = 0
      · subst h1
        by_cases h2 : n1 = 0
        · subst h2
          have HF := Lib.hid (fin true (by rw [hf]; rfl)).symm
          clear fin hf HCK HCO
          go_enter Try.func82, Try.ntmps82
          go_wp2_with fail
          go_ret
          exact ⟨HF.out.symm, (Below.refl _ _).alloc (Nat.le_refl _) _⟩
        · have t2 : ((n1 : Int) == 0) = false := by simp; omega
          have HF := Lib.hid (fin false (by rw [hf]; simp [h2])).symm
          clear fin hf HCK HCO h2
          go_enter Try.func82, Try.ntmps82
          go_wp2_with fail
          go_ret
          exact ⟨HF.out.symm, (Below.refl _ _).alloc (Nat.le_refl _) _⟩
      · have t1 : ((n : Int) == 0) = false := by simp; omega
        have HF := Lib.hid (fin false (by rw [hf]; simp [h1])).symm
        clear fin hf HCK HCO h1
        go_enter Try.func82, Try.ntmps82
        go_wp2_with fail
        go_ret
        exact ⟨HF.out.symm, (Below.refl _ _).alloc (Nat.le_refl _) _⟩
    · have t0 : (k == 0) = false := by simpa using h0
      rw [if_neg h0] at hf
      by_cases h12 : k = 1 ∨ k = 2
      · rw [if_pos h12] at hf
        rcases h12 with rfl | rfl
        all_goals
          by_cases h1 : n < 2
          · have h1i : (n : Int) < 2 := by omega
            have HF := Lib.hid (fin false (by rw [hf, if_pos (.inl h1)])).symm
            clear fin hf HCK HCO h1 h0
            go_enter Try.func82, Try.ntmps82
            go_wp2_with fail
            go_ret
            exact ⟨HF.out.symm, (Below.refl _ _).alloc (Nat.le_refl _) _⟩
          · have h1i : ¬ (n : Int) < 2 := by omega
            by_cases h2 : 0 < n1
            · have h2i : (0 : Int) < n1 := by omega
              have HF := Lib.hid (fin false (by rw [hf, if_pos (.inr h2)])).symm
              clear fin hf HCK HCO h1 h0
              go_enter Try.func82, Try.ntmps82
              go_wp2_with fail
              go_ret
              exact ⟨HF.out.symm, (Below.refl _ _).alloc (Nat.le_refl _) _⟩
            · have h2i : ¬ (0 : Int) < n1 := by omega
              have HF := Lib.hid (fin bA (by rw [hf, if_neg (by omega)])).symm
              clear fin hf HCK h1 h0 h2
              go_enter Try.func82, Try.ntmps82
              go_wp2_with (go_at_call 105; refine (HCO.out _ (HTS1.out _)).mono ?_; rintro e w3 ⟨rfl, hb3⟩)
              go_ret
              exact ⟨HF.out.symm, ((Below.refl _ _).alloc (Nat.le_refl _) _).trans (hb3.mono (by simp))⟩
      · rw [if_neg h12] at hf
        have t1 : (k == 1) = false := by simp; omega
        have t2 : (k == 2) = false := by simp; omega
        by_cases h3 : k = 3
        · subst h3
          rw [if_pos rfl] at hf
          by_cases h1 : n < 4
          · have h1i : (n : Int) < 4 := by omega
            have HF := Lib.hid (fin false (by rw [hf, if_pos (.inl h1)])).symm
            clear fin hf HCK HCO h1 h0 h12
            go_enter Try.func82, Try.ntmps82
            go_wp2_with fail
            go_ret
            exact ⟨HF.out.symm, (Below.refl _ _).alloc (Nat.le_refl _) _⟩
          · have h1i : ¬ (n : Int) < 4 := by omega
            by_cases h2 : n1 = n
            · have h2i : ((n1 : Int) != n) = false := by simp; omega
              rcases check_or perm with hc | hc
              · have HF := Lib.hid (fin bA (by rw [hf, if_neg (by rw [hc]; omega)])).symm
                have HCC := Lib.hid hc
                clear fin hf h1 h0 h2 h12 hc
                go_enter Try.func82, Try.ntmps82
                go_wp2_with (first
                  | (go_at_call 63; refine (HCK.out _).mono ?_; rw [HCC.out]; rintro e w2 ⟨rfl, hb2⟩; have k2 := (Blk.new w 41 [.int .i64 3, .slice a1 n1 c1, .slice a n cap]).keep hb2; have q0 := k2.cell (j := 0) rfl; have q1 := k2.cell (j := 1) rfl; have q2 := k2.cell (j := 2) rfl)
                  | (go_at_call 105; refine (HCO.out _ ((HTS1.out _).keep hb2)).mono ?_; rintro e w3 ⟨rfl, hb3⟩))
                go_ret
                exact ⟨HF.out.symm, ((Below.refl _ _).alloc (Nat.le_refl _) _).trans ((hb2.mono (by simp)).trans (hb3.mono (by have := hb2.size; simp at this; omega)))⟩
              · have HF := Lib.hid (fin false (by rw [hf, if_pos (by rw [hc]; omega)])).symm
                have HCC := Lib.hid hc
                clear fin hf h1 h0 h2 h12 hc HCO
                go_enter Try.func82, Try.ntmps82
                go_wp2_with (go_at_call 63; refine (HCK.out _).mono ?_; rw [HCC.out]; rintro e w2 ⟨rfl, hb2⟩)
                go_ret
                exact ⟨HF.out.symm, ((Below.refl _ _).alloc (Nat.le_refl _) _).trans (hb2.mono (by simp))⟩
            · have h2i : ((n1 : Int) != n) = true := by simp; omega
              have HF := Lib.hid (fin false (by rw [hf, if_pos (.inr (.inl h2))])).symm
              clear fin hf HCK HCO h1 h0 h2 h12
              go_enter Try.func82, Try.ntmps82
              go_wp2_with fail
              go_ret
              exact ⟨HF.out.symm, (Below.refl _ _).alloc (Nat.le_refl _) _⟩
        · have t3 : (k == 3) = false := by simpa using h3
          have HF := Lib.hid (fin false (by rw [hf, if_neg h3])).symm
          clear fin hf HCK HCO h0 h12 h3
          go_enter Try.func82, Try.ntmps82
          go_wp2_with fail
          go_ret
          exact ⟨HF.out.symm, (Below.refl _ _).alloc (Nat.le_refl _) _⟩
end Go.Proofs.Ytgajaccnjjiiaaa
