/- slices.Insert of one integer, on a list of the call's own. -/
import Derived.Test.YtgajaccnjjiiaaaW23
import Derived.Test.YtgajaccnjjiiaaaW16
import Derived.Shelf.Spec.SlicesInsert
import Derived.Shelf.Spec.SlicesInsertGrow
namespace Go.Proofs.Ytgajaccnjjiiaaa
open Go.RowKit Go.Shelf

def lays21_ren : Go.Shelf.Ren := ⟨fun | 21 => 110 | 27 => 116 | 28 => 117 | 35 => 122 | 39 => 93 | n => n, fun | 22 => 22 | 3 => 3 | 4 => 4 | 0 => 0 | n => n, fun | n => n⟩
theorem lays21 : Go.Proofs.Lays2.n21 Try.prog lays21_ren := {
  mixed := by kernel_rfl
  f21 := Try.func110.trans (congrArg some (by kernel_rfl))
  f27 := Try.func116.trans (congrArg some (by kernel_rfl))
  f28 := Try.func117.trans (congrArg some (by kernel_rfl))
  f35 := Try.func122.trans (congrArg some (by kernel_rfl))
  f39 := Try.func93.trans (congrArg some (by kernel_rfl))
  t0 := Try.underlying0
  a0 := Try.isAgg0
  z0 := Try.sizeOf0
  v0 := Try.zeroValue0
  t3 := Try.underlying3
  a3 := Try.isAgg3
  z3 := Try.sizeOf3
  v3 := Try.zeroValue3
  t4 := Try.underlying4
  a4 := Try.isAgg4
  z4 := Try.sizeOf4
  v4 := Try.zeroValue4
  t22 := Try.underlying22
  a22 := Try.isAgg22
  z22 := Try.sizeOf22
  v22 := Try.zeroValue22
  i3 := by kernel_rfl }

/-- values put over a list, from a place on -/
def putL (L : List Value) : Nat → List Value → List Value
  | _, [] => L
  | o, v :: vs => putL (L.set o v) (o + 1) vs
theorem putL_len (vs : List Value) : ∀ (o : Nat) (L : List Value), (putL L o vs).length = L.length := by
  induction vs with
  | nil => intro o L; rfl
  | cons v vs ih => intro o L; rw [putL, ih]; simp
theorem putL_get (vs : List Value) : ∀ (o : Nat) (L : List Value), o + vs.length ≤ L.length → ∀ j, (putL L o vs)[j]? = if o ≤ j ∧ j < o + vs.length then vs[j - o]? else L[j]? := by
  induction vs with
  | nil => intro o L _ j; rw [putL, if_neg (by simp only [List.length_nil]; omega)]
  | cons v vs ih =>
    intro o L h j
    simp only [List.length_cons] at h ⊢
    rw [putL, ih (o + 1) (L.set o v) (by simp; omega) j]
    by_cases h1 : o = j
    · subst h1
      rw [if_neg (by omega), if_pos (by omega), Nat.sub_self, List.getElem?_set_self (by omega)]
      try rfl
    · by_cases h2 : o + 1 ≤ j ∧ j < o + 1 + vs.length
      · rw [if_pos h2, if_pos (by omega), show j - o = (j - (o + 1)) + 1 by omega]
        rfl
      · rw [if_neg h2, if_neg (by omega), List.getElem?_set_ne h1]
theorem Blk.setCells {g : Nat} {e : TypeId} (vs : List Value) : ∀ {w : World} {L : List Value} (o : Nat), Blk w g e L → Blk (w.setCells g o vs) g e (putL L o vs) := by
  induction vs with
  | nil => intro w L o h; exact h
  | cons v vs ih => intro w L o h; exact ih (o + 1) (h.set o v)
theorem belowSC {B g : Nat} (hg : B ≤ g) (vs : List Value) : ∀ {w0 w : World} (o : Nat), Below B w0 w → Below B w0 (w.setCells g o vs) := by
  induction vs with
  | nil => intro w0 w o h; exact h
  | cons v vs ih => intro w0 w o h; exact ih (o + 1) (h.setCell (p := ⟨g, o, none⟩) hg v)

theorem Own.of_blk {w : World} {base g cap : Nat} {e : TypeId} {zs : List Int} {L : List Value} (h : Blk w g e L) (hb : base ≤ g) (hc : L.length = cap) (hm : cap ≤ maxLen) (ht : ∀ j : Nat, j < zs.length → L[j]? = some (.int .i64 (zs.getD j 0))) (hl : zs.length ≤ cap) :
    Own w base e (.slice (some ⟨g, 0, none⟩) zs.length cap) zs := by
  refine ⟨by simp, .inr ⟨g, cap, L.toArray, rfl, hb, h, hl, hm, by simpa using hc, ?_⟩⟩
  apply List.ext_getElem?
  intro j
  rw [Nat.mul_one]
  by_cases hj : j < zs.length
  · rw [List.getElem?_take_of_lt hj]
    show L[j]? = _
    rw [ht j hj]
    simp [I64s, List.getD, hj]
  · rw [List.getElem?_take_eq_none (by omega), List.getElem?_eq_none (by simp; omega)]
theorem Own.blk {w : World} {base : Nat} {e : TypeId} {v : Value} {zs : List Int} (h : Own w base e v zs) : (v = .slice none 0 0 ∧ zs = []) ∨
    ∃ g cap L, v = .slice (some ⟨g, 0, none⟩) zs.length cap ∧ base ≤ g ∧ Blk w g e L ∧ L.length = cap ∧ zs.length ≤ cap ∧ cap ≤ maxLen ∧ ∀ (j : Nat) (x : Int), zs[j]? = some x → L[j]? = some (.int .i64 x) := by
  rcases h.2 with ⟨rfl, hz⟩ | ⟨g, cap, cur, rfl, hb, hg, hn, hm, hs, ht⟩
  · exact .inl ⟨rfl, List.eq_nil_of_length_eq_zero hz⟩
  · refine .inr ⟨g, cap, cur.toList, rfl, hb, by simpa [Blk] using hg, by simpa using hs, hn, hm, fun j x hj => ?_⟩
    have h2 : (I64s zs)[j]? = some (.int .i64 x) := i64s_get hj
    have hjl : j < zs.length := (List.getElem?_eq_some_iff.1 hj).1
    rw [← ht, List.getElem?_take_of_lt (by omega)] at h2
    exact h2

/-- a list with one more value at a place -/
def insM (zs : List Int) (i : Nat) (x : Int) : List Int := zs.take i ++ x :: zs.drop i
theorem insM_len (zs : List Int) (i : Nat) (x : Int) (h : i ≤ zs.length) : (insM zs i x).length = zs.length + 1 := by simp [insM]; omega
theorem insM_getD {zs : List Int} {i : Nat} (x : Int) (h : i ≤ zs.length) (j : Nat) : (insM zs i x).getD j 0 = if j < i then zs.getD j 0 else if j = i then x else zs.getD (j - 1) 0 := by
  unfold insM
  by_cases h1 : j < i
  · rw [if_pos h1, List.getD_eq_getElem?_getD, List.getElem?_append_left (by simp; omega), List.getElem?_take_of_lt h1, ← List.getD_eq_getElem?_getD]
  · rw [if_neg h1, List.getD_eq_getElem?_getD, List.getElem?_append_right (by simp; omega), List.length_take, Nat.min_eq_left h]
    by_cases h2 : j = i
    · subst h2; rw [if_pos rfl, Nat.sub_self]; rfl
    · rw [if_neg h2, show j - i = (j - 1 - i) + 1 by omega, List.getElem?_cons_succ, List.getElem?_drop, show i + (j - 1 - i) = j - 1 by omega, ← List.getD_eq_getElem?_getD]

theorem zeroCells_len (n : Nat) : (Builtin.zeroCells (Value.int .i64 0).cells n).toList.length = n := by
  rw [Array.length_toList, size_zeroCells]; simp [Value.cells]

set_option maxHeartbeats 1000000 in
theorem insert_own (w : World) (base : Nat) (v : Value) (zs : List Int) (x : Int) (i : Nat) (hown : Own w base 3 v zs) (hb : base ≤ w.heap.size) (hi : i ≤ zs.length) (hl : zs.length ≤ 1000) :
    Calls Try.prog 110 #[v, .int .i64 i, .slice (some ⟨w.heap.size, 0, none⟩) 1 1] (w.alloc (.cells #[.int .i64 x] 3)) fun e w' => ∃ v', e = .returned v' ∧ Own w' base 3 v' (insM zs i x) ∧ Below base w w' := by
  have hx := Blk.new w 3 [.int .i64 x]
  have hB1 : Below base w (w.alloc (.cells #[.int .i64 x] 3)) := (Below.refl base w).alloc hb _
  have hvs : ∀ j u, [Value.int .i64 x][j]? = some u → (w.alloc (.cells #[.int .i64 x] 3)).cell? ⟨w.heap.size, 0 + j, none⟩ = some u := by
    intro j u hj; rw [Nat.zero_add]; exact hx.cell hj
  have hone : ∀ u ∈ [Value.int .i64 x], u.oneCell' = true := by intro u hu; simp at hu; subst hu; rfl
  have honeZ : ∀ u ∈ I64s zs, u.oneCell' = true := by intro u hu; simp at hu; obtain ⟨z, _, rfl⟩ := hu; rfl
  have hlen := insM_len zs i x hi
  have hgd := insM_getD x hi
  rcases (hown.blk) with ⟨rfl, rfl⟩ | ⟨g, cap, L, rfl, hbg, hblk, hLl, hzc, hcm, hLg⟩
  · -- nil: a new row
    obtain rfl : i = 0 := by simpa using hi
    have h := Any2.slices_Insert_int_end_grow lays21 none 0 0 w.heap.size 0 1 1 [] [.int .i64 x] (w.alloc (.cells #[.int .i64 x] 3)) (by omega) (by omega) (by omega) (by omega) rfl rfl (fun _ => rfl) (fun a h => by cases h) hvs hone
    refine Calls.mono h ?_
    rintro e w' ⟨rfl, rfl⟩
    have hge := grownCap_ge (w.alloc (.cells #[.int .i64 x] 3)) (0 + 1) 0 3
    have hle := grownCap_le_maxLen (w.alloc (.cells #[.int .i64 x] 3)) (0 + 1) 0 3 (by unfold maxLen; omega)
    change 0 + 1 ≤ grownCap (w.alloc (.cells #[.int .i64 x] 3)) (0 + 1) 0 (lays21_ren.t 3) at hge
    change grownCap (w.alloc (.cells #[.int .i64 x] 3)) (0 + 1) 0 (lays21_ren.t 3) ≤ maxLen at hle
    generalize grownCap (w.alloc (.cells #[.int .i64 x] 3)) (0 + 1) 0 (lays21_ren.t 3) = C at *
    refine ⟨_, rfl, ?_, (hB1.drewN' 1).alloc (by simp; omega) _⟩
    have hnb := Blk.new (w.alloc (.cells #[.int .i64 x] 3)).drew 3 (.int .i64 x :: (Builtin.zeroCells (Value.int .i64 0).cells (C - (0 + 1))).toList)
    have hres := Own.of_blk (zs := insM [] 0 x) (base := base) hnb (by simp; omega) (cap := C) (by rw [List.length_cons, zeroCells_len]; omega) hle (by
      intro j hj
      have : j = 0 := by rw [hlen] at hj; simpa using hj
      subst this; rfl) (by rw [hlen]; simpa using hge)
    rw [hlen] at hres
    have e : ((([] : List Value) ++ [Value.int .i64 x]).toArray ++ Builtin.zeroCells (Value.int .i64 0).cells (C - (0 + 1))) = (Value.int .i64 x :: (Builtin.zeroCells (Value.int .i64 0).cells (C - (0 + 1))).toList).toArray := by
      apply Array.ext'; simp
    rw [e]
    exact hres
  · have hg1 : g < w.heap.size := hblk.lt
    have hne : w.heap.size ≠ g := by omega
    have hblk1 : Blk (w.alloc (.cells #[.int .i64 x] 3)) g 3 L := hblk.alloc _
    have hcs : ∀ j u, (I64s zs)[j]? = some u → (w.alloc (.cells #[.int .i64 x] 3)).cell? ⟨g, 0 + j, none⟩ = some u := by
      intro j u hj
      simp only [I64s, List.getElem?_map, Option.map_eq_some_iff] at hj
      obtain ⟨z, hz, rfl⟩ := hj
      rw [Nat.zero_add]
      exact hblk1.cell (hLg j z hz)
    have hcell : ∀ j, j < cap → ((w.alloc (.cells #[.int .i64 x] 3)).cell? ⟨g, 0 + j, none⟩).isSome = true := by
      intro j hj
      rw [Nat.zero_add, hblk1.cell (List.getElem?_eq_getElem (by omega : j < L.length))]; rfl
    have hfz : ∀ j, (w.alloc (.cells #[.int .i64 x] 3)).frozen? ⟨g, j, none⟩ = false := fun j => hblk1.free j
    have hzd : ∀ j, j < zs.length → L[j]? = some (.int .i64 (zs.getD j 0)) := fun j hj => hLg j _ (getD_of hj)
    have hcm' : cap ≤ 9223372036854775807 := hcm
    by_cases hroom : zs.length + 1 ≤ cap
    · by_cases hend : i = zs.length
      · -- at the end, in place
        subst hend
        have h := Any2.slices_Insert_int_end_room lays21 g 0 zs.length cap w.heap.size 0 1 1 [.int .i64 x] (w.alloc (.cells #[.int .i64 x] 3)) (by omega) hroom hcm' rfl
          (fun j hj => by have := hcell (zs.length + j) (by omega); rw [← Nat.add_assoc] at this; exact this) (fun j _ => hfz _) hvs hone
        refine Calls.mono h ?_
        rintro e w' ⟨rfl, rfl⟩
        refine ⟨_, rfl, ?_, belowSC hbg _ _ hB1⟩
        have hnb := Blk.setCells [.int .i64 x] (0 + zs.length) hblk1
        have hpg := putL_get [.int .i64 x] (0 + zs.length) L (by simp; omega)
        have hres := Own.of_blk (zs := insM zs zs.length x) (base := base) hnb hbg (cap := cap) (by rw [putL_len]; exact hLl) hcm (by
          intro j hj
          rw [hlen] at hj
          rw [hpg, hgd]
          simp only [List.length_cons, List.length_nil]
          by_cases h1 : j < zs.length
          · rw [if_neg (by omega), if_pos h1, hzd j h1]
          · rw [if_pos (by omega), if_neg h1, if_pos (by omega), show j - (0 + zs.length) = 0 by omega]; rfl) (by rw [hlen]; exact hroom)
        rw [hlen] at hres
        exact hres
      · -- in place, with a shift
        have hil : i < zs.length := by omega
        have h := Any2.slices_Insert_int_shift lays21 g 0 zs.length cap i w.heap.size 0 1 1 (I64s zs) [.int .i64 x] (w.alloc (.cells #[.int .i64 x] 3)) hil (by omega) hroom hcm' hne (by simp) rfl hcs (fun j hj => hcell j (by omega)) (fun j _ => hfz _) hvs honeZ hone
          3 3 1 cap (by
            have := hx
            unfold Blk at this
            unfold World.shape?
            rw [show (w.alloc (.cells #[.int .i64 x] 3)).heap[w.heap.size]? = some (.cells #[.int .i64 x] 3 (0, 0)) from this]; rfl) (by
            have := hblk1
            unfold Blk at this
            unfold World.shape?
            rw [this]; simp [hLl]) (by omega) (hx.free 0) (hx.free 1)
        refine Calls.mono h ?_
        rintro e w' ⟨rfl, rfl⟩
        refine ⟨_, rfl, ?_, belowSC hbg _ _ (belowSC hbg _ _ (hB1.drewN' 1))⟩
        have hblk2 : Blk (w.alloc (.cells #[.int .i64 x] 3)).drew g 3 L := hblk1
        have hnb := Blk.setCells [.int .i64 x] (0 + i) (Blk.setCells ((I64s zs).drop i) (0 + (i + 1)) hblk2)
        have hpl : (putL L (0 + (i + 1)) ((I64s zs).drop i)).length = L.length := putL_len _ _ _
        have hpg1 := putL_get ((I64s zs).drop i) (0 + (i + 1)) L (by simp; omega)
        have hpg := putL_get [.int .i64 x] (0 + i) (putL L (0 + (i + 1)) ((I64s zs).drop i)) (by rw [hpl]; simp; omega)
        have hres := Own.of_blk (zs := insM zs i x) (base := base) hnb hbg (cap := cap) (by rw [putL_len, hpl]; exact hLl) hcm (by
          intro j hj
          rw [hlen] at hj
          rw [hpg, hgd, hpg1]
          simp only [List.length_cons, List.length_nil, List.length_drop, List.length_map]
          by_cases h1 : j < i
          · rw [if_neg (by omega), if_neg (by omega), if_pos h1, hzd j (by omega)]
          · by_cases h2 : j = i
            · rw [if_pos (by omega), if_neg h1, if_pos h2, show j - (0 + i) = 0 by omega]; rfl
            · rw [if_neg (by omega), if_pos (by omega), if_neg h1, if_neg h2, List.getElem?_drop, show i + (j - (0 + (i + 1))) = j - 1 by omega]
              simp [I64s, List.getD, show j - 1 < zs.length by omega]) (by rw [hlen]; exact hroom)
        rw [hlen] at hres
        exact hres
    · have hcz : cap = zs.length := by omega
      by_cases hend : i = zs.length
      · subst hend
        have h := Any2.slices_Insert_int_end_grow lays21 (some ⟨g, 0, none⟩) zs.length cap w.heap.size 0 1 1 (I64s zs) [.int .i64 x] (w.alloc (.cells #[.int .i64 x] 3)) (by omega) hzc (by omega) (by omega) (by simp) rfl (fun h => by cases h)
          (fun a ha j u hj => by
            cases ha
            have e : (⟨g, 0, none⟩ : Addr).add j = ⟨g, 0 + j, none⟩ := by
              unfold Addr.add
              split
              · rename_i h; subst h; rfl
              · rfl
            rw [e]; exact hcs j u hj) hvs hone
        refine Calls.mono h ?_
        rintro e w' ⟨rfl, rfl⟩
        have hge := grownCap_ge (w.alloc (.cells #[.int .i64 x] 3)) (zs.length + 1) cap 3
        have hle := grownCap_le_maxLen (w.alloc (.cells #[.int .i64 x] 3)) (zs.length + 1) cap 3 (by unfold maxLen; omega)
        change zs.length + 1 ≤ grownCap (w.alloc (.cells #[.int .i64 x] 3)) (zs.length + 1) cap (lays21_ren.t 3) at hge
        change grownCap (w.alloc (.cells #[.int .i64 x] 3)) (zs.length + 1) cap (lays21_ren.t 3) ≤ maxLen at hle
        generalize grownCap (w.alloc (.cells #[.int .i64 x] 3)) (zs.length + 1) cap (lays21_ren.t 3) = C at *
        refine ⟨_, rfl, ?_, (hB1.drewN' 1).alloc (by simp; omega) _⟩
        have hnb := Blk.new (w.alloc (.cells #[.int .i64 x] 3)).drew 3 ((I64s zs ++ [.int .i64 x]) ++ (Builtin.zeroCells (Value.int .i64 0).cells (C - (zs.length + 1))).toList)
        have hres := Own.of_blk (zs := insM zs zs.length x) (base := base) hnb (by simp; omega) (cap := C) (by rw [List.length_append, zeroCells_len]; simp; omega) hle (by
          intro j hj
          rw [hlen] at hj
          rw [hgd, List.getElem?_append_left (by simp; omega)]
          by_cases h1 : j < zs.length
          · rw [if_pos h1, List.getElem?_append_left (by simp; omega)]
            simp [I64s, List.getD, h1]
          · rw [if_neg h1, if_pos (by omega), List.getElem?_append_right (by simp; omega)]
            simp [show j - zs.length = 0 by omega]) (by rw [hlen]; exact hge)
        rw [hlen] at hres
        have e : ((I64s zs ++ [Value.int .i64 x]).toArray ++ Builtin.zeroCells (Value.int .i64 0).cells (C - (zs.length + 1))) = ((I64s zs ++ [Value.int .i64 x]) ++ (Builtin.zeroCells (Value.int .i64 0).cells (C - (zs.length + 1))).toList).toArray := by
          apply Array.ext'; simp
        rw [e]
        exact hres
      · have hil : i < zs.length := by omega
        have h := Any2.slices_Insert_int_grow lays21 g 0 zs.length cap i w.heap.size 0 1 1 (I64s zs) [.int .i64 x] (w.alloc (.cells #[.int .i64 x] 3)) hil (by omega) hzc (by omega) (by omega) (by simp) rfl hcs hvs honeZ hone
        refine Calls.mono h ?_
        rintro e w' ⟨rfl, rfl⟩
        have hge := grownCap_ge (w.alloc (.cells #[.int .i64 x] 3)) (zs.length + 1) cap 3
        have hle := grownCap_le_maxLen (w.alloc (.cells #[.int .i64 x] 3)) (zs.length + 1) cap 3 (by unfold maxLen; omega)
        change zs.length + 1 ≤ grownCap (w.alloc (.cells #[.int .i64 x] 3)) (zs.length + 1) cap (lays21_ren.t 3) at hge
        change grownCap (w.alloc (.cells #[.int .i64 x] 3)) (zs.length + 1) cap (lays21_ren.t 3) ≤ maxLen at hle
        generalize grownCap (w.alloc (.cells #[.int .i64 x] 3)) (zs.length + 1) cap (lays21_ren.t 3) = C at *
        have hzs1 : base ≤ (w.alloc (.cells #[.int .i64 x] 3)).heap.size := by simp; omega
        have e : (((I64s zs).take i).toArray ++ Builtin.zeroCells (Value.int .i64 0).cells (zs.length + 1 - i) ++ Builtin.zeroCells (Value.int .i64 0).cells (C - (zs.length + 1))) = (((I64s zs).take i ++ (Builtin.zeroCells (Value.int .i64 0).cells (zs.length + 1 - i)).toList) ++ (Builtin.zeroCells (Value.int .i64 0).cells (C - (zs.length + 1))).toList).toArray := by
          apply Array.ext'; simp
        rw [e]
        have hL0 : (((I64s zs).take i ++ (Builtin.zeroCells (Value.int .i64 0).cells (zs.length + 1 - i)).toList) ++ (Builtin.zeroCells (Value.int .i64 0).cells (C - (zs.length + 1))).toList).length = C := by
          rw [List.length_append, List.length_append, zeroCells_len, zeroCells_len, List.length_take]; simp; omega
        have hLg0 : ∀ j, j < i → (((I64s zs).take i ++ (Builtin.zeroCells (Value.int .i64 0).cells (zs.length + 1 - i)).toList) ++ (Builtin.zeroCells (Value.int .i64 0).cells (C - (zs.length + 1))).toList)[j]? = some (.int .i64 (zs.getD j 0)) := by
          intro j hj
          rw [List.append_assoc, List.getElem?_append_left (by simp; omega), List.getElem?_take_of_lt hj]
          simp [I64s, List.getD, show j < zs.length by omega]
        generalize (((I64s zs).take i ++ (Builtin.zeroCells (Value.int .i64 0).cells (zs.length + 1 - i)).toList) ++ (Builtin.zeroCells (Value.int .i64 0).cells (C - (zs.length + 1))).toList) = L0 at *
        refine ⟨_, rfl, ?_, belowSC hzs1 _ _ ((belowSC hzs1 _ _ ((hB1.alloc hzs1 _).drewN' 1)).drewN' 1)⟩
        have hn0 : Blk ((w.alloc (.cells #[.int .i64 x] 3)).alloc (.cells L0.toArray 3)).drew (w.alloc (.cells #[.int .i64 x] 3)).heap.size 3 L0 := Blk.new (w.alloc (.cells #[.int .i64 x] 3)) 3 L0
        have hn1 : Blk ((((w.alloc (.cells #[.int .i64 x] 3)).alloc (.cells L0.toArray 3)).drew.setCells (w.alloc (.cells #[.int .i64 x] 3)).heap.size i [.int .i64 x]).drew) (w.alloc (.cells #[.int .i64 x] 3)).heap.size 3 (putL L0 i [.int .i64 x]) := Blk.setCells [.int .i64 x] i hn0
        have hnb := Blk.setCells ((I64s zs).drop i) (i + 1) hn1
        have hpl : (putL L0 i [.int .i64 x]).length = L0.length := putL_len _ _ _
        have hpg1 := putL_get [.int .i64 x] i L0 (by simp; omega)
        have hpg := putL_get ((I64s zs).drop i) (i + 1) (putL L0 i [.int .i64 x]) (by rw [hpl]; simp; omega)
        have hres := Own.of_blk (zs := insM zs i x) (base := base) hnb hzs1 (cap := C) (by rw [putL_len, hpl]; exact hL0) hle (by
          intro j hj
          rw [hlen] at hj
          rw [hpg, hgd, hpg1]
          simp only [List.length_cons, List.length_nil, List.length_drop, List.length_map]
          by_cases h1 : j < i
          · rw [if_neg (by omega), if_neg (by omega), if_pos h1, hLg0 j h1]
          · by_cases h2 : j = i
            · rw [if_neg (by omega), if_pos (by omega), if_neg h1, if_pos h2, show j - i = 0 by omega]; rfl
            · rw [if_pos (by omega), if_neg h1, if_neg h2, List.getElem?_drop, show i + (j - (i + 1)) = j - 1 by omega]
              simp [I64s, List.getD, show j - 1 < zs.length by omega]) (by rw [hlen]; exact hge)
        rw [hlen] at hres
        exact hres
end Go.Proofs.Ytgajaccnjjiiaaa
