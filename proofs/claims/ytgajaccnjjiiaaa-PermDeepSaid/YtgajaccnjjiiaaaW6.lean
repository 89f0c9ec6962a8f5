import Derived.Test.YtgajaccnjjiiaaaW5
import Derived.Test.YtgajaccnjjiiaaaLibB
namespace Go.Proofs.Ytgajaccnjjiiaaa
open Go.RowKit

theorem Try.size117 : (Try.prog.info? 117).map (·.size) = some 60 := by kernel_rfl
theorem Try.cells4 : Try.prog.cellsOf 4 = 1 := by kernel_rfl
theorem Try.info4 : (Try.prog.info? 4).isSome = true := by kernel_rfl
def fullL (n : Nat) : List Bool := (List.range 60).map (fun j => decide (j < n))
theorem fullL_len (n : Nat) : (fullL n).length = 60 := by simp [fullL]
theorem fullL_set (n : Nat) : (fullL n).set n true = fullL (n + 1) := by
  apply List.ext_getElem?
  intro j
  by_cases hj : j < 60
  · by_cases he : n = j
    · subst he; simp [fullL, hj]
    · rw [List.getElem?_set_ne he]; simp [fullL, hj]; omega
  · rw [List.getElem?_eq_none (by simp [fullL]; omega), List.getElem?_eq_none (by simp [fullL]; omega)]
theorem fullL_zero : fullL 0 = List.replicate 60 false := by decide
theorem bools_set (l : List Bool) (j : Nat) (x : Bool) : (bools l).set j (.bool x) = bools (l.set j x) := by simp [bools, List.map_set]
theorem bools_get {l : List Bool} {j : Nat} {x : Bool} (h : l[j]? = some x) : (bools l)[j]? = some (.bool x) := by simp [bools, h]
theorem bools_one (l : List Bool) : ∀ v ∈ bools l, v.oneCell' = true := by intro v hv; simp [bools] at hv; rcases hv with ⟨_, rfl⟩ | ⟨_, rfl⟩ <;> rfl

set_option maxRecDepth 100000 in
set_option maxHeartbeats 1000000 in
theorem full_any (n : Nat) (w : World) (hn : n ≤ 60) :
    Calls Try.prog 98 #[.int .i64 n] w fun e w' => e = .returned (.agg (bools (fullL n)).toArray) ∧ Below w.heap.size w w' := by
  go_enter Try.func98, Try.ntmps98
  go_wp2_with fail
  go_loopw [6] (fun i wr => ∃ k : Nat, k ≤ n ∧ i = .int .i64 k ∧ Blk wr w.heap.size 117 (bools (List.replicate 60 false)) ∧ Blk wr (w.heap.size + 1) 117 (bools (fullL k)) ∧ Below w.heap.size w wr) (fun i _ => n - (intOf i).toNat)
  case atStart => 
    refine ⟨0, by omega, rfl, ?_, ?_, ((Below.refl _ _).alloc (Nat.le_refl _) _).alloc (by simp) _⟩
    · exact (Blk.new w 117 (bools (List.replicate 60 false))).alloc _
    · rw [fullL_zero]
      have := Blk.new (w.alloc (.cells (bools (List.replicate 60 false)).toArray 117)) 117 (bools (List.replicate 60 false))
      simpa using this
  case round =>
    obtain ⟨k, hk, rfl, hk1, hk2, hB⟩ := hrel
    by_cases hlt : k < n
    · obtain ⟨b, hb⟩ : ∃ b, (fullL k)[k]? = some b := ⟨_, List.getElem?_eq_getElem (by rw [fullL_len]; omega)⟩
      have c1 := hk2.cell (bools_get hb)
      have f1 := hk2.free k
      have HBb := Lib.hid hb; clear hb
      go_wp2_with fail
      go_roundw
      case rel => 
        refine ⟨k + 1, by omega, by go_num, hk1.other (by simp) _, ?_, hB.setCell (by simp) _⟩
        have := hk2.set k (.bool true)
        rw [bools_set, fullL_set] at this
        exact this
      case measure => simp [intOf]; omega
    · obtain rfl : k = n := by omega
      have h60 : (bools (List.replicate 60 false)).length = (bools (fullL k)).length := by simp [fullL_len]
      have h61 : (bools (fullL k)).length = 60 := by simp [fullL_len]
      have H60 := Lib.hid h60
      have H61 := Lib.hid h61
      clear h60 h61
      go_wp2_with (first | (with_reducible show wpList _ _ _ (Oper.mk _ (Op.load 117 _) _ _ _ _ :: _) _ _; (refine wpList_loadB hk2 Try.size117 H61.out Try.underlying117 rfl rfl _ rfl rfl ?_)) | (with_reducible show wpList _ _ _ (Oper.mk _ (Op.store 117 _ _) _ _ _ _ :: _) _ _; (refine wpList_storeB (vs := bools (fullL k)) hk1 Try.size117 H61.out H60.out (bools_one _) rfl _ _ rfl rfl rfl ?_); have hk3 := hk1.setAll H60.out; have hB3 := below_setCells (Nat.le_refl _) (bools (fullL k)) 0 hB; generalize wr.setCells w.heap.size 0 (bools (fullL k)) = w9 at hk3 hB3 ⊢))
      exact bodyPost_ret (results_cell_row rfl _ _ w.heap.size 117 (bools (fullL k)).toArray (0, 0) _ rfl hk3 Try.underlying117 rfl (by rw [Try.size117]; simp [fullL_len])) rfl ⟨rfl, hB3⟩

theorem ret_eq {a b : Int} (h : b = a) : Ending.returned (.int .i64 a) = Ending.returned (.int .i64 b) := by rw [h]
def markAll (l : List Int) (m : List Bool) : List Bool := l.foldl (fun m x => m.set x.toNat true) m
theorem markAll_len (l : List Int) (m : List Bool) : (markAll l m).length = m.length := by
  induction l generalizing m with
  | nil => rfl
  | cons x l ih => simp only [markAll, List.foldl_cons] at ih ⊢; rw [ih]; simp
theorem markAll_snoc (l : List Int) (x : Int) (m : List Bool) : markAll (l ++ [x]) m = (markAll l m).set x.toNat true := by simp [markAll]
def zero60 : List Bool := List.replicate 60 false
def inRange (p : List Int) : Bool := p.all (fun x => decide (0 ≤ x) && decide (x < p.length))
/-- what Check returns -/
def checkM (p : List Int) : Int :=
  if p.length < 1 ∨ 60 < p.length then 20 else if inRange p = false then 20 else if markAll p zero60 = fullL p.length then 0 else 20
theorem take_snoc' {p : List Int} {k : Nat} {x : Int} (h : p[k]? = some x) : p.take (k + 1) = p.take k ++ [x] := by
  rw [List.take_add_one, h]; rfl

theorem check_out {p : List Int} {n : Nat} {x : Int} (hn : p.length = n) (hx : x ∈ p) (h : x < 0 ∨ (n : Int) ≤ x) : checkM p = 20 := by
  have : inRange p = false := by
    rw [Bool.eq_false_iff]
    intro hr
    unfold inRange at hr
    rw [List.all_eq_true] at hr
    have := hr x hx
    simp only [Bool.and_eq_true, decide_eq_true_eq] at this
    omega
  unfold checkM
  rw [this]
  simp
theorem check_in {p : List Int} {n : Nat} (hn : p.length = n) (h1 : ¬ n < 1) (h2 : ¬ 60 < n) (h : ∀ x ∈ p, 0 ≤ x ∧ x < (n : Int)) : checkM p = if markAll p zero60 = fullL n then 0 else 20 := by
  have : inRange p = true := by
    unfold inRange
    rw [List.all_eq_true]
    intro x hx
    have := h x hx
    simp only [Bool.and_eq_true, decide_eq_true_eq]
    omega
  unfold checkM
  rw [this, hn, if_neg (by omega)]
  simp

set_option maxRecDepth 100000 in
set_option maxHeartbeats 2000000 in
theorem check_any (v : Value) (p : List Int) (w : World) (hv : Ints w v p) :
    Calls Try.prog 63 #[v] w fun e w' => e = .returned (.int .i64 (checkM p)) ∧ Below w.heap.size w w' := by
  obtain ⟨ad, n, cap, rfl, HN, hn'⟩ := hv.open
  by_cases h1 : n < 1
  · obtain rfl : n = 0 := by omega
    have hc : checkM p = 20 := by unfold checkM; rw [HN.out]; simp
    have HC := Lib.hid hc; clear hc
    clear h1 hn'
    go_enter Try.func63, Try.ntmps63
    go_wp2_with fail
    go_ret
    exact ⟨ret_eq HC.out, Below.refl _ _⟩
  by_cases h2 : 60 < n
  · have hc : checkM p = 20 := by unfold checkM; rw [HN.out, if_pos (.inr h2)]
    have HC := Lib.hid hc; clear hc
    go_enter Try.func63, Try.ntmps63
    go_wp2_with fail
    go_ret
    exact ⟨ret_eq HC.out, Below.refl _ _⟩
  · go_enter Try.func63, Try.ntmps63
    go_wp2_with fail
    go_loopw [16] (fun i wr => ∃ k : Nat, k ≤ n ∧ i = .int .i64 k ∧ Blk wr w.heap.size 117 (bools (markAll (p.take k) zero60)) ∧ Below w.heap.size w wr ∧ Hid (∀ x ∈ p.take k, 0 ≤ x ∧ x < n)) (fun i _ => n - (intOf i).toNat)
    case atStart => 
      refine ⟨0, by omega, rfl, ?_, (Below.refl _ _).alloc (Nat.le_refl _) _, by show ∀ _ ∈ _, _; simp⟩
      exact Blk.new w 117 (bools (List.replicate 60 false))
    case round =>
      obtain ⟨k, hk, rfl, hk1, hB, HR⟩ := hrel
      by_cases hlt : k < n
      · obtain ⟨B, o, x, rfl, hx, c1⟩ := (hv.below hB (Nat.le_refl _)).at_ hlt
        by_cases hx0 : x < 0
        · have hc : checkM p = 20 := check_out HN.out (List.mem_of_getElem? hx.out) (.inl hx0)
          have HC := Lib.hid hc; clear hc
          go_wp2_with fail
          go_ret
          exact ⟨ret_eq HC.out, hB⟩
        · by_cases hx1 : n ≤ x
          · have hc : checkM p = 20 := check_out HN.out (List.mem_of_getElem? hx.out) (.inr hx1)
            have HC := Lib.hid hc; clear hc
            go_wp2_with fail
            go_ret
            exact ⟨ret_eq HC.out, hB⟩
          · obtain ⟨b, hb⟩ : ∃ b, (markAll (p.take k) zero60)[x.toNat]? = some b := ⟨_, List.getElem?_eq_getElem (by rw [markAll_len]; simp [zero60]; omega)⟩
            have c2 := hk1.cell (bools_get hb)
            have f2 := hk1.free x.toNat
            have HBb := Lib.hid hb; clear hb
            go_wp2_with fail
            go_roundw
            case rel => 
              refine ⟨k + 1, by omega, by go_num, ?_, hB.setCell (by simp) _, ?_⟩
              · rw [take_snoc' hx.out, markAll_snoc, ← bools_set]
                exact hk1.set _ _
              · show ∀ _ ∈ _, _
                rw [take_snoc' hx.out]
                intro y hy
                rcases List.mem_append.1 hy with hy | hy
                · exact HR.out y hy
                · simp at hy; omega
            case measure => simp [intOf]; omega
      · obtain rfl : k = n := by omega
        have hr : ∀ x ∈ p, 0 ≤ x ∧ x < (k : Int) := by
          have := HR.out; rw [List.take_of_length_le (by have := HN.out; omega)] at this; exact this
        rw [List.take_of_length_le (by have := HN.out; omega)] at hk1
        have HC := Lib.hid (check_in HN.out h1 h2 hr)
        clear hr HR
        have hml : (markAll p zero60).length = 60 := by rw [markAll_len]; rfl
        generalize markAll p zero60 = mk at *
        have HML := Lib.hid hml; clear hml
        have hu := Try.underlying117
        have hi : (Try.prog.info? 117).map (·.size) = some (bools mk).length := by rw [Try.size117]; simp [HML.out]
        have hrg := hk1.range
        obtain ⟨i4, hi4⟩ := Option.isSome_iff_exists.1 Try.info4
        have heq : ∀ wx, Sem.run Try.prog (Op.equalIn 10000 117 (.agg (bools mk).toArray) (.agg (bools (fullL k)).toArray)) wx = .ok (decide (mk = fullL k)) wx := run_eq_bools Try.underlying117 Try.underlying4 Try.cells4 hi4 _ _ HML.out (fullL_len k)
        clear hi4
        go_wp2_with fail
        go_region_held3 (fun w' => w'.rangeAt w.heap.size 0 (bools mk) ∧ Below w.heap.size w w') (first | (refine ⟨?_, ?_⟩ <;> first | assumption | (refine Below.drew ?_; assumption)) | (go_split_ands; refine S_keep ?_ ?_ hb' (Nat.le_refl _) <;> assumption)) (first | (go_at_call 98; refine (full_any k _ ?_).mono ?_; omega; rintro e w' ⟨rfl, hb'⟩))
        go_split_ands
        have hBW := Lib.hid (p := Below w.heap.size w w') (by assumption)
        go_wp2_with fail
        · go_ret
          have hd : (!decide (mk = fullL k)) = true := by assumption
          exact ⟨ret_eq (HC.out.trans (if_neg (by simpa using hd))), hBW.out⟩
        · go_ret
          have hd : (!decide (mk = fullL k)) = false := by assumption
          exact ⟨ret_eq (HC.out.trans (if_pos (by simpa using hd))), hBW.out⟩
end Go.Proofs.Ytgajaccnjjiiaaa
