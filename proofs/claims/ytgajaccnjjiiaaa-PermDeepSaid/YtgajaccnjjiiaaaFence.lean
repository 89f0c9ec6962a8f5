/- A region that draws its order, reads first and writes last, inside a fence that allows all: walked once, in the order of the text. -/
import Derived.StillTail
import Derived.OrdersIn
import Derived.WalkKit
import Derived.StillTailTactics
import Derived.TacticsIn
import Derived.BigQuiet
namespace Go.Proofs.Ytgajaccnjjiiaaa
open Go

/-- an operation that calls nothing and defers nothing -/
def calmOp : Op → Bool
  | .load .. | .move _ | .assign _ | .indexAddr .. | .store .. | .binOp .. | .unOp .. | .nilCheck _ | .pick .. => true
  | _ => false

theorem v_run {P : Program} {w w' : World} {s : Sem Value} {d : Next} (h : (do pure (Next.value (← s)) : Sem Next).run P w = .ok d w') : ∃ x, d = .value x := by
  rw [Sem.run_bind] at h
  cases hs : s.run P w with
  | ok x w1 => rw [hs] at h; simp [Result.andThen] at h; exact ⟨x, h.1.symm⟩
  | halt a b => rw [hs] at h; simp [Result.andThen] at h
theorem then_ok {α β : Type} {r : Result α} {f : α → World → Result β} {d : β} {w' : World} (h : r.andThen f = .ok d w') : ∃ a w1, r = .ok a w1 ∧ f a w1 = .ok d w' := by
  cases r with
  | ok a w1 => exact ⟨a, w1, rfl, h⟩
  | halt a b => simp [Result.andThen] at h
theorem u_run {P : Program} {w w' : World} {s : Sem Unit} {d : Next} (h : (do s; pure Next.skip : Sem Next).run P w = .ok d w') : d = .skip := by
  rw [Sem.run_bind] at h
  cases hs : s.run P w with
  | ok x w1 => rw [hs] at h; simp [Result.andThen] at h; exact h.1.symm
  | halt a b => rw [hs] at h; simp [Result.andThen] at h
theorem p_run {P : Program} {w w' : World} {x : Value} {d : Next} (h : (pure (Next.value x) : Sem Next).run P w = .ok d w') : ∃ x, d = .value x := by
  simp at h; exact ⟨x, h.1.symm⟩

theorem pick_run {P : Program} {w w' : World} {m : Sem Bool} {x y : Value} {d : Next} (h : (do pure (Next.value (if ← m then x else y)) : Sem Next).run P w = .ok d w') : ∃ x, d = .value x := by
  rw [Sem.run_bind] at h
  obtain ⟨a, w1, _, h⟩ := then_ok h
  exact p_run h

theorem calm_run {o : Oper} (h : calmOp o.op = true) {P : Program} {ρ : Operand → Value} {w w' : World} {d : Next} (hr : (execOp ρ o).run P w = .ok d w') : (∃ x, d = .value x) ∨ d = .skip := by
  unfold execOp at hr
  cases ho : o.op
  all_goals first | (rw [ho] at h; exact absurd h Bool.false_ne_true) | skip
  all_goals simp only [ho] at hr
  all_goals first
    | exact .inl (v_run hr)
    | exact .inr (u_run hr)
    | exact .inl (p_run hr)
    | exact .inl (pick_run hr)
    | skip
  all_goals
    split at hr
    · simp [runtimePanic] at hr
    · simp [runtimePanic] at hr
    · simp [runtimePanic] at hr
    · split at hr
      · simp [runtimePanic] at hr
      · simp only [Sem.run_bind] at hr
        obtain ⟨a1, w1, _, hr⟩ := then_ok hr
        obtain ⟨a2, w2, _, hr⟩ := then_ok hr
        split at hr
        · rw [Sem.run_bind] at hr
          obtain ⟨a3, w3, h3, _⟩ := then_ok hr
          simp [unsupported] at h3
        · exact .inl (p_run hr)
      · exact .inl (p_run hr)
    · exact .inl (p_run hr)

theorem calm_plain {op : Op} (h : calmOp op = true) : (∀ c, op ≠ .defer c) ∧ (∀ c, op ≠ .call c) := by
  constructor <;> (intro c e; subst e; cases h)

theorem uponIn_of {F : Fence} {n : Nat} {P : Program} {o : Oper} {a : Act} {K : Act → World → Prop} {Q : Exit → Act → World → Prop} {r : Result Next} (hr : ∀ d w', r = .ok d w' → (∃ x, d = .value x) ∨ d = .skip)
    (h : o.upon P a K Q r) : o.uponIn F n P a K Q r := by
  cases r with
  | ok d w' =>
    rcases hr d w' rfl with ⟨x, rfl⟩ | rfl
    · exact h
    · exact h
  | halt hl w' =>
    cases hl <;> first | exact h | exact (h : False).elim

theorem wpIn_of_calm {F : Fence} {n : Nat} (hF : ∀ f, F.fn f) {P : Program} {o : Oper} (hc : calmOp o.op = true) {a : Act} {w : World} {K : Act → World → Prop} {Q : Exit → Act → World → Prop} (h : o.wp P a w K Q) : o.wpIn F n P a w K Q := by
  refine ⟨fun f _ => hF f, ?_⟩
  rw [Oper.semAt_eq _ _ _ (calm_plain hc).1]
  exact uponIn_of (fun d w' e => calm_run hc e) h

theorem anyIn_of_any {F : Fence} {n : Nat} (hF : ∀ f, F.fn f) {P : Program} {md : Region.Mode} {ops : Array Oper} (hc : ∀ (i : Nat) (o : Oper), ops[i]? = some o → calmOp o.op = true) {Q : Exit → Act → World → Prop} (hQ : ¬ LetsOut Q) :
    ∀ (fuel : Nat) (listed : Array Bool) (a : Act) (w : World), wpAny P md ops Q fuel listed a w → wpAnyIn F n P md ops Q fuel listed a w := by
  intro fuel
  induction fuel with
  | zero => intro listed a w h; exact h
  | succ fuel ih =>
    intro listed a w h
    refine ⟨h.1, fun i hi => ?_⟩
    have h1 := h.2 i hi
    unfold wpOp at h1
    unfold wpOpIn
    cases ho : ops[i]? with
    | none => rw [ho] at h1; exact ih _ _ _ h1
    | some o =>
      rw [ho] at h1
      simp only at h1 ⊢
      split
      · rename_i hw
        rw [if_pos hw] at h1
        rcases h1 with h1 | ⟨_, h1⟩
        · exact wpIn_of_calm hF (hc i o ho) (Oper.wp_mono (fun a w h => ih _ a w h) h1)
        · exact absurd h1 hQ
      · rename_i hw
        rw [if_neg hw] at h1
        exact ⟨fun f _ => hF f, ih _ _ _ h1⟩

/-- the exits without the one that the machine's room decides -/
def inRoom (Q : Exit → Act → World → Prop) : Exit → Act → World → Prop := fun e a w => e ≠ .outgrown ∧ Q e a w
theorem inRoom_lets (Q : Exit → Act → World → Prop) : ¬ LetsOut (inRoom Q) := fun ⟨_, _, h, _⟩ => h rfl

/-- A region that draws: its first n operations read, the rest, in one forced order, may write; none calls. -/
theorem wpIn_tail {F : Fence} {m : Nat} (hF : ∀ f, F.fn f) {P : Program} {id : Nat} {Q : Exit → Act → World → Prop} {a : Act} {w : World} {l : List Oper} (n : Nat) (hm : P.follows .mixedOrders = true) (hB : Region.lexTailB .any l.toArray n = true)
    (hc : l.all (fun o => calmOp o.op) = true) (h : wpStill P l.toArray w.drew (fun a' => wpList P l.toArray (inRoom Q) (l.drop n) a' w.drew) (l.take n) a) : (Code.region id l.toArray true).wpIn F m P Q a w := by
  unfold Region.lexTailB at hB
  rw [Bool.and_eq_true, Bool.and_eq_true, Bool.and_eq_true, Bool.and_eq_true] at hB
  have hsz : l.toArray.size = l.length := by simp
  have hlt : n < l.length := by have := of_decide_eq_true hB.1.1.1.2; omega
  have hT : (l.take n).length = n := by rw [List.length_take]; omega
  have hD : (l.drop n).length = l.toArray.size - n := by rw [List.length_drop, hsz]
  have start : HeadInv .any l.toArray n (Array.replicate l.toArray.size false) :=
    ⟨by simp, fun j oj _ hl => (by rw [getD_replicate_false] at hl; cases hl), fun t _ ht => getD_in (by simpa using ht) (getD_replicate_false _ _)⟩
  have one := wpAnyL_lex (md := .any) (w := w.drew) (g := l.toArray.size - n) hB.1.1.1.1 hB.1.1.2 hB.1.2 (by omega) (l.take n) 0 _ a
    (fun j hj => by rw [Nat.zero_add, List.getElem?_take_of_lt (by omega)]; simp) (by omega) start (by rw [hT]; exact hB.2) h
  refine wpIn_mono (Q := inRoom Q) (wpIn_region_any hm ?_) (fun e a w h => h.2)
  refine anyIn_of_any hF (fun i o ho => ?_) (inRoom_lets Q) _ _ _ _ ?_
  · rw [List.all_eq_true] at hc
    exact hc o (List.mem_of_getElem? (by simpa using ho))
  · have two := wpAny_of_head (Q' := inRoom Q) (g := l.toArray.size - n) (fun listed a' hL => by
      have three := wpAny_of_seq (md := .any) (Q' := inRoom Q) (l.drop n) n listed a' w.drew (fun j => by simp [List.getElem?_drop]) (by rw [hD]; exact hL.1) hL.2
      rw [hD] at three
      exact three) _ _ _ one
    rw [hT, show n + (l.toArray.size - n) = l.toArray.size by omega] at two
    exact two
end Go.Proofs.Ytgajaccnjjiiaaa
namespace Go.Proofs.Ytgajaccnjjiiaaa
open Go

/-- What reads quietly in all worlds ahead by draws reads in the next one. -/
theorem still_of_quiet {P : Program} {ops : Array Oper} {w : World} {Q : Act → Prop} : ∀ (l : List Oper) (a : Act), (∀ o ∈ l, calmOp o.op = true) →
    wpQuiet P ops (fun w' => ∃ n, w' = w.drewN n) Q l a → wpStill P ops w.drew Q l a := by
  intro l
  induction l with
  | nil => intro a _ h; exact h
  | cons o l ih =>
    intro a hc h
    have hl : ∀ o ∈ l, calmOp o.op = true := fun o ho => hc o (List.mem_cons_of_mem _ ho)
    unfold wpQuiet at h
    unfold wpStill
    split
    · rename_i hw
      rw [if_pos hw] at h
      obtain ⟨v, h1, h2⟩ := h
      have h3 := h1 w.drew ⟨1, rfl⟩
      unfold Oper.quietAt at h3
      unfold Oper.still
      cases hr : (execOp a.eval o).run P w.drew with
      | ok d w' =>
        rw [hr] at h3
        rcases calm_run (hc o (by simp)) hr with ⟨x, rfl⟩ | rfl
        · obtain ⟨h4, h5⟩ := h3
          subst h4
          subst h5
          exact ⟨rfl, ih _ hl h2⟩
        · obtain ⟨h4, h5⟩ := h3
          subst h4
          subst h5
          exact ⟨rfl, ih _ hl h2⟩
      | halt b c => rw [hr] at h3; cases b <;> exact h3.elim
    · rename_i hw
      rw [if_neg hw] at h
      exact ih _ hl h

/-- A region that draws: its first n operations, which call nothing, read; the rest, in one forced order, may write. -/
theorem wp_tailQ {P : Program} {id : Nat} {Q : Exit → Act → World → Prop} {a : Act} {w : World} {l : List Oper} (n : Nat) (hm : P.follows .mixedOrders = true) (hB : Region.lexTailB .any l.toArray n = true)
    (hc : (l.take n).all (fun o => calmOp o.op) = true) (h : wpQuiet P l.toArray (fun w' => ∃ n, w' = w.drewN n) (fun a' => wpList P l.toArray Q (l.drop n) a' w.drew) (l.take n) a) : (Code.region id l.toArray true).wp P Q a w :=
  wp_region_still_tail n hm hB (still_of_quiet _ _ (fun o ho => (List.all_eq_true.1 hc) o ho) h)
end Go.Proofs.Ytgajaccnjjiiaaa
