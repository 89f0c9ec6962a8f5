/- HangTurns: what the calls of one round answer. -/
import Derived.Test.YtjdmmgaddbleeaaH67
namespace Go.Proofs.Ytjdmmgaddbleeaa
open Go.RowKit

theorem turnedR_word {u v : List UInt8} (hu : isWord u = true) (hv : isWord v = true) : isWord (turnedR u v).1 = true := by
  unfold turnedR
  split
  · rfl
  split
  · rfl
  split
  · rfl
  · exact redW_word (isWord_app (isWord_app (by_word hv) (invL_word (isWord_sub (mid_word hu) fun _ hc => List.mem_of_mem_take hc))) (invL_word (by_word hu)))
theorem strB_bts (A : ByteArray) : strB (bts A) = A := str_eq (bts_str _)

/-- one round's calls -/
theorem turn_facts {A B : ByteArray} {W0 : World} {M : Int} (ha : wordErr A = 0) (hb : wordErr B = 0) (hla : A.size ≤ 500) (hlb : B.size ≤ 500) (hM : W0.cell? ⟨0, 0, none⟩ = some (.int .i64 M)) :
    ∃ (X : ByteArray) (ok : Bool),
      (Calls Try.prog 35 #[.string A, .string B] W0 fun e w' => e = .returned (.tuple #[.string X, .bool ok, .int .i64 0]) ∧ Below W0.heap.size W0 w') ∧
      (∀ W, Calls Try.prog 36 #[.string A, .string B] W fun e w' => e = .returned (.bool ok) ∧ Below W.heap.size W w') ∧
      (ok = true → (∀ W, Calls Try.prog 12 #[.string X] W fun e w' => e = .returned (.int .i64 0) ∧ w' = W) ∧
        (∀ W, Calls Try.prog 26 #[.string X] W fun e w' => e = .returned (.string X) ∧ Below W.heap.size W w') ∧
        (∀ W, Calls Try.prog 37 #[.string A, .string B, .string X] W fun e w' => e = .returned (.bool true) ∧ Below W.heap.size W w')) ∧
      (ok = false → X = ⟨#[]⟩) := by
  have h35 := Turned_any A B W0 ha hb hla hlb M hM
  have hwa := (word_size ha).1
  have hwb := (word_size hb).1
  have h36 := fun W => rTurns_any A B W hwa hwb (by omega) (by omega)
  obtain ⟨k1, k2, k3, k4, k5⟩ := turned_ok (u := redW (bts A)) (redW_rd (bts B))
  have hw := turnedR_word (redW_word hwa) (redW_word hwb)
  have hl1 := redW_len (bts A)
  have hl2 := redW_len (bts B)
  rw [bts_len] at hl1 hl2
  rw [← k1] at h36
  generalize turnedR (redW (bts A)) (redW (bts B)) = T at *
  obtain ⟨x, ok⟩ := T
  simp only at h35 h36 k1 k2 k3 k4 k5 hw
  have hlx : x.length ≤ 1000 := by omega
  refine ⟨strB x, ok, h35, h36, fun ho => ⟨fun W => ?_, fun W => ?_, fun W => ?_⟩, fun ho => by rw [k4 ho]⟩
  · have := rCheck_any (strB x) W (by rw [size_str]; omega)
    rw [word_zero hw (by omega)] at this
    exact this
  · have := rReduce_any (strB x) W hw (by rw [size_str]; omega)
    rw [bts_str, redW_self k2] at this
    exact this
  · have := rIsTurned_any (a := bts A) (b := bts B) (x := x) W hwa hwb hw (by rw [bts_len]; omega) (by rw [bts_len]; omega) hlx
    rw [strB_bts, strB_bts] at this
    have e : redW (x ++ bts A ++ invL x) = redW (bts B) := by
      rw [← k3 ho]
      exact ((Eqv.left x (Eqv.red (bts A)).symm).right (invL x))
    rw [decide_eq_true e] at this
    exact this
end Go.Proofs.Ytjdmmgaddbleeaa
