/- PermDeep: the sixteen trees, by the kernel. -/
import Derived.Test.YtgajaccnjjiiaaaW80
namespace Go.Proofs.Ytgajaccnjjiiaaa
open Go.RowKit

theorem case_f56 : caseB false 56 = true := by decide +kernel
theorem case_f57 : caseB false 57 = true := by decide +kernel
theorem case_f58 : caseB false 58 = true := by decide +kernel
theorem case_f59 : caseB false 59 = true := by decide +kernel
theorem case_f60 : caseB false 60 = true := by decide +kernel
theorem case_f61 : caseB false 61 = true := by decide +kernel
theorem case_f62 : caseB false 62 = true := by decide +kernel
theorem case_f63 : caseB false 63 = true := by decide +kernel
theorem case_t56 : caseB true 56 = true := by decide +kernel
theorem case_t57 : caseB true 57 = true := by decide +kernel
theorem case_t58 : caseB true 58 = true := by decide +kernel
theorem case_t59 : caseB true 59 = true := by decide +kernel
theorem case_t60 : caseB true 60 = true := by decide +kernel
theorem case_t61 : caseB true 61 = true := by decide +kernel
theorem case_t62 : caseB true 62 = true := by decide +kernel
theorem case_t63 : caseB true 63 = true := by decide +kernel
theorem case_all (s : Bool) (m : Nat) (h1 : 56 ≤ m) (h2 : m ≤ 63) : caseB s m = true := by
  have h : m = 56 ∨ m = 57 ∨ m = 58 ∨ m = 59 ∨ m = 60 ∨ m = 61 ∨ m = 62 ∨ m = 63 := by omega
  cases s
  · rcases h with rfl | rfl | rfl | rfl | rfl | rfl | rfl | rfl
    · exact case_f56
    · exact case_f57
    · exact case_f58
    · exact case_f59
    · exact case_f60
    · exact case_f61
    · exact case_f62
    · exact case_f63
  · rcases h with rfl | rfl | rfl | rfl | rfl | rfl | rfl | rfl
    · exact case_t56
    · exact case_t57
    · exact case_t58
    · exact case_t59
    · exact case_t60
    · exact case_t61
    · exact case_t62
    · exact case_t63
theorem deep_narrow (s : Bool) (m : Nat) (h1 : 56 ≤ m) (h2 : m ≤ 63) : NarrowAt 101 (deepT s (m - 1)) := by
  have h := case_all s m h1 h2
  unfold caseB at h
  rw [Bool.and_eq_true] at h
  exact deepB_narrow _ _ h.1
theorem deep_out (s : Bool) (m : Nat) (h1 : 56 ≤ m) (h2 : m ≤ 63) (h3 : 60 < m + (if s then 3 else 0)) : fillM (deepT s (m - 1)) = none := by
  have h := case_all s m h1 h2
  unfold caseB at h
  rw [Bool.and_eq_true, if_pos h3] at h
  rw [fill_D]
  simpa using h.2
theorem deep_in (s : Bool) (m : Nat) (h1 : 56 ≤ m) (h2 : m ≤ 63) (h3 : ¬ 60 < m + (if s then 3 else 0)) : DeepOk (deepT s (m - 1)) := by
  have h := case_all s m h1 h2
  unfold caseB at h
  rw [Bool.and_eq_true, if_neg h3, Bool.and_eq_true] at h
  obtain ⟨_, hg, hf⟩ := h
  generalize deepT s (m - 1) = t at *
  unfold goodB at hg
  simp only [Bool.and_eq_true, decide_eq_true_eq] at hg
  obtain ⟨⟨⟨⟨⟨⟨_, g1⟩, g2⟩, g3⟩, g4⟩, g5⟩, g6⟩ := hg
  have hf2 : fillM t = some (rfillT 101 t) := by rw [fill_D]; simpa using hf
  exact ⟨g1, g2, g3, g4, g5, g6, hf2, fill_some hf2⟩
end Go.Proofs.Ytgajaccnjjiiaaa
