/-
  A front of frames is frames and a front of one more; no program; conditions: those that each theorem states.
-/
import Derived.Test.YtnmiipcoojijiaaDoorGB
namespace Go.Proofs.YtnmiipcoojijiaaDoor.Top
set_option linter.unusedSimpArgs false
set_option linter.unusedVariables false
/-- A front of frames. -/
theorem front_parts : ∀ (fs : List (List Int)) (n : Nat), ∃ (t m : Nat) (d0 : List Int), t ≤ fs.length ∧ (allF fs).take n = allF (fs.take t) ++ (frameF d0).take m ∧ m < d0.length + 8 ∧ (d0 = [] ∨ d0 ∈ fs)
  | [], n => ⟨0, 0, [], Nat.le_refl _, by simp [allF], by simp, .inl rfl⟩
  | d :: fs, n => by
    by_cases h : n < d.length + 8
    · refine ⟨0, n, d, Nat.zero_le _, ?_, h, .inr (by simp)⟩
      rw [allF_cons, List.take_append_of_le_length (by rw [frameF_len]; omega)]
      simp [allF]
    · obtain ⟨t, m, d0, h1, h2, h3, h4⟩ := front_parts fs (n - (d.length + 8))
      refine ⟨t + 1, m, d0, by simp; omega, ?_, h3, h4.imp id (fun h => by simp [h])⟩
      have e : n = (frameF d).length + (n - (d.length + 8)) := by rw [frameF_len]; omega
      rw [allF_cons, List.take_succ_cons, allF_cons, List.append_assoc, ← h2]
      conv => lhs; rw [e]
      rw [List.take_length_add_append]
/-- All of them: nothing is left out. -/
theorem front_all (fs : List (List Int)) : (allF fs).take (allF fs).length = allF fs ++ (frameF []).take 0 := by
  rw [List.take_length, List.take_zero, List.append_nil]
end Go.Proofs.YtnmiipcoojijiaaDoor.Top
