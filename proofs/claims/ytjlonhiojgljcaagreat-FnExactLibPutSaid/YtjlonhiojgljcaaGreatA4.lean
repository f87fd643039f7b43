/- Contracts of functions, and what they rest on: l20c. -/
import Derived.Test.YtjlonhiojgljcaaGreatA3
set_option linter.unusedVariables false
set_option linter.unusedSimpArgs false
set_option maxRecDepth 10000
set_option maxHeartbeats 4000000
namespace Go.Proofs.VI
open Go
theorem find_idx {α : Type} (p : α → Bool) (l : List α) (h : l.findIdx p < l.length) : l.find? p = some l[l.findIdx p] := by
  rw [List.find?_eq_some_iff_getElem]
  exact ⟨List.findIdx_getElem, _, h, rfl, fun j hj => by simpa using List.not_of_lt_findIdx hj⟩
theorem find_none' {α : Type} (p : α → Bool) (l : List α) (h : ¬ l.findIdx p < l.length) : l.find? p = none := by
  rw [List.find?_eq_none]
  intro x hx
  have := List.findIdx_eq_length.1 (show l.findIdx p = l.length from Nat.le_antisymm List.findIdx_le_length (by omega)) x hx
  simpa using this
/-- What idxOf tells of find?. -/
theorem idx_cases {α : Type} (p : α → Bool) (l : List α) : (idxOf p l = -1 ∧ l.find? p = none) ∨ ∃ (i : Nat) (h : i < l.length), idxOf p l = i ∧ l.find? p = some l[i] := by
  by_cases h : l.findIdx p < l.length
  · exact .inr ⟨_, h, by rw [idxOf, if_pos h], find_idx p l h⟩
  · exact .inl ⟨by rw [idxOf, if_neg h], find_none' p l h⟩
end Go.Proofs.VI
