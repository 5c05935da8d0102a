/- Copies of objects. -/
import Derived.Test.YtkefbhidfbnipaaNames
import Derived.Test.YtkefbhidfbnipaaHeld
import Derived.Lib.SliceRun
namespace Go.Proofs.Ytkefbhidfbnipaa
open Go.ChangeShapes Go.WideShapes Go.ChangeAt Go.RowKit Go.Joins
set_option linter.unusedSimpArgs false
set_option linter.unusedVariables false
set_option maxRecDepth 100000
theorem symL_one (s : SymD) : ∀ u ∈ symL s, u.oneCell' = true := by
  intro u hu
  simp only [List.mem_cons, List.not_mem_nil, or_false] at hu
  rcases hu with rfl | rfl | rfl | rfl <;> rfl
theorem syms_one (l : List SymD) : ∀ u ∈ l.flatMap symL, u.oneCell' = true := by
  intro u hu
  obtain ⟨s, -, h⟩ := List.mem_flatMap.1 hu
  exact symL_one s u h
theorem fix_one (l : List FixD) : ∀ u ∈ fixCells l, u.oneCell' = true := by
  rw [fixCells_flat]
  intro u hu
  obtain ⟨s, -, h⟩ := List.mem_flatMap.1 hu
  simp only [List.mem_cons, List.not_mem_nil, or_false] at h
  rcases h with rfl | rfl | rfl | rfl <;> rfl
end Go.Proofs.Ytkefbhidfbnipaa
