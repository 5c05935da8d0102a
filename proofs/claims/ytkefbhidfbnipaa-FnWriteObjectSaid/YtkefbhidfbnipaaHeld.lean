/- Whether marks are held: fixups, symbols, sections, objects. -/
import Derived.Test.YtkefbhidfbnipaaMarkO
namespace Go.Proofs.Ytkefbhidfbnipaa
open Go.ChangeShapes Go.WideShapes Go.ChangeAt Go.RowKit Go.Joins
set_option linter.unusedSimpArgs false
set_option linter.unusedVariables false
set_option maxRecDepth 100000
theorem marksF_get : ∀ (n k j : Nat) (h : j < n), (marksF k n)[j]? = some (((k + 4 * j : Nat) : Int), ((k + 4 * j : Nat) : Int) + 1, ((k + 4 * j : Nat) : Int) + 1 + 1, ((k + 4 * j : Nat) : Int) + 1 + 1 + 1)
  | n + 1, k, 0, _ => by simp [marksF]
  | n + 1, k, j + 1, h => by
    rw [marksF, List.getElem?_cons_succ, marksF_get n (k + 4) j (by omega), show k + 4 + 4 * j = k + 4 * (j + 1) by omega]
theorem marksY_get : ∀ (n k j : Nat) (h : j < n), (marksY k n)[j]? = some ⟨markB (k + 4 * j), ((k + 4 * j : Nat) : Int) + 1, ((k + 4 * j : Nat) : Int) + 1 + 1, ((k + 4 * j : Nat) : Int) + 1 + 1 + 1⟩
  | n + 1, k, 0, _ => by simp [marksY]
  | n + 1, k, j + 1, h => by
    rw [marksY, List.getElem?_cons_succ, marksY_get n (k + 4) j (by omega), show k + 4 + 4 * j = k + 4 * (j + 1) by omega]
end Go.Proofs.Ytkefbhidfbnipaa
