/- Whether a text, or a number, is in a slice. -/
import Derived.Test.YtkefbhidfbnipaaInts
import Derived.Test.YtkefbhidfbnipaaObjVal
import Derived.Test.YtkefbhidfbnipaaBase
import Derived.Test.YtkefbhidfbnipaaMarkS
import Derived.Test.YtkefbhidfbnipaaPlainR
namespace Go.Proofs.Ytkefbhidfbnipaa
open Go.ChangeShapes Go.WideShapes Go.ChangeAt Go.RowKit Go.Joins
set_option linter.unusedSimpArgs false
set_option linter.unusedVariables false
set_option maxRecDepth 100000
theorem inB_findI (names : List ByteArray) (s : ByteArray) : inB names s = decide (0 ≤ findI (fun n => decide (n = s)) names) := by
  unfold inB
  by_cases h : 0 ≤ findI (fun n => decide (n = s)) names
  · rw [decide_eq_true h]; exact (findI_nonneg _ _).1 h
  · rw [decide_eq_false h]
    cases hq : names.any fun n => decide (n = s) with
    | false => rfl
    | true => exact absurd ((findI_nonneg _ _).2 hq) h
end Go.Proofs.Ytkefbhidfbnipaa
