/- Whether a text, or a number, is in a slice. -/
import Derived.Test.YtpgmmjdianoaeaaGreatInts
import Derived.Test.YtpgmmjdianoaeaaGreatObjVal
import Derived.Test.YtpgmmjdianoaeaaGreatBase
import Derived.Test.YtpgmmjdianoaeaaGreatMarkS
import Derived.Test.YtpgmmjdianoaeaaGreatPlainR
namespace Go.Proofs.YtpgmmjdianoaeaaGreat
open Go.ChangeShapes Go.WideShapes Go.ChangeAt Go.RowKit Go.Joins
set_option linter.unusedSimpArgs false
set_option linter.unusedVariables false
set_option maxRecDepth 100000
theorem inB_findI (names : List ByteArray) (s : ByteArray) : inB names s = decide (0 ≤ findI (fun n => decide (n = s)) names) := by
  unfold inB
  by_cases h : 0 ≤ findI (fun n => decide (n = s)) names
  · rw [decide_eq_true h]; exact (findI_nonneg _ _).1 h
  · rw [decide_eq_false h]
    cases hq : names.any fun n => decide (n = s) with
    | false => rfl
    | true => exact absurd ((findI_nonneg _ _).2 hq) h
end Go.Proofs.YtpgmmjdianoaeaaGreat
