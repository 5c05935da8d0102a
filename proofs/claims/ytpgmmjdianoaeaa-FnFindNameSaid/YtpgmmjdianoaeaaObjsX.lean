/- Slices of objects: copied, compared, measured. -/
import Derived.Test.YtpgmmjdianoaeaaObjX
import Derived.Test.YtpgmmjdianoaeaaObjs
namespace Go.Proofs.Ytpgmmjdianoaeaa
open Go.ChangeShapes Go.WideShapes Go.ChangeAt Go.RowKit Go.Joins
set_option linter.unusedSimpArgs false
set_option linter.unusedVariables false
set_option maxRecDepth 100000
theorem set_two (a b z0 z1 : Value) (R : List Value) : ∀ (A : List Value), ((A ++ z0 :: z1 :: R).set A.length a).set (A.length + 1) b = A ++ a :: b :: R
  | [] => rfl
  | x :: r => by
    have ih := set_two a b z0 z1 R r
    simp only [List.cons_append, List.length_cons, List.set_cons_succ, ih]
end Go.Proofs.Ytpgmmjdianoaeaa
