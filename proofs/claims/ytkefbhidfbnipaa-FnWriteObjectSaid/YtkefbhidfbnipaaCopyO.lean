/- Copies of objects: copyObject. -/
import Derived.Test.YtkefbhidfbnipaaCopy
import Derived.Test.YtkefbhidfbnipaaDrawY
import Derived.Test.YtkefbhidfbnipaaInv
namespace Go.Proofs.Ytkefbhidfbnipaa
open Go.ChangeShapes Go.WideShapes Go.ChangeAt Go.RowKit Go.Joins
set_option linter.unusedSimpArgs false
set_option linter.unusedVariables false
set_option maxRecDepth 100000
end Go.Proofs.Ytkefbhidfbnipaa
