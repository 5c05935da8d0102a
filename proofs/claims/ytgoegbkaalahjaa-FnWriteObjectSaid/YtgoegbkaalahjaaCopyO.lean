/- Copies of objects: copyObject. -/
import Derived.Test.YtgoegbkaalahjaaCopy
import Derived.Test.YtgoegbkaalahjaaDrawY
import Derived.Test.YtgoegbkaalahjaaInv
namespace Go.Proofs.Ytgoegbkaalahjaa
open Go.ChangeShapes Go.WideShapes Go.ChangeAt Go.RowKit Go.Joins
set_option linter.unusedSimpArgs false
set_option linter.unusedVariables false
set_option maxRecDepth 100000
end Go.Proofs.Ytgoegbkaalahjaa
