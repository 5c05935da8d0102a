/- Copies of objects: copyObject. -/
import Derived.Test.YtpgmmjdianoaeaaGreatCopy
import Derived.Test.YtpgmmjdianoaeaaGreatDrawY
import Derived.Test.YtpgmmjdianoaeaaGreatInv
namespace Go.Proofs.YtpgmmjdianoaeaaGreat
open Go.ChangeShapes Go.WideShapes Go.ChangeAt Go.RowKit Go.Joins
set_option linter.unusedSimpArgs false
set_option linter.unusedVariables false
set_option maxRecDepth 100000
end Go.Proofs.YtpgmmjdianoaeaaGreat
