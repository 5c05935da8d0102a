/- Sections, symbols and objects: copied, compared, measured. -/
import Derived.Test.YtpgmmjdianoaeaaSec
import Derived.Test.YtpgmmjdianoaeaaBytes
namespace Go.Proofs.Ytpgmmjdianoaeaa
open Go.ChangeShapes Go.WideShapes Go.ChangeAt Go.RowKit Go.Joins
set_option linter.unusedSimpArgs false
set_option linter.unusedVariables false
set_option maxRecDepth 100000

/-- What a function ends in that hands back an object of its own. -/
def RetObj (w : World) (o : ObjD) (e : Ending) (w' : World) : Prop := ∃ r, e = .returned r ∧ OwnObj w' w.heap.size r o ∧ Below w.heap.size w w'
/-- Few parts in an object. -/
def FewObj (o : ObjD) : Prop := o.secs.length ≤ 1048576 ∧ o.syms.length ≤ 1048576 ∧ ∀ s ∈ o.secs, s.bytes.length ≤ 1073741824 ∧ s.fix.length ≤ 1073741824
end Go.Proofs.Ytpgmmjdianoaeaa
