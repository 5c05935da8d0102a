/- Rows of booleans. -/
import Derived.Test.YthccjimckjecjaaPlainR
import Derived.Test.YthccjimckjecjaaBase
namespace Go.Proofs.Ythccjimckjecjaa
open Go.ChangeShapes Go.WideShapes Go.ChangeAt Go.RowKit Go.Joins
set_option linter.unusedSimpArgs false
set_option linter.unusedVariables false
def bbs (l : List Bool) : List Value := l.map Value.bool
theorem bbs_length (l : List Bool) : (bbs l).length = l.length := by simp [bbs]
theorem bbs_set (l : List Bool) (j : Nat) (b : Bool) : bbs (l.set j b) = (bbs l).set j (.bool b) := by simp [bbs, List.map_set]
theorem bbs_get (l : List Bool) (j : Nat) (h : j < l.length) : (bbs l)[j]? = some (.bool (l.getD j false)) := by
  simp [bbs, List.getElem?_map, List.getElem?_eq_getElem h, List.getD]
theorem info_bool : (Try.prog.info? 4).map (fun i => (i.zero, i.size, i.bytes)) = some (some (.bool false), 1, 1) := by kernel_rfl
/-- Booleans that the call owns. -/
def OwnBo (w : World) (base : Nat) (v : Value) (l : List Bool) : Prop := w.ownsRow base 4 1 v l.length (bbs l)
end Go.Proofs.Ythccjimckjecjaa
