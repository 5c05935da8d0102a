/- What the statements on sections draw. -/
import Derived.Test.YthenijikmjffjaaDrawS
namespace Go.Proofs.Ythenijikmjffjaa
open Go.ChangeShapes Go.WideShapes Go.ChangeAt Go.RowKit Go.Joins
set_option linter.unusedSimpArgs false
set_option linter.unusedVariables false
set_option maxRecDepth 100000
/-- A section, written over the cells of a block. -/
@[reducible] def store6 (w : World) (T : Nat) (a b c d e f : Value) : World := (((((w.setCell ⟨T, 0, none⟩ a).setCell ⟨T, 1, none⟩ b).setCell ⟨T, 2, none⟩ c).setCell ⟨T, 3, none⟩ d).setCell ⟨T, 4, none⟩ e).setCell ⟨T, 5, none⟩ f
theorem owns_store6 {w : World} {base : Nat} {t : TypeId} {size : Nat} {v : Value} {n : Nat} {xs : List Value} (h : w.ownsRow base t size v n xs) {T : Nat} (hT : T < base) (a b c d e f : Value) : (store6 w T a b c d e f).ownsRow base t size v n xs :=
  ownsRow_setCell_below (ownsRow_setCell_below (ownsRow_setCell_below (ownsRow_setCell_below (ownsRow_setCell_below (ownsRow_setCell_below h (a := ⟨T, 0, none⟩) hT a) (a := ⟨T, 1, none⟩) hT b) (a := ⟨T, 2, none⟩) hT c) (a := ⟨T, 3, none⟩) hT d) (a := ⟨T, 4, none⟩) hT e) (a := ⟨T, 5, none⟩) hT f
theorem From.store6 {B : Nat} {a0 w : World} (h : From B a0 w) {T : Nat} (hT : B ≤ T) (a b c d e f : Value) : From B a0 (store6 w T a b c d e f) :=
  (((((h.setCell (p := ⟨T, 0, none⟩) hT a).setCell (p := ⟨T, 1, none⟩) hT b).setCell (p := ⟨T, 2, none⟩) hT c).setCell (p := ⟨T, 3, none⟩) hT d).setCell (p := ⟨T, 4, none⟩) hT e).setCell (p := ⟨T, 5, none⟩) hT f
/-- A section that can be read. -/
def ReadSec (w : World) (v : Value) : Prop := ∃ s vb vf, v = secV s vb vf ∧ BytesAt w vb s.bytes ∧ FixAt w vf s.fix ∧ s.name.size ≤ 9 ∧ s.bytes.length ≤ 49 ∧ s.fix.length ≤ 4 ∧ -1 ≤ s.size ∧ s.size ≤ 49
def ReadSecMany (w : World) (v : Value) : Prop := ∃ x m, v = .tuple #[x, .int .i64 m] ∧ ReadSec w x
end Go.Proofs.Ythenijikmjffjaa
