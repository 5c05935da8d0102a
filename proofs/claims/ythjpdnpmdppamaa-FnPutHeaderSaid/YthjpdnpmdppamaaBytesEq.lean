/- bytes.Equal. -/
import Derived.Test.YthjpdnpmdppamaaNameAt
import Derived.Test.YthjpdnpmdppamaaPlace
namespace Go.Proofs.Ythjpdnpmdppamaa
open Go.ChangeShapes Go.WideShapes Go.ChangeAt Go.RowKit Go.Joins
set_option linter.unusedSimpArgs false
set_option linter.unusedVariables false
set_option maxRecDepth 100000
theorem bytesEqual_any (w : World) (v1 v2 : Value) (l1 l2 : List UInt8) (h1 : BytesAt w v1 l1) (h2 : BytesAt w v2 l2) :
    Calls Try.prog 102 #[v1, v2] w fun e w' => e = .returned (.bool (eqB l1 l2)) ∧ w = w' := by
  have k1 := conv_at w v1 l1 h1
  have k2 := conv_at w v2 l2 h2
  clear h1 h2
  have E : Hid (eqB l1 l2 = (l1 == l2)) := by show _ = _; unfold eqB; exact Bool.eq_iff_iff.2 (by simp)
  go_enter Try.func102, Try.ntmps102
  go_wp2_with fail
  go_ret
  exact ⟨by rw [E.out]; rfl, rfl⟩
end Go.Proofs.Ythjpdnpmdppamaa
