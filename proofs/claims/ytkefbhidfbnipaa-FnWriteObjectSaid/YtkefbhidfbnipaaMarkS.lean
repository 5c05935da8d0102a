/- Texts that a law copies, compares, measures, writes over (marks). -/
import Derived.Test.YtkefbhidfbnipaaBase
import Derived.Test.YtkefbhidfbnipaaBytes
import Derived.Test.YtkefbhidfbnipaaHex
import Derived.Test.YtkefbhidfbnipaaSec
namespace Go.Proofs.Ytkefbhidfbnipaa
open Go.ChangeShapes Go.WideShapes Go.ChangeAt Go.RowKit Go.Joins
set_option linter.unusedSimpArgs false
set_option linter.unusedVariables false
set_option maxRecDepth 100000
/-- What a function ends in that hands back texts of its own. -/
def RetS (w : World) (l : List ByteArray) (e : Ending) (w' : World) : Prop := ∃ r, e = .returned r ∧ OwnS w' w.heap.size r l ∧ r ≠ .slice none 0 0 ∧ Below w.heap.size w w'
theorem set_fillS (l : List ByteArray) (k : Nat) (hk : k < l.length) :
    (svs (l.take k) ++ List.replicate (l.length - k) (Value.string ⟨#[]⟩)).set k (.string l[k]) = svs (l.take (k + 1)) ++ List.replicate (l.length - (k + 1)) (Value.string ⟨#[]⟩) := by
  have hl : (svs (l.take k)).length = k := by rw [svs_length, List.length_take]; omega
  rw [List.set_append, if_neg (by omega), hl, Nat.sub_self, List.take_succ_eq_append_getElem hk, svs_append, List.append_assoc]
  congr 1
  rw [show l.length - k = (l.length - (k + 1)) + 1 by omega, List.replicate_succ]
  rfl
/-- The digits of a number ahead of others. -/
def digs (n : Nat) (acc : List UInt8) : List UInt8 := if h : n = 0 then acc else digs (n / 10) (UInt8.ofNat (48 + n % 10) :: acc)
termination_by n
decreasing_by omega
/-- The text that marks. -/
def markB (k : Nat) : ByteArray := if k = 0 then ⟨#[109, 48]⟩ else (⟨#[109]⟩ : ByteArray) ++ ⟨(digs k []).toArray⟩
theorem bytesS_app (a b : ByteArray) : bytesS (a ++ b) = bytesS a ++ bytesS b := by
  unfold bytesS
  rw [ByteArray.data_append, Array.toList_append]
/-- The texts that mark, from a number on. -/
def marksS (k n : Nat) : List ByteArray := (List.range n).map fun i => markB (k + i)
theorem marksS_length (k n : Nat) : (marksS k n).length = n := by simp [marksS]
theorem marksS_get (k n i : Nat) (h : i < n) : (marksS k n)[i]'(by rw [marksS_length]; exact h) = markB (k + i) := by simp [marksS]
theorem marksS_step (k : Nat) (l : List ByteArray) (i : Nat) (h : i < l.length) :
    (svs (marksS k i ++ l.drop i)).set i (.string (markB (k + i))) = svs (marksS k (i + 1) ++ l.drop (i + 1)) := by
  rw [svs_append, List.set_append, if_neg (by rw [svs_length, marksS_length]; omega), svs_length, marksS_length, Nat.sub_self, List.drop_eq_getElem_cons h]
  have : marksS k (i + 1) = marksS k i ++ [markB (k + i)] := by simp [marksS, List.range_succ]
  rw [this, List.append_assoc, svs_append]
  rfl
end Go.Proofs.Ytkefbhidfbnipaa
