/- The names that an object wants, or gives. -/
import Derived.Test.YtkefbhidfbnipaaSorted
import Derived.Test.YtkefbhidfbnipaaStr
import Derived.Test.YtkefbhidfbnipaaIns
import Derived.Test.YtkefbhidfbnipaaObjVal
namespace Go.Proofs.Ytkefbhidfbnipaa
open Go.ChangeShapes Go.WideShapes Go.ChangeAt Go.RowKit Go.Joins
set_option linter.unusedSimpArgs false
set_option linter.unusedVariables false
set_option maxRecDepth 100000
def wantB (s : SymD) : Bool := decide (s.whr = -1)
def gvnB (s : SymD) : Bool := decide (s.whr ≠ -1) && decide (s.bind ≠ 0)
def namesOfL (p : SymD → Bool) (l : List SymD) : List ByteArray := (l.filter p).map (·.name)
def namesL (p : SymD → Bool) (o : ObjD) : List ByteArray := if objB o = true then sortB (namesOfL p o.syms) else []
theorem namesOfL_length (p : SymD → Bool) (l : List SymD) : (namesOfL p l).length ≤ l.length := by
  unfold namesOfL; rw [List.length_map]; exact List.length_filter_le _ _
theorem namesOfL_step (p : SymD → Bool) (l : List SymD) (k : Nat) (hk : k < l.length) : namesOfL p (l.take (k + 1)) = namesOfL p (l.take k) ++ (if p l[k] = true then [l[k].name] else []) := by
  unfold namesOfL
  rw [List.take_succ_eq_append_getElem hk, List.filter_append, List.map_append]
  congr 1
  cases h : p l[k] <;> simp [h]
theorem objB_few {o : ObjD} (h : objB o = true) : o.secs.length ≤ 8 ∧ o.syms.length ≤ 12 := by
  unfold objB at h
  simp only [Bool.and_eq_true, decide_eq_true_eq] at h
  exact ⟨h.1.1.1, h.1.1.2⟩
theorem namesL_length (p : SymD → Bool) (o : ObjD) : (namesL p o).length ≤ o.syms.length := by
  unfold namesL
  split
  · exact Nat.le_trans (sortB_length _) (namesOfL_length _ _)
  · exact Nat.zero_le _
end Go.Proofs.Ytkefbhidfbnipaa
