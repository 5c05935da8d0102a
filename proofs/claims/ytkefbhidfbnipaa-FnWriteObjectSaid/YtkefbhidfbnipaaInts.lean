/- Slices of numbers that a law copies, compares, writes over (marks). -/
import Derived.Test.YtkefbhidfbnipaaBytes
import Derived.Test.YtkefbhidfbnipaaBase
import Derived.Test.YtkefbhidfbnipaaSec
namespace Go.Proofs.Ytkefbhidfbnipaa
open Go.ChangeShapes Go.WideShapes Go.ChangeAt Go.RowKit Go.Joins
set_option linter.unusedSimpArgs false
set_option linter.unusedVariables false
set_option maxRecDepth 100000
def ivs (l : List Int) : List Value := l.map fun n => .int .i64 n
theorem ivs_length (l : List Int) : (ivs l).length = l.length := by simp [ivs]
theorem ivs_append (l k : List Int) : ivs (l ++ k) = ivs l ++ ivs k := by simp [ivs]
/-- A slice of numbers. -/
def IntsAt (w : World) (v : Value) (l : List Int) : Prop := Reads w 1 v l.length (ivs l)
theorem IntsAt.below {w w' : World} {v : Value} {l : List Int} {B : Nat} (h : IntsAt w v l) (hB : w.heap.size ≤ B) (hb : Below B w w') : IntsAt w' v l := Reads.below h hB hb
theorem IntsAt.form {w : World} {v : Value} {l : List Int} (h : IntsAt w v l) :
    ∃ (a : Option Addr) (cap : Nat), v = .slice a l.length cap ∧ l.length ≤ cap ∧ cap ≤ maxLen ∧ (a = none → cap = 0) ∧
      (0 < l.length → ∃ b off, a = some ⟨b, off, none⟩ ∧ ∀ j (hj : j < l.length), w.cell? ⟨b, off + j, none⟩ = some (.int .i64 l[j])) := by
  obtain ⟨_, a, cap, rfl, h2, h3, h4, h5⟩ := h
  refine ⟨a, cap, rfl, h2, h3, h4, fun hn => ?_⟩
  obtain ⟨b, off, rfl, hc⟩ := h5 hn
  refine ⟨b, off, rfl, fun j hj => hc j _ ?_⟩
  simp [ivs, hj]
/-- Numbers that the call owns. -/
def OwnI (w : World) (base : Nat) (v : Value) (l : List Int) : Prop := w.ownsRow base 3 1 v l.length (ivs l)
theorem OwnI.reads {w : World} {base : Nat} {v : Value} {l : List Int} (h : OwnI w base v l) : IntsAt w v l := reads_of_owns h
theorem ownI_call {w w' : World} {base : Nat} {v : Value} {l : List Int} (h : OwnI w base v l) (hb : Below w.heap.size w w') : OwnI w' base v l := owns_call h hb
theorem info_int : (Try.prog.info? 3).map (fun i => (i.zero, i.size, i.bytes)) = some (some (.int .i64 0), 1, 8) := by kernel_rfl
theorem owns_snocI {w : World} {base : Nat} {v : Value} {l : List Int} {s : Int} (h : w.ownsRow base 3 1 v (l.length + 1) (ivs l ++ [Value.int .i64 s])) : OwnI w base v (l ++ [s]) := by
  unfold OwnI
  rw [List.length_append, ivs_append]
  exact h
/-- The marks from a number on. -/
def marksI (k n : Nat) : List Int := (List.range n).map fun (i : Nat) => ((k : Int) + (i : Int))
theorem marksI_length (k n : Nat) : (marksI k n).length = n := by simp [marksI]
theorem marksI_get (k n i : Nat) (h : i < n) : (marksI k n)[i]'(by rw [marksI_length]; exact h) = (k : Int) + (i : Int) := by simp [marksI]
theorem marksI_step (k : Nat) (l : List Int) (i : Nat) (h : i < l.length) :
    (ivs (marksI k i ++ l.drop i)).set i (.int .i64 ((k : Int) + (i : Int))) = ivs (marksI k (i + 1) ++ l.drop (i + 1)) := by
  rw [ivs_append, List.set_append, if_neg (by rw [ivs_length, marksI_length]; omega), ivs_length, marksI_length, Nat.sub_self, List.drop_eq_getElem_cons h]
  show ivs (marksI k i) ++ (Value.int .i64 ((k : Int) + (i : Int)) :: ivs (l.drop (i + 1))) = _
  have : marksI k (i + 1) = marksI k i ++ [(k : Int) + (i : Int)] := by simp [marksI, List.range_succ]
  rw [this, List.append_assoc, ivs_append]
  rfl
end Go.Proofs.Ytkefbhidfbnipaa
