/- Slices of texts. -/
import Derived.Test.YthenijikmjffjaaBase
namespace Go.Proofs.Ythenijikmjffjaa
open Go.ChangeShapes Go.WideShapes Go.ChangeAt Go.RowKit Go.Joins
set_option linter.unusedSimpArgs false
set_option linter.unusedVariables false
set_option maxRecDepth 100000

/-- The cells of texts. -/
def svs (l : List ByteArray) : List Value := l.map Value.string
theorem svs_length (l : List ByteArray) : (svs l).length = l.length := by simp [svs]
theorem svs_append (l k : List ByteArray) : svs (l ++ k) = svs l ++ svs k := by simp [svs]
theorem svs_one (l : List ByteArray) : ∀ u ∈ svs l, u.oneCell' = true := by
  intro u hu; obtain ⟨_, _, rfl⟩ := List.mem_map.1 hu; rfl
/-- A slice of texts. -/
def StrsAt (w : World) (v : Value) (l : List ByteArray) : Prop := Reads w 1 v l.length (svs l)
theorem StrsAt.below {w w' : World} {v : Value} {l : List ByteArray} {B : Nat} (h : StrsAt w v l) (hB : w.heap.size ≤ B) (hb : Below B w w') : StrsAt w' v l := Reads.below h hB hb
theorem StrsAt.form {w : World} {v : Value} {l : List ByteArray} (h : StrsAt w v l) :
    ∃ (a : Option Addr) (cap : Nat), v = .slice a l.length cap ∧ l.length ≤ cap ∧ cap ≤ maxLen ∧ (a = none → cap = 0) ∧
      (0 < l.length → ∃ b off, a = some ⟨b, off, none⟩ ∧ ∀ j (hj : j < l.length), w.cell? ⟨b, off + j, none⟩ = some (.string l[j])) := by
  obtain ⟨_, a, cap, rfl, h2, h3, h4, h5⟩ := h
  refine ⟨a, cap, rfl, h2, h3, h4, fun hn => ?_⟩
  obtain ⟨b, off, rfl, hc⟩ := h5 hn
  exact ⟨b, off, rfl, fun j hj => hc j _ (by simp [svs, hj])⟩
/-- Texts that the call owns. -/
def OwnS (w : World) (base : Nat) (v : Value) (l : List ByteArray) : Prop := w.ownsRow base 9 1 v l.length (svs l)
theorem OwnS.reads {w : World} {base : Nat} {v : Value} {l : List ByteArray} (h : OwnS w base v l) : StrsAt w v l := reads_of_owns h
theorem info_str : (Try.prog.info? 9).map (fun i => (i.zero, i.size, i.bytes)) = some (some (.string ⟨#[]⟩), 1, 16) := by kernel_rfl
theorem owns_snocS {w : World} {base : Nat} {v : Value} {l : List ByteArray} {s : ByteArray} (h : w.ownsRow base 9 1 v (l.length + 1) (svs l ++ [Value.string s])) : OwnS w base v (l ++ [s]) := by
  unfold OwnS
  rw [List.length_append, svs_append]
  exact h
end Go.Proofs.Ythenijikmjffjaa
