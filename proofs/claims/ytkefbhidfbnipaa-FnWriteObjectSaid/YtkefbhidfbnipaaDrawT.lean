/- What the statements on tables of names draw. -/
import Derived.Test.YtkefbhidfbnipaaTab
import Derived.Test.YtkefbhidfbnipaaDrawK
import Derived.Test.YtkefbhidfbnipaaInv
namespace Go.Proofs.Ytkefbhidfbnipaa
open Go.ChangeShapes Go.WideShapes Go.ChangeAt Go.RowKit Go.Joins
set_option linter.unusedSimpArgs false
set_option linter.unusedVariables false
set_option maxRecDepth 100000
theorem tableL_length (l : List ByteArray) : (tableL l).length ≤ 361 := by
  unfold tableL
  split
  · rename_i h
    unfold namesB at h
    rw [Bool.and_eq_true, decide_eq_true_eq, List.all_eq_true] at h
    have hs : ∀ s ∈ sortS (l.map bytesS), s.length ≤ 8 := fun s hs => by
      rw [mem_sortS] at hs
      obtain ⟨x, hx, rfl⟩ := List.mem_map.1 hs
      have := (nameB_size (h.2 x hx)).2
      unfold bytesS; rw [Array.length_toList]; exact this
    have h1 := tabBody_length (sortS (l.map bytesS)) hs (sortS (l.map bytesS)) (fun s h => h)
    have h2 := sortS_length (l.map bytesS)
    rw [List.length_map] at h2
    unfold tabOf
    rw [List.length_cons]
    omega
  · simp
theorem ownB_drawn {w w' : World} {g B : Nat} {v : Value} {l : List UInt8} (h : OwnB w B v l) (hg : w.grownBy w' (some g)) (hB : g < B) : OwnB w' B v l := owns_drawn h hg hB
theorem ownS_drawn {w w' : World} {g B : Nat} {v : Value} {l : List ByteArray} (h : OwnS w B v l) (hg : w.grownBy w' (some g)) (hB : g < B) : OwnS w' B v l := owns_drawn h hg hB
def BytesInt (k : Nat) (a b : Int) (w : World) (v : Value) : Prop := ∃ (vb : Value) (l : List UInt8) (n : Int), v = .tuple #[vb, .int .i64 n] ∧ BytesAt w vb l ∧ l.length ≤ k ∧ a ≤ n ∧ n ≤ b
def BytesStr (k n : Nat) (w : World) (v : Value) : Prop := ∃ (vb : Value) (l : List UInt8) (s : ByteArray), v = .tuple #[vb, .string s] ∧ BytesAt w vb l ∧ l.length ≤ k ∧ s.size ≤ n
end Go.Proofs.Ytkefbhidfbnipaa
