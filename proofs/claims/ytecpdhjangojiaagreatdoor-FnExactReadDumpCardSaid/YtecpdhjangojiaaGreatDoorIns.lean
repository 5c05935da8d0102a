/- A text put into a sorted list: the reference's way. -/
import Derived.Test.YtecpdhjangojiaaGreatDoorBase
import Derived.Test.YtecpdhjangojiaaGreatDoorBytes
import Derived.Test.YtecpdhjangojiaaGreatDoorInv
import Derived.Test.YtecpdhjangojiaaGreatDoorSec
namespace Go.Proofs.YtecpdhjangojiaaGreatDoor
open Go.ChangeShapes Go.WideShapes Go.ChangeAt Go.RowKit Go.Joins
set_option linter.unusedSimpArgs false
set_option linter.unusedVariables false
set_option maxRecDepth 100000
theorem lss_of {a b : ByteArray} {c : Bool} (h : less (bytesS a) (bytesS b) = c) : Op.bytesLess a.toList b.toList = c := by
  rw [toList_bytesS, toList_bytesS]; exact h
theorem svs_take (l : List ByteArray) (k : Nat) : svs (l.take k) = (svs l).take k := by simp [svs]
theorem svs_drop (l : List ByteArray) (k : Nat) : svs (l.drop k) = (svs l).drop k := by simp [svs]
/-- The end of a slice. -/
theorem Reads.drop {w : World} {a : Option Addr} {n cap : Nat} {xs : List Value} (h : Reads w 1 (.slice a n cap) n xs) (m : Nat) (hm : m ≤ n) : ∀ b, (∀ bl off, a = some ⟨bl, off, none⟩ → b = some ⟨bl, off + m, none⟩ ∨ m = n) → (b = none → cap = m) → Reads w 1 (.slice b (n - m) (cap - m)) (n - m) (xs.drop m) := by
  intro b hb hb2
  obtain ⟨h1, a', cap', hv, h2, h3, h4, h5⟩ := h
  simp only [Value.slice.injEq] at hv
  obtain ⟨rfl, _, rfl⟩ := hv
  refine ⟨by rw [List.length_drop, h1]; omega, b, cap - m, rfl, by omega, by omega, fun h => by have := hb2 h; omega, fun hn => ?_⟩
  obtain ⟨bl, off, rfl, hc⟩ := h5 (by omega)
  rcases hb bl off rfl with rfl | h
  · refine ⟨bl, off + m, rfl, fun j u hu => ?_⟩
    rw [List.getElem?_drop] at hu
    have := hc (m + j) u hu
    rwa [← Nat.add_assoc] at this
  · omega
end Go.Proofs.YtecpdhjangojiaaGreatDoor
