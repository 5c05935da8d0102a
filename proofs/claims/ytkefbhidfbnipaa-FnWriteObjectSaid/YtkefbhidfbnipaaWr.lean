/- Objects written: both functions compute the same bytes. -/
import Derived.Test.YtkefbhidfbnipaaLen
import Derived.Test.YtkefbhidfbnipaaInv
import Derived.Test.YtkefbhidfbnipaaBytes
import Derived.Test.YtkefbhidfbnipaaPlainQ
import Derived.Test.YtkefbhidfbnipaaSec
namespace Go.Proofs.Ytkefbhidfbnipaa
open Go.ChangeShapes Go.WideShapes Go.ChangeAt Go.RowKit Go.Joins
set_option linter.unusedSimpArgs false
set_option linter.unusedVariables false
set_option maxRecDepth 100000
theorem ownB_app {w : World} {B : Nat} {v : Value} {U X : List UInt8} {n : Nat} {cells : List Value} (h : w.ownsRow B 5 1 v (U.length + n) (bvs U ++ cells)) (hc : cells = bvs X) (hn : n = X.length) : OwnB w B v (U ++ X) := by
  subst hc hn
  unfold OwnB
  rw [List.length_append, bvs_append]
  exact h
theorem apart_of_lt {u : World} {M size n : Nat} {e : TypeId} {v OUT : Value} {xs : List Value} (h : u.ownsRow M e size v n xs) (hv0 : ∀ q, OUT.ownBlock = some q → q < M) : v.ownBlock = none ∨ v.ownBlock ≠ OUT.ownBlock := by
  cases hq : v.ownBlock with
  | none => exact .inl rfl
  | some q => exact .inr fun he => (by have := hv0 q he.symm; have := owns_block h q hq; omega)
theorem align_le {n : Int} (h : alignB n = true) : 0 ≤ n ∧ n ≤ 255 := by
  rcases (alignB_iff _).1 h with rfl | rfl | rfl | rfl <;> decide
theorem ownB_lit0 {w : World} {B : Nat} (h : B ≤ w.heap.size) : OwnB (w.alloc (.cells #[] 5)) B (.slice (some ⟨w.heap.size, 0, none⟩) 0 0) [] := by
  have := World.ownsRow_lit w #[] (e := 5) (size := 1) (base := B) 0 h (Nat.zero_le _) rfl
  simpa [OwnB, bvs] using this
theorem u8_val {n : Int} (h0 : 0 ≤ n) (h1 : n ≤ 255) : ((u8of n).toNat : Int) = n := by
  unfold u8of
  rw [UInt8.toNat_ofNat']
  omega
end Go.Proofs.Ytkefbhidfbnipaa
