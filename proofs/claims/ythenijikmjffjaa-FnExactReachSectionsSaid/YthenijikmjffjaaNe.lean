/- Blocks of cells of different types are different blocks. -/
import Derived.Test.YthenijikmjffjaaBase
namespace Go.Proofs.Ythenijikmjffjaa
open Go.ChangeShapes Go.WideShapes Go.ChangeAt Go.RowKit Go.Joins
set_option linter.unusedSimpArgs false
set_option linter.unusedVariables false
theorem blk_apart {u : World} {T B : Nat} {c : Array Value} {t e : TypeId} {size : Nat} {v : Value} {n : Nat} {xs : List Value} (h : Blk u T c t) (ho : u.ownsRow B e size v n xs) (hne : e ≠ t) : some T ≠ v.ownBlock := by
  intro hv
  rcases ho.2 with ⟨rfl, _⟩ | ⟨g, cap, cur, rfl, _, hh, _⟩
  · cases hv
  · simp only [Value.ownBlock, Option.some.injEq] at hv
    subst hv
    unfold Blk at h
    rw [h] at hh
    simp only [Option.some.injEq, Obj.cells.injEq] at hh
    exact hne hh.2.1.symm
theorem owns_ne {u : World} {B1 B2 s1 s2 n1 n2 : Nat} {e1 e2 : TypeId} {v1 v2 : Value} {x1 x2 : List Value} (h1 : u.ownsRow B1 e1 s1 v1 n1 x1) (h2 : u.ownsRow B2 e2 s2 v2 n2 x2) (hne : e1 ≠ e2) : ∀ k, v1.ownBlock = some k → v2.ownBlock ≠ some k := by
  intro k h3 h4
  rcases h1.2 with ⟨rfl, _⟩ | ⟨g, cap, cur, rfl, _, hh, _⟩
  · cases h3
  rcases h2.2 with ⟨rfl, _⟩ | ⟨g', cap', cur', rfl, _, hh', _⟩
  · cases h4
  simp only [Value.ownBlock, Option.some.injEq] at h3 h4
  subst h3 h4
  rw [hh] at hh'
  simp only [Option.some.injEq, Obj.cells.injEq] at hh'
  exact hne hh'.2.1
/-- What lies in a row of cells of another type outlives an append. -/
theorem owns_keptNe {u u' : World} {B1 B2 s1 s2 n1 n2 : Nat} {e1 e2 : TypeId} {v1 v2 : Value} {x1 x2 : List Value} (h1 : u.ownsRow B1 e1 s1 v1 n1 x1) (h2 : u.ownsRow B2 e2 s2 v2 n2 x2) (hne : e1 ≠ e2) (hg : u.grownBy u' v2.ownBlock) : u'.ownsRow B1 e1 s1 v1 n1 x1 := by
  refine World.ownsRow.kept h1 hg ?_
  cases hq : v1.ownBlock with
  | none => exact .inl rfl
  | some q => exact .inr fun e => owns_ne h1 h2 hne q hq e.symm
end Go.Proofs.Ythenijikmjffjaa
