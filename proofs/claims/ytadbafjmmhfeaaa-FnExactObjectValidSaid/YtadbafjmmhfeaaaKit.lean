/- Small aids for walks: regions that draw their order, walked once in the order of the text. -/
import Derived.Test.YtadbafjmmhfeaaaBase
import Derived.Deep.QuietTactic
import Derived.BigQuiet
import Derived.IntWalk
namespace Go.Proofs.Ytadbafjmmhfeaaa
open Go.ChangeShapes Go.WideShapes Go.ChangeAt Go.RowKit Go.Joins
set_option linter.unusedSimpArgs false
set_option linter.unusedVariables false
set_option maxRecDepth 100000
/-- A callee that only computes, in a region that only reads. -/
theorem quiet_at {P : Program} {f : FuncId} {args : Array Value} {w : World} {n : Nat} {v : Value}
    (h : Calls P f args (w.drewN n) fun e w' => e = .returned v ∧ w.drewN n = w') : Calls P f args (w.drewN n) fun e w'' => e = .returned v ∧ ∃ m, w'' = w.drewN m :=
  h.mono fun _ _ ⟨he, hm⟩ => ⟨he, n, hm.symm⟩
/-- A world that has come of another by growth alone. -/
structure Grew (w0 : World) where
  w : World
  h : Below w0.heap.size w0 w
instance grewInhabited (w0 : World) : Inhabited (Grew w0) := ⟨⟨w0, Below.refl _ _⟩⟩
theorem Grew.cell {w0 : World} (p : Grew w0) {a : Addr} {v : Value} (h : w0.cell? a = some v) : p.w.cell? a = some v :=
  (p.h.cell (World.block_lt_of_cell? w0 a h)).trans h
theorem Grew.from {w0 : World} (p : Grew w0) : From w0.heap.size w0 p.w := ⟨p.h, p.h.size⟩
/-- **One walk in the order of the text serves every order**, where each operation yields the same value in every world that growth alone brings. -/
theorem wp_region_grew {P : Program} {id : Nat} {Q : Exit → Act → World → Prop} {a : Act} {w : World} {l : List Oper} (hm : P.follows .mixedOrders = true) (hB : Region.lexB .any l.toArray = true)
    (h : wpQuiet P l.toArray (fun w' => ∃ p : Grew w, w' = p.w) (fun a' => ∀ w', (∃ p : Grew w, w' = p.w) → Q .normal a' w') l a) : (Code.region id l.toArray true).wp P Q a w :=
  wp_region_quiet (C := fun w' => ∃ p : Grew w, w' = p.w) hm hB ⟨⟨w.drew, (From.start w).drew.below⟩, rfl⟩ (by simpa using h)
theorem grew_call {P : Program} {f : FuncId} {args : Array Value} {w0 : World} {p : Grew w0} {v : Value}
    (h : Calls P f args p.w fun e w' => e = .returned v ∧ Below p.w.heap.size p.w w') : Calls P f args p.w fun e w'' => e = .returned v ∧ ∃ q : Grew w0, w'' = q.w :=
  h.mono fun _ _ ⟨he, hb⟩ => ⟨he, ⟨_, p.h.trans (hb.mono p.h.size)⟩, rfl⟩
theorem grew_same {P : Program} {f : FuncId} {args : Array Value} {w0 : World} {p : Grew w0} {v : Value}
    (h : Calls P f args p.w fun e w' => e = .returned v ∧ p.w = w') : Calls P f args p.w fun e w'' => e = .returned v ∧ ∃ q : Grew w0, w'' = q.w :=
  h.mono fun _ _ ⟨he, hb⟩ => ⟨he, p, hb.symm⟩
end Go.Proofs.Ytadbafjmmhfeaaa
