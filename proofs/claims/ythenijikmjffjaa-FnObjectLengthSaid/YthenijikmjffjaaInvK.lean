/- Regions by invariant: what each kind of operation owes. -/
import Derived.Test.YthenijikmjffjaaInv
import Derived.Test.YthenijikmjffjaaBase
namespace Go.Proofs.Ythenijikmjffjaa
open Go.ChangeShapes Go.WideShapes Go.ChangeAt Go.RowKit Go.Joins
set_option linter.unusedSimpArgs false
set_option linter.unusedVariables false
section
variable {P : Program} {ops : Array Oper} {Q : Exit → Act → World → Prop} {o : Oper} {a : Act} {w : World} {K : Act → World → Prop}
theorem owe_run (hg : o.guard = none) (h : Oper.wp P o a w K Q) : if Region.wanted o (yielded ops a.tmps) = true then Oper.wp P o a w K Q else K (a.put o.dst undef) w := by
  rw [if_pos (by simp [Region.wanted, hg])]; exact h
theorem owe_want {g : Nat} {b : Bool} (hg : o.guard = some (g, b)) (hy : yielded ops a.tmps g = some b) (h : Oper.wp P o a w K Q) : if Region.wanted o (yielded ops a.tmps) = true then Oper.wp P o a w K Q else K (a.put o.dst undef) w := by
  rw [if_pos (by simp [Region.wanted, hg, hy])]; exact h
theorem owe_skip {g : Nat} {b c : Bool} (hg : o.guard = some (g, b)) (hy : yielded ops a.tmps g = some c) (hne : b ≠ c) (h : K (a.put o.dst undef) w) : if Region.wanted o (yielded ops a.tmps) = true then Oper.wp P o a w K Q else K (a.put o.dst undef) w := by
  rw [if_neg (by simp [Region.wanted, hg, hy]; exact fun e => hne e.symm)]; exact h
theorem yielded_at {g : Nat} {d : Tmp} {b : Bool} (hd : dstAt ops g = some d) (hv : a.tmps.getD d undef = .bool b) : yielded ops a.tmps g = some b := by
  unfold yielded
  unfold dstAt at hd
  rw [hd]
  have : a.tmps[d]? = some (.bool b) := by
    rcases Nat.lt_or_ge d a.tmps.size with h | h
    · simp [h] at hv ⊢; exact hv
    · simp [Array.getElem?_eq_none h] at hv; cases hv
  simp [this]
theorem wp_val {v : Value} {w' : World} (hr : (execOp a.eval o).run P w = .ok (.value v) w') (h : K (a.put o.dst v) w') : Oper.wp P o a w K Q := by
  unfold Oper.wp; rw [hr]; exact h
theorem wp_skp {w' : World} (hr : (execOp a.eval o).run P w = .ok .skip w') (h : K (a.put o.dst undef) w') : Oper.wp P o a w K Q := by
  unfold Oper.wp; rw [hr]; exact h
theorem wp_fn {f : FuncId} {vs : Array Value} {args : Array Operand} {tys : Array TypeId} (ho : o.op = .call { callee := .value (.func f), args := args, argTypes := tys }) (hargs : args.map a.eval = vs) (he : (callFunc f vs).run P w = .ok (.enter f vs) w)
    (h : Calls P f vs w (fun e w' => ∃ v, e = .returned v ∧ K (a.put o.dst v) w')) : Oper.wp P o a w K Q := by
  have hr : (execOp a.eval o).run P w = .ok (.enter f vs) w := by
    simp [execOp, ho, resolve, hargs, Act.eval, Deferred.ofValue, invoke, he]
  unfold Oper.wp
  rw [hr]
  refine h.mono fun e w' ⟨v, he, hk⟩ => ?_
  subst he
  exact hk
theorem args1 {x : Operand} {v : Value} (h : a.eval x = v) : (#[x] : Array Operand).map a.eval = #[v] := by subst h; simp
theorem args2 {x y : Operand} {v u : Value} (h : a.eval x = v) (h2 : a.eval y = u) : (#[x, y] : Array Operand).map a.eval = #[v, u] := by subst h h2; simp
theorem args3 {x y z : Operand} {v u t : Value} (h : a.eval x = v) (h2 : a.eval y = u) (h3 : a.eval z = t) : (#[x, y, z] : Array Operand).map a.eval = #[v, u, t] := by subst h h2 h3; simp
theorem enter_fn {f : FuncId} {fn : Func} {c : Code} (hf : P.funcs[f]? = some fn) (hname : (fn.name == "runtime.NumGoroutine") = false) (hb : fn.body = some c) (vs : Array Value) (w : World) : (callFunc f vs).run P w = .ok (.enter f vs) w := by
  have h1 : fn.name ≠ "runtime.NumGoroutine" := by simpa using hname
  simp [callFunc, hf, h1, hb, mark]
def notDstB (ops : Array Oper) (x : Tmp) : Bool := (List.range ops.size).all fun i => dstAt ops i != some x
theorem not_dst {x : Tmp} (h : notDstB ops x = true) : ∀ i, dstAt ops i ≠ some x := by
  intro i
  rcases Nat.lt_or_ge i ops.size with hi | hi
  · have := List.all_eq_true.1 h i (List.mem_range.2 hi)
    simpa using this
  · simp [dstAt, Array.getElem?_eq_none hi]
end
end Go.Proofs.Ythenijikmjffjaa
