/- Hidden names; with no program in sight. -/
import Derived.Test.YtkefbhidfbnipaaPlainR
import Derived.Test.YtkefbhidfbnipaaMarkO
import Derived.Test.YtkefbhidfbnipaaNames
namespace Go.Proofs.Ytkefbhidfbnipaa
open Go.ChangeShapes Go.WideShapes Go.ChangeAt Go.RowKit Go.Joins
set_option linter.unusedSimpArgs false
set_option linter.unusedVariables false
def hideS (L : List ByteArray) (x : SymD) : SymD := if x.whr ≠ -1 ∧ inB L x.name = false then { x with bind := 0 } else x
def hideO (o : ObjD) (L : List ByteArray) : ObjD := if objB o = true then ⟨o.secs, o.syms.map (hideS L)⟩ else ⟨[], []⟩
def hideK (o : ObjD) (L : List ByteArray) (k : Nat) : List SymD := (o.syms.take k).map (hideS L) ++ o.syms.drop k
theorem hideK_length (o : ObjD) (L : List ByteArray) (k : Nat) : (hideK o L k).length = o.syms.length := by
  unfold hideK; rw [List.length_append, List.length_map, List.length_take, List.length_drop]; omega
theorem hideK_get (o : ObjD) (L : List ByteArray) (k : Nat) (hk : k < o.syms.length) : (hideK o L k)[k]? = some o.syms[k] := by
  unfold hideK
  rw [List.getElem?_append_right (by simp; omega), List.length_map, List.length_take, Nat.min_eq_left (by omega), Nat.sub_self, List.getElem?_drop, Nat.add_zero, List.getElem?_eq_getElem hk]
theorem hideK_step (o : ObjD) (L : List ByteArray) (k : Nat) (hk : k < o.syms.length) : hideK o L (k + 1) = (hideK o L k).set k (hideS L o.syms[k]) := by
  have hl : ((o.syms.take k).map (hideS L)).length = k := by simp; omega
  unfold hideK
  rw [List.set_append_right _ _ (by rw [hl]; exact Nat.le_refl _), hl, Nat.sub_self, List.drop_eq_getElem_cons hk, List.set_cons_zero, List.take_succ_eq_append_getElem hk, List.map_append, List.append_assoc]
  rfl
theorem hideK_full (o : ObjD) (L : List ByteArray) : hideK o L o.syms.length = o.syms.map (hideS L) := by simp [hideK]
theorem set_same {α : Type} {l : List α} {k : Nat} {x : α} (h : l[k]? = some x) : l.set k x = l := by
  obtain ⟨hk, rfl⟩ := List.getElem?_eq_some_iff.1 h
  exact List.set_getElem_self hk
theorem split_at {α : Type} {l : List α} {k : Nat} {x : α} (h : l[k]? = some x) : l = l.take k ++ x :: l.drop (k + 1) := by
  obtain ⟨hk, rfl⟩ := List.getElem?_eq_some_iff.1 h
  rw [← List.drop_eq_getElem_cons hk, List.take_append_drop]
/-- A cell of a row of symbols is changed. -/
theorem syms_set {l : List SymD} {k : Nat} {x x' : SymD} (h : l[k]? = some x) (j : Nat) (u : Value) (hj : j < 4) (hx : symL x' = (symL x).set j u) : (l.flatMap symL).set (k * 4 + j) u = (l.set k x').flatMap symL := by
  have hk : (l.take k).length = k := by obtain ⟨hk, -⟩ := List.getElem?_eq_some_iff.1 h; rw [List.length_take]; omega
  have h1 := flat_set symL 4 (fun x => symL_length x) (l.take k) (l.drop (k + 1)) x x' j u hj hx
  rw [hk, ← split_at h] at h1
  rw [h1]
  congr 1
  conv => rhs; rw [split_at h]
  rw [List.set_append_right _ _ (by rw [hk]; exact Nat.le_refl _), hk, Nat.sub_self, List.set_cons_zero]
theorem syms_cells {u : World} {base g n c : Nat} {l : List SymD} (h : u.ownsRow base 57 4 (.slice (some ⟨g, 0, none⟩) n c) n (l.flatMap symL)) (hn : l.length = n) {k : Nat} {x : SymD} (hx : l[k]? = some x) :
    u.cell? ⟨g, k * 4, none⟩ = some (.string x.name) ∧ u.cell? ⟨g, k * 4 + 1, none⟩ = some (.int .i64 x.bind) ∧ u.cell? ⟨g, k * 4 + 2, none⟩ = some (.int .i64 x.whr) ∧ u.cell? ⟨g, k * 4 + 3, none⟩ = some (.int .i64 x.val) := by
  have hk : (l.take k).length = k := by obtain ⟨hk, -⟩ := List.getElem?_eq_some_iff.1 hx; rw [List.length_take]; omega
  have hkn : k < n := by obtain ⟨hk, -⟩ := List.getElem?_eq_some_iff.1 hx; omega
  have h1 : ∀ j, j < 4 → u.cell? ⟨g, k * 4 + j, none⟩ = (symL x)[j]? := fun j hj => by
    rw [h.cellAt (k * 4 + j) (by omega)]
    have := flat_at symL 4 (fun x => symL_length x) (l.take k) (l.drop (k + 1)) x j hj
    rw [hk, ← split_at hx] at this
    exact this
  exact ⟨h1 0 (by decide), h1 1 (by decide), h1 2 (by decide), h1 3 (by decide)⟩
theorem objB_fewO {o : ObjD} (h : objB o = true) : FewObj o := by
  have h1 := objB_few h
  refine ⟨by omega, by omega, fun x hx => ?_⟩
  have h2 := (objB_sec h hx).bytes
  have h3 := (objB_sec h hx).fixl
  exact ⟨by omega, by omega⟩
theorem hideO_steps (o : ObjD) (L : List ByteArray) : objSteps (hideO o L) ≤ objSteps o := by
  unfold hideO
  split
  · unfold objSteps; simp
  · simp [objSteps, secSteps]
theorem hideO_few {o : ObjD} (L : List ByteArray) : objB o = true → FewObj (hideO o L) := by
  intro h
  have h1 := objB_fewO h
  unfold hideO
  rw [if_pos h]
  exact ⟨h1.1, by simpa using h1.2.1, h1.2.2⟩
end Go.Proofs.Ytkefbhidfbnipaa
