/- What objects obey, with no program in sight. -/
import Derived.Test.YthenijikmjffjaaObj
import Derived.Test.YthenijikmjffjaaSecVal
namespace Go.Proofs.Ythenijikmjffjaa
open Go.RowKit
set_option linter.unusedSimpArgs false
set_option linter.unusedVariables false
/-- Whether a symbol is not local. -/
def globB (s : SymD) : Bool := decide (s.bind ≠ 0)
/-- Whether a symbol is valid. -/
def symB (s : SymD) (secs : List SecD) : Bool :=
  nameB s.name && withinB s.bind 0 2 &&
    (if s.whr = -1 then decide (s.val = 0) && decide (s.bind ≠ 0)
     else if s.whr = -2 then withinB s.val 0 60000
     else match secs[s.whr.toNat]? with | some x => decide (0 ≤ s.whr) && withinB s.val 0 (sectionSize x) | none => false)
/-- Whether one of the symbols ahead has its name, too. -/
def dupB (pre : List SymD) (s : SymD) : Bool := globB s && pre.any fun x => globB x && decide (x.name = s.name)
def symsB (secs : List SecD) : List SymD → List SymD → Bool
  | _, [] => true
  | pre, s :: r => symB s secs && !dupB pre s && symsB secs (pre ++ [s]) r
/-- Whether an object is valid. -/
def objB (o : ObjD) : Bool := decide (o.secs.length ≤ 8) && decide (o.syms.length ≤ 12) && o.secs.all (fun s => secB s o.syms.length) && symsB o.secs [] o.syms
theorem symsB_iff (secs : List SecD) : ∀ (l pre : List SymD), symsB secs pre l = true ↔ (∀ s ∈ l, symB s secs = true) ∧ ∀ (i : Nat) (h : i < l.length), dupB (pre ++ l.take i) l[i] = false
  | [], pre => by simp [symsB]
  | s :: r, pre => by
    have ih := symsB_iff secs r (pre ++ [s])
    simp only [symsB, Bool.and_eq_true, Bool.not_eq_true', ih, List.mem_cons, forall_eq_or_imp]
    constructor
    · rintro ⟨⟨h1, h2⟩, h3, h4⟩
      refine ⟨⟨h1, h3⟩, fun i hi => ?_⟩
      cases i with
      | zero => simpa using h2
      | succ i => simpa using h4 i (by simpa using hi)
    · rintro ⟨⟨h1, h3⟩, h4⟩
      refine ⟨⟨h1, ?_⟩, h3, fun i hi => ?_⟩
      · have := h4 0 (by simp)
        rw [List.take_zero, List.append_nil] at this
        exact this
      · have := h4 (i + 1) (by simpa using hi)
        rw [List.take_succ_cons] at this
        rw [List.append_assoc]
        exact this
structure ObjOk (o : ObjD) : Prop where
  few : o.secs.length ≤ 8
  few2 : o.syms.length ≤ 12
  secs : ∀ s ∈ o.secs, secB s o.syms.length = true
  syms : ∀ s ∈ o.syms, symB s o.secs = true
  once : ∀ (i : Nat) (h : i < o.syms.length), dupB (o.syms.take i) o.syms[i] = false
theorem objB_iff (o : ObjD) : objB o = true ↔ ObjOk o := by
  unfold objB
  simp only [Bool.and_eq_true, decide_eq_true_eq, List.all_eq_true, symsB_iff]
  constructor
  · rintro ⟨⟨⟨h1, h2⟩, h3⟩, h4, h5⟩
    exact ⟨h1, h2, h3, h4, fun i h => by simpa using h5 i h⟩
  · rintro ⟨h1, h2, h3, h4, h5⟩
    exact ⟨⟨⟨h1, h2⟩, h3⟩, h4, fun i h => by simpa using h5 i h⟩
theorem objB_twice {o : ObjD} {s : SymD} {r : List SymD} (h : o.syms = s :: r) (hs : s.bind ≠ 0) : objB ⟨o.secs, o.syms ++ [s]⟩ = false := by
  cases hb : objB ⟨o.secs, o.syms ++ [s]⟩ with
  | false => rfl
  | true =>
    have := ((objB_iff _).1 hb).once o.syms.length (by simp)
    simp [h, dupB, globB, hs] at this
theorem objB_empty : objB ⟨[], []⟩ = true := rfl
/-- Whether objects are valid, and few. -/
def objsB (l : List ObjD) : Bool := decide (l.length ≤ 4) && l.all objB
theorem objsB_part {l : List ObjD} (h : objsB l = true) (n : Nat) : objsB (l.drop n) = true := by
  unfold objsB at h ⊢
  simp only [Bool.and_eq_true, decide_eq_true_eq, List.all_eq_true, List.length_drop] at h ⊢
  exact ⟨by omega, fun x hx => h.2 x (List.mem_of_mem_drop hx)⟩
theorem objsB_bad (l : List ObjD) (o : ObjD) (h : objB o = false) : objsB (l ++ [o]) = false := by
  unfold objsB
  rw [Bool.and_eq_false_iff]
  right
  rw [List.all_append]
  simp [h]
/-- Whether a symbol gives a name by a binding. -/
def giveB (nm : ByteArray) (b : Int) (s : SymD) : Bool := decide (s.name = nm) && decide (s.bind = b) && decide (s.whr ≠ -1)
/-- The first symbol that fulfils something, by objects and then by symbols. -/
def findIn (p : SymD → Bool) : List ObjD → Nat → Option (Nat × Nat)
  | [], _ => none
  | o :: r, k => match o.syms.findIdx? p with | some j => some (k, j) | none => findIn p r (k + 1)
def findNm (l : List ObjD) (nm : ByteArray) : Option (Nat × Nat) := (findIn (giveB nm 1) l 0).or (findIn (giveB nm 2) l 0)
theorem findIn_some (p : SymD → Bool) : ∀ (l : List ObjD) (k a b : Nat), findIn p l k = some (a, b) → ∃ o s, k ≤ a ∧ l[a - k]? = some o ∧ o.syms[b]? = some s ∧ p s = true
  | [], k, a, b, h => by simp [findIn] at h
  | o :: r, k, a, b, h => by
    unfold findIn at h
    split at h
    · rename_i j hj
      simp only [Option.some.injEq, Prod.mk.injEq] at h
      obtain ⟨rfl, rfl⟩ := h
      obtain ⟨h1, h2, _⟩ := List.findIdx?_eq_some_iff_getElem.1 hj
      exact ⟨o, o.syms[j], Nat.le_refl _, by simp, List.getElem?_eq_getElem h1, h2⟩
    · obtain ⟨o', s, h1, h2, h3, h4⟩ := findIn_some p r (k + 1) a b h
      refine ⟨o', s, by omega, ?_, h3, h4⟩
      rw [show a - k = (a - (k + 1)) + 1 by omega, List.getElem?_cons_succ]
      exact h2
theorem findIn_none (p : SymD → Bool) : ∀ (l : List ObjD) (k : Nat), findIn p l k = none ↔ ∀ o ∈ l, ∀ s ∈ o.syms, p s = false
  | [], k => by simp [findIn]
  | o :: r, k => by
    have ih := findIn_none p r (k + 1)
    unfold findIn
    split
    · rename_i j hj
      obtain ⟨h1, h2, _⟩ := List.findIdx?_eq_some_iff_getElem.1 hj
      constructor
      · intro h; cases h
      · intro h
        have := h o (by simp) o.syms[j] (List.getElem_mem h1)
        rw [h2] at this; cases this
    · rename_i hj
      rw [ih]
      rw [List.findIdx?_eq_none_iff] at hj
      constructor
      · intro h o' ho' s hs
        rcases List.mem_cons.1 ho' with rfl | ho'
        · exact hj s hs
        · exact h o' ho' s hs
      · intro h o' ho' s hs
        exact h o' (by simp [ho']) s hs
end Go.Proofs.Ythenijikmjffjaa
