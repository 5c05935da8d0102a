/- Found names: prefixes of objects, one symbol more. -/
import Derived.Test.YtpgmmjdianoaeaaPlainR
namespace Go.Proofs.Ytpgmmjdianoaeaa
set_option linter.unusedSimpArgs false
set_option linter.unusedVariables false
theorem findIn_append (p : SymD → Bool) : ∀ (a b : List ObjD) (k : Nat), findIn p (a ++ b) k = (findIn p a k).or (findIn p b (k + a.length))
  | [], b, k => by simp [findIn]
  | o :: r, b, k => by
    have ih := findIn_append p r b (k + 1)
    cases h : o.syms.findIdx? p with
    | some j => simp [findIn, h]
    | none =>
      simp only [List.cons_append, findIn, h, ih, List.length_cons]
      rw [show k + 1 + r.length = k + (r.length + 1) by omega]
theorem findIn_one (p : SymD → Bool) (o : ObjD) (k : Nat) : findIn p [o] k = (o.syms.findIdx? p).map fun j => (k, j) := by
  cases h : o.syms.findIdx? p <;> simp [findIn, h]
/-- The objects ahead of one, and this one up to one of its symbols. -/
def preL (l : List ObjD) (o : ObjD) (k j : Nat) : List ObjD := l.take k ++ [⟨[], o.syms.take j⟩]
theorem pre_zero (p : SymD → Bool) (l : List ObjD) (o : ObjD) (k : Nat) : findIn p (preL l o k 0) 0 = findIn p (l.take k) 0 := by
  unfold preL
  rw [findIn_append, findIn_one]
  simp
theorem pre_full (p : SymD → Bool) (l : List ObjD) (k : Nat) (hk : k < l.length) : findIn p (preL l l[k] k l[k].syms.length) 0 = findIn p (l.take (k + 1)) 0 := by
  unfold preL
  rw [List.take_succ_eq_append_getElem hk, findIn_append, findIn_append, findIn_one, findIn_one, List.take_length]
theorem pre_step (p : SymD → Bool) (l : List ObjD) (o : ObjD) (k j : Nat) (hk : k ≤ l.length) (hj : j < o.syms.length) :
    findIn p (preL l o k (j + 1)) 0 = (findIn p (preL l o k j) 0).or (if p o.syms[j] = true then some (k, j) else none) := by
  unfold preL
  have h1 : (l.take k).length = k := by rw [List.length_take]; omega
  have h2 : (o.syms.take j).length = j := by rw [List.length_take]; omega
  rw [findIn_append, findIn_append, findIn_one, findIn_one, h1, Nat.zero_add, List.take_succ_eq_append_getElem hj, List.findIdx?_append, Option.or_assoc]
  congr 1
  cases h : (o.syms.take j).findIdx? p with
  | some i => simp
  | none =>
    by_cases hp : p o.syms[j] = true
    · simp [hp, List.findIdx?_cons, h2]
    · simp [hp, List.findIdx?_cons]
theorem findIn_congr {p q : SymD → Bool} : ∀ (l : List ObjD) (k : Nat), (∀ o ∈ l, ∀ s ∈ o.syms, p s = q s) → findIn p l k = findIn q l k
  | [], k, h => rfl
  | o :: r, k, h => by
    have ih := findIn_congr r (k + 1) fun o' ho => h o' (by simp [ho])
    have h1 : o.syms.findIdx? p = o.syms.findIdx? q := by
      have : ∀ (ss : List SymD), (∀ s ∈ ss, p s = q s) → ss.findIdx? p = ss.findIdx? q := by
        intro ss
        induction ss with
        | nil => intro _; rfl
        | cons a b ihb => intro hs; simp only [List.findIdx?_cons, hs a (by simp), ihb fun s hb => hs s (by simp [hb])]
      exact this _ fun s hs => h o (by simp) s hs
    simp only [findIn, h1, ih]
def gateB (nm : ByteArray) (s : SymD) : Bool := decide (s.name = nm) && decide (s.bind ≠ 0) && decide (s.whr ≠ -1)
theorem give_gate {nm : ByteArray} {s : SymD} (h : giveB nm 1 s = true) : gateB nm s = true := by
  unfold giveB at h; unfold gateB
  simp only [Bool.and_eq_true, decide_eq_true_eq] at h ⊢
  exact ⟨⟨h.1.1, by rw [h.1.2]; decide⟩, h.2⟩
theorem gate_give {nm : ByteArray} {s : SymD} (h : gateB nm s = true) (hb : s.bind = 1) : giveB nm 1 s = true := by
  unfold gateB at h; unfold giveB
  simp only [Bool.and_eq_true, decide_eq_true_eq] at h ⊢
  exact ⟨⟨h.1.1, hb⟩, h.2⟩
theorem gate_no {nm : ByteArray} {s : SymD} (h : gateB nm s = false) : giveB nm 1 s = false := by
  cases e : giveB nm 1 s with
  | false => rfl
  | true => rw [give_gate e] at h; cases h
theorem give_no {nm : ByteArray} {s : SymD} (hb : s.bind ≠ 1) : giveB nm 1 s = false := by
  unfold giveB; simp [hb]
/-- What the reference knows behind some objects: where, how often strongly, whether. -/
structure Giv (R1 R2 : Option (Nat × Nat)) (a b : Nat) (n : Int) (f : Bool) (m : Nat) : Prop where
  out : (R1.or R2).getD (0, 0) = (a, b)
  fnd : f = R2.isSome
  str : n = 0 ↔ R1 = none
  lo : 0 ≤ n
  hi : n ≤ m
  sub : R1.isSome = true → R2.isSome = true
theorem Giv.up {R1 R2 : Option (Nat × Nat)} {a b : Nat} {n : Int} {f : Bool} {m m' : Nat} (h : Giv R1 R2 a b n f m) (hm : m ≤ m') : Giv R1 R2 a b n f m' :=
  ⟨h.out, h.fnd, h.str, h.lo, by have := h.hi; omega, h.sub⟩
theorem Giv.start : Giv none none 0 0 0 false 0 := ⟨rfl, rfl, by simp, by omega, by omega, by simp⟩
theorem Giv.skip {R1 R2 : Option (Nat × Nat)} {a b : Nat} {n : Int} {f : Bool} {m : Nat} (h : Giv R1 R2 a b n f m) : Giv (R1.or none) (R2.or none) a b n f (m + 1) := by
  obtain ⟨h1, h2, h3, h4, h5, h6⟩ := h
  exact ⟨by simpa using h1, by simpa using h2, by simpa using h3, h4, by omega, by simpa using h6⟩
theorem Giv.put {R1 R2 : Option (Nat × Nat)} {a b : Nat} {n : Int} {f : Bool} {m : Nat} (h : Giv R1 R2 a b n f m) (hn : n = 0) (k j : Nat) : Giv (R1.or (some (k, j))) (R2.or (some (k, j))) k j (n + 1) true (m + 1) := by
  obtain ⟨h1, h2, h3, h4, h5, h6⟩ := h
  obtain rfl := h3.1 hn
  exact ⟨by simp, by cases R2 <;> simp, by simp; omega, by omega, by omega, by cases R2 <;> simp⟩
theorem Giv.more {R1 R2 : Option (Nat × Nat)} {a b : Nat} {n : Int} {f : Bool} {m : Nat} (h : Giv R1 R2 a b n f m) (hn : n ≠ 0) (k j : Nat) : Giv (R1.or (some (k, j))) (R2.or (some (k, j))) a b (n + 1) true (m + 1) ∧ f = true := by
  obtain ⟨h1, h2, h3, h4, h5, h6⟩ := h
  cases R1 with
  | none => exact absurd (h3.2 rfl) hn
  | some r =>
    have := h6 rfl
    cases R2 with
    | none => cases this
    | some r2 => exact ⟨⟨by simpa using h1, by simp, by simp; omega, by omega, by omega, by simp⟩, by rw [h2]; rfl⟩
theorem Giv.weakNew {R1 R2 : Option (Nat × Nat)} {a b : Nat} {n : Int} {m : Nat} (h : Giv R1 R2 a b n false m) (k j : Nat) : Giv (R1.or none) (R2.or (some (k, j))) k j n true (m + 1) := by
  obtain ⟨h1, h2, h3, h4, h5, h6⟩ := h
  cases R2 with
  | some r => cases h2
  | none =>
    cases R1 with
    | some r => have := h6 rfl; cases this
    | none => exact ⟨by simp, by simp, by simpa using h3, h4, by omega, by simp⟩
theorem Giv.weak {R1 R2 : Option (Nat × Nat)} {a b : Nat} {n : Int} {m : Nat} (h : Giv R1 R2 a b n true m) (k j : Nat) : Giv (R1.or none) (R2.or (some (k, j))) a b n true (m + 1) := by
  obtain ⟨h1, h2, h3, h4, h5, h6⟩ := h
  cases R2 with
  | none => cases h2
  | some r => exact ⟨by simpa using h1, by simp, by simpa using h3, h4, by omega, by simp⟩
/-- Of valid objects: the reference's answer is the program's. -/
theorem Giv.same {l : List ObjD} {nm : ByteArray} (hv : ∀ o ∈ l, ∀ s ∈ o.syms, 0 ≤ s.bind ∧ s.bind ≤ 2) :
    (findIn (giveB nm 1) l 0).or (findIn (gateB nm) l 0) = findNm l nm ∧ ((findIn (gateB nm) l 0).isSome = (findNm l nm).isSome) := by
  unfold findNm
  cases h : findIn (giveB nm 1) l 0 with
  | some r =>
    refine ⟨by simp, ?_⟩
    simp only [Option.some_or, Option.isSome_some]
    obtain ⟨a, b⟩ := r
    obtain ⟨o, s, -, h1, h2, h3⟩ := findIn_some _ _ _ _ _ h
    cases h4 : findIn (gateB nm) l 0 with
    | some _ => rfl
    | none =>
      have := (findIn_none _ _ _).1 h4 o (List.mem_of_getElem? h1) s (List.mem_of_getElem? h2)
      rw [give_gate h3] at this; cases this
  | none =>
    have h1 := (findIn_none _ _ _).1 h
    have h2 : findIn (gateB nm) l 0 = findIn (giveB nm 2) l 0 := findIn_congr l 0 fun o ho s hs => by
      have h3 := h1 o ho s hs
      obtain ⟨h4, h5⟩ := hv o ho s hs
      unfold giveB at h3 ⊢
      unfold gateB
      have : s.bind = 0 ∨ s.bind = 1 ∨ s.bind = 2 := by omega
      rcases this with e | e | e
      · simp [e]
      · rw [e] at h3 ⊢; simp at h3 ⊢; exact h3
      · simp [e]
    simp [h2]
theorem bind_of {l : List ObjD} (h : objsB l = true) : ∀ o ∈ l, ∀ s ∈ o.syms, 0 ≤ s.bind ∧ s.bind ≤ 2 := by
  intro o ho s hs
  unfold objsB at h
  rw [Bool.and_eq_true, List.all_eq_true] at h
  have h1 := h.2 o ho
  unfold objB at h1
  rw [Bool.and_eq_true] at h1
  have h2 := ((symsB_iff o.secs o.syms []).1 h1.2).1 s hs
  unfold symB at h2
  simp only [Bool.and_eq_true] at h2
  have h3 := h2.1.2
  unfold withinB at h3
  simp only [Bool.and_eq_true, decide_eq_true_eq] at h3
  omega
theorem few_of {l : List ObjD} (h : objsB l = true) : l.length ≤ 4 ∧ ∀ o ∈ l, o.syms.length ≤ 12 := by
  unfold objsB at h
  rw [Bool.and_eq_true, List.all_eq_true, decide_eq_true_eq] at h
  refine ⟨h.1, fun o ho => ?_⟩
  have h1 := h.2 o ho
  unfold objB at h1
  simp only [Bool.and_eq_true, decide_eq_true_eq] at h1
  exact h1.1.1.2
/-- What a symbol was found to be, as a value. -/
def giveV (r : Option (Nat × Nat)) : Value := .agg #[.int .i64 (r.getD (0, 0)).1, .int .i64 (r.getD (0, 0)).2]
end Go.Proofs.Ytpgmmjdianoaeaa
