/- What objects obey, with no program in sight. What valid objects keep; reached sections; with no program in sight. -/
import Derived.Test.YtkefbhidfbnipaaSec
namespace Go.Proofs.Ytkefbhidfbnipaa
/-! PlainO -/
open Go.RowKit
set_option linter.unusedSimpArgs false
set_option linter.unusedVariables false
/-- Whether a symbol is not local. -/
def globB (s : SymD) : Bool := decide (s.bind ≠ 0)
/-- Whether a symbol is valid. -/
def symB (s : SymD) (secs : List SecD) : Bool :=
  nameB s.name && withinB s.bind 0 2 &&
    (if s.whr = -1 then decide (s.val = 0) && decide (s.bind ≠ 0)
     else if s.whr = -2 then withinB s.val 0 60000
     else match secs[s.whr.toNat]? with | some x => decide (0 ≤ s.whr) && withinB s.val 0 (sectionSize x) | none => false)
/-- Whether one of the symbols ahead has its name, too. -/
def dupB (pre : List SymD) (s : SymD) : Bool := globB s && pre.any fun x => globB x && decide (x.name = s.name)
def symsB (secs : List SecD) : List SymD → List SymD → Bool
  | _, [] => true
  | pre, s :: r => symB s secs && !dupB pre s && symsB secs (pre ++ [s]) r
/-- Whether an object is valid. -/
def objB (o : ObjD) : Bool := decide (o.secs.length ≤ 8) && decide (o.syms.length ≤ 12) && o.secs.all (fun s => secB s o.syms.length) && symsB o.secs [] o.syms
theorem symsB_iff (secs : List SecD) : ∀ (l pre : List SymD), symsB secs pre l = true ↔ (∀ s ∈ l, symB s secs = true) ∧ ∀ (i : Nat) (h : i < l.length), dupB (pre ++ l.take i) l[i] = false
  | [], pre => by simp [symsB]
  | s :: r, pre => by
    have ih := symsB_iff secs r (pre ++ [s])
    simp only [symsB, Bool.and_eq_true, Bool.not_eq_true', ih, List.mem_cons, forall_eq_or_imp]
    constructor
    · rintro ⟨⟨h1, h2⟩, h3, h4⟩
      refine ⟨⟨h1, h3⟩, fun i hi => ?_⟩
      cases i with
      | zero => simpa using h2
      | succ i => simpa using h4 i (by simpa using hi)
    · rintro ⟨⟨h1, h3⟩, h4⟩
      refine ⟨⟨h1, ?_⟩, h3, fun i hi => ?_⟩
      · have := h4 0 (by simp)
        rw [List.take_zero, List.append_nil] at this
        exact this
      · have := h4 (i + 1) (by simpa using hi)
        rw [List.take_succ_cons] at this
        rw [List.append_assoc]
        exact this
structure ObjOk (o : ObjD) : Prop where
  few : o.secs.length ≤ 8
  few2 : o.syms.length ≤ 12
  secs : ∀ s ∈ o.secs, secB s o.syms.length = true
  syms : ∀ s ∈ o.syms, symB s o.secs = true
  once : ∀ (i : Nat) (h : i < o.syms.length), dupB (o.syms.take i) o.syms[i] = false
theorem objB_iff (o : ObjD) : objB o = true ↔ ObjOk o := by
  unfold objB
  simp only [Bool.and_eq_true, decide_eq_true_eq, List.all_eq_true, symsB_iff]
  constructor
  · rintro ⟨⟨⟨h1, h2⟩, h3⟩, h4, h5⟩
    exact ⟨h1, h2, h3, h4, fun i h => by simpa using h5 i h⟩
  · rintro ⟨h1, h2, h3, h4, h5⟩
    exact ⟨⟨⟨h1, h2⟩, h3⟩, h4, fun i h => by simpa using h5 i h⟩
theorem objB_twice {o : ObjD} {s : SymD} {r : List SymD} (h : o.syms = s :: r) (hs : s.bind ≠ 0) : objB ⟨o.secs, o.syms ++ [s]⟩ = false := by
  cases hb : objB ⟨o.secs, o.syms ++ [s]⟩ with
  | false => rfl
  | true =>
    have := ((objB_iff _).1 hb).once o.syms.length (by simp)
    simp [h, dupB, globB, hs] at this
theorem objB_empty : objB ⟨[], []⟩ = true := rfl
/-- Whether objects are valid, and few. -/
def objsB (l : List ObjD) : Bool := decide (l.length ≤ 4) && l.all objB
theorem objsB_part {l : List ObjD} (h : objsB l = true) (n : Nat) : objsB (l.drop n) = true := by
  unfold objsB at h ⊢
  simp only [Bool.and_eq_true, decide_eq_true_eq, List.all_eq_true, List.length_drop] at h ⊢
  exact ⟨by omega, fun x hx => h.2 x (List.mem_of_mem_drop hx)⟩
theorem objsB_bad (l : List ObjD) (o : ObjD) (h : objB o = false) : objsB (l ++ [o]) = false := by
  unfold objsB
  rw [Bool.and_eq_false_iff]
  right
  rw [List.all_append]
  simp [h]
/-- Whether a symbol gives a name by a binding. -/
def giveB (nm : ByteArray) (b : Int) (s : SymD) : Bool := decide (s.name = nm) && decide (s.bind = b) && decide (s.whr ≠ -1)
/-- The first symbol that fulfils something, by objects and then by symbols. -/
def findIn (p : SymD → Bool) : List ObjD → Nat → Option (Nat × Nat)
  | [], _ => none
  | o :: r, k => match o.syms.findIdx? p with | some j => some (k, j) | none => findIn p r (k + 1)
def findNm (l : List ObjD) (nm : ByteArray) : Option (Nat × Nat) := (findIn (giveB nm 1) l 0).or (findIn (giveB nm 2) l 0)
theorem findIn_some (p : SymD → Bool) : ∀ (l : List ObjD) (k a b : Nat), findIn p l k = some (a, b) → ∃ o s, k ≤ a ∧ l[a - k]? = some o ∧ o.syms[b]? = some s ∧ p s = true
  | [], k, a, b, h => by simp [findIn] at h
  | o :: r, k, a, b, h => by
    unfold findIn at h
    split at h
    · rename_i j hj
      simp only [Option.some.injEq, Prod.mk.injEq] at h
      obtain ⟨rfl, rfl⟩ := h
      obtain ⟨h1, h2, _⟩ := List.findIdx?_eq_some_iff_getElem.1 hj
      exact ⟨o, o.syms[j], Nat.le_refl _, by simp, List.getElem?_eq_getElem h1, h2⟩
    · obtain ⟨o', s, h1, h2, h3, h4⟩ := findIn_some p r (k + 1) a b h
      refine ⟨o', s, by omega, ?_, h3, h4⟩
      rw [show a - k = (a - (k + 1)) + 1 by omega, List.getElem?_cons_succ]
      exact h2
theorem findIn_none (p : SymD → Bool) : ∀ (l : List ObjD) (k : Nat), findIn p l k = none ↔ ∀ o ∈ l, ∀ s ∈ o.syms, p s = false
  | [], k => by simp [findIn]
  | o :: r, k => by
    have ih := findIn_none p r (k + 1)
    unfold findIn
    split
    · rename_i j hj
      obtain ⟨h1, h2, _⟩ := List.findIdx?_eq_some_iff_getElem.1 hj
      constructor
      · intro h; cases h
      · intro h
        have := h o (by simp) o.syms[j] (List.getElem_mem h1)
        rw [h2] at this; cases this
    · rename_i hj
      rw [ih]
      rw [List.findIdx?_eq_none_iff] at hj
      constructor
      · intro h o' ho' s hs
        rcases List.mem_cons.1 ho' with rfl | ho'
        · exact hj s hs
        · exact h o' ho' s hs
      · intro h o' ho' s hs
        exact h o' (by simp [ho']) s hs
/-! PlainR -/
open Go.RowKit
set_option linter.unusedSimpArgs false
set_option linter.unusedVariables false
structure FixOk (f : FixD) (many bl : Int) : Prop where
  kind : 1 ≤ f.2.1 ∧ f.2.1 ≤ 3
  to : 0 ≤ f.2.2.1 ∧ f.2.2.1 < many
  add : -1000 ≤ f.2.2.2 ∧ f.2.2.2 ≤ 1000
  at_ : 0 ≤ f.1 ∧ f.1 ≤ bl
theorem fixupWide_kind {k : Int} (h : fixupWide k ≠ 0) : 1 ≤ k ∧ k ≤ 3 := by
  unfold fixupWide at h
  split at h
  · omega
  split at h
  · omega
  split at h <;> omega
theorem fixesB_mem {many bl : Int} : ∀ {fin : Int} {l : List FixD}, 0 ≤ fin → fixesB many bl fin l = true → ∀ f ∈ l, FixOk f many bl
  | fin, f :: r, h0, h, g, hg => by
    simp only [fixesB, fixB, Bool.and_eq_true, decide_eq_true_eq, withinB_iff, bne_iff_ne] at h
    obtain ⟨⟨⟨⟨⟨h1, h2⟩, h3⟩, h4⟩, h5⟩, h6⟩ := h
    have hw := fixupWide_range f.2.1
    rcases List.mem_cons.1 hg with rfl | hg
    · exact ⟨fixupWide_kind h1, ⟨h2, h3⟩, h4, by omega, by omega⟩
    · exact fixesB_mem (by omega) h6 g hg
structure SecOk (s : SecD) (many : Int) : Prop where
  name : nameB s.name = true
  kind : 1 ≤ s.kind ∧ s.kind ≤ 3
  align : alignB s.align = true
  bytes : s.bytes.length ≤ 48
  fixl : s.fix.length ≤ 6
  size : 0 ≤ s.size ∧ s.size ≤ 48
  fix : ∀ f ∈ s.fix, FixOk f many 48
  blank : s.kind = 3 → s.bytes = [] ∧ s.fix = []
  full : s.kind ≠ 3 → s.size = 0
theorem secB_ok {s : SecD} {many : Int} (h : secB s many = true) : SecOk s many := by
  unfold secB at h
  simp only [Bool.and_eq_true, withinB_iff] at h
  obtain ⟨⟨⟨h1, h2⟩, h3⟩, h4⟩ := h
  by_cases hk : s.kind = 3
  · rw [if_pos hk] at h4
    simp only [Bool.and_eq_true, decide_eq_true_eq, withinB_iff] at h4
    have hb := List.eq_nil_of_length_eq_zero h4.1.2
    have hf := List.eq_nil_of_length_eq_zero h4.2
    exact ⟨h1, h2, h3, by rw [hb]; simp, by rw [hf]; simp, h4.1.1, (fun f hm => by rw [hf] at hm; cases hm), fun _ => ⟨hb, hf⟩, fun h => absurd hk h⟩
  · rw [if_neg hk] at h4
    simp only [Bool.and_eq_true, decide_eq_true_eq] at h4
    refine ⟨h1, h2, h3, h4.1.1.2, h4.1.2, by omega, fun f hm => ?_, fun h => absurd h hk, fun _ => h4.1.1.1⟩
    have := fixesB_mem (Int.le_refl 0) h4.2 f hm
    exact ⟨this.kind, this.to, this.add, this.at_.1, by have := this.at_.2; have := h4.1.1.2; omega⟩
theorem SecOk.sectionSize {s : SecD} {many : Int} (h : SecOk s many) : 0 ≤ sectionSize s ∧ sectionSize s ≤ 48 := by
  unfold Go.Proofs.Ytkefbhidfbnipaa.sectionSize
  have h1 := h.bytes
  have h2 := h.size
  split <;> omega
structure SymOk (s : SymD) (secs : List SecD) : Prop where
  name : nameB s.name = true
  bind : 0 ≤ s.bind ∧ s.bind ≤ 2
  whr : -2 ≤ s.whr ∧ s.whr < (secs.length : Int)
  val : 0 ≤ s.val ∧ s.val ≤ 60000
theorem symB_ok {s : SymD} {secs : List SecD} {many : Int} (hs : ∀ x ∈ secs, secB x many = true) (h : symB s secs = true) : SymOk s secs := by
  unfold symB at h
  simp only [Bool.and_eq_true, withinB_iff] at h
  obtain ⟨⟨h1, h2⟩, h3⟩ := h
  by_cases k1 : s.whr = -1
  · rw [if_pos k1] at h3
    simp only [Bool.and_eq_true, decide_eq_true_eq] at h3
    exact ⟨h1, h2, by omega, by omega⟩
  rw [if_neg k1] at h3
  by_cases k2 : s.whr = -2
  · rw [if_pos k2] at h3
    simp only [withinB_iff] at h3
    exact ⟨h1, h2, by omega, by omega⟩
  rw [if_neg k2] at h3
  cases hx : secs[s.whr.toNat]? with
  | none => rw [hx] at h3; cases h3
  | some x =>
    rw [hx] at h3
    simp only [Bool.and_eq_true, decide_eq_true_eq, withinB_iff] at h3
    obtain ⟨hl, he⟩ := List.getElem?_eq_some_iff.1 hx
    have hx2 := (secB_ok (hs x (he ▸ List.getElem_mem hl))).sectionSize
    exact ⟨h1, h2, by omega, by omega⟩
theorem objB_sec {o : ObjD} (h : objB o = true) {s : SecD} (hs : s ∈ o.secs) : SecOk s o.syms.length := secB_ok (((objB_iff o).1 h).secs s hs)
theorem objB_sym {o : ObjD} (h : objB o = true) {s : SymD} (hs : s ∈ o.syms) : SymOk s o.secs := symB_ok ((objB_iff o).1 h).secs (((objB_iff o).1 h).syms s hs)
/-- Whether a text is in a list. -/
def inB (names : List ByteArray) (s : ByteArray) : Bool := names.any fun n => decide (n = s)
/-- One symbol more: its section is reached if its name is asked for. -/
def reachSet (names : List ByteArray) (s : List Bool) (x : SymD) : List Bool := if x.bind ≠ 0 ∧ 0 ≤ x.whr ∧ inB names x.name = true then s.set x.whr.toNat true else s
def whrAt (syms : List SymD) (n : Int) : Int := match syms[n.toNat]? with | some x => x.whr | none => -1
/-- One fixup more, of section i. -/
def fixSet (syms : List SymD) (i : Nat) (s : List Bool) (f : FixD) : List Bool := if s.getD i false = true ∧ 0 ≤ whrAt syms f.2.2.1 then s.set (whrAt syms f.2.2.1).toNat true else s
def sweepK (syms : List SymD) (secs : List SecD) (s : List Bool) : Nat → List Bool
  | 0 => s
  | k + 1 => match secs[k]? with | some x => x.fix.foldl (fixSet syms k) (sweepK syms secs s k) | none => sweepK syms secs s k
def sweeps (syms : List SymD) (secs : List SecD) (s : List Bool) : Nat → List Bool
  | 0 => s
  | n + 1 => sweepK syms secs (sweeps syms secs s n) secs.length
def startK (names : List ByteArray) (o : ObjD) (k : Nat) : List Bool := (o.syms.take k).foldl (reachSet names) (List.replicate o.secs.length false)
def reachedL (o : ObjD) (names : List ByteArray) : List Bool := sweeps o.syms o.secs (startK names o o.syms.length) o.secs.length
def idxK (s : List Bool) (k : Nat) : List Int := ((List.range k).filter fun i => s.getD i false).map fun (i : Nat) => (i : Int)
def reachI (o : ObjD) (names : List ByteArray) : List Int := if objB o = true then idxK (reachedL o names) o.secs.length else []
theorem reachSet_length (names : List ByteArray) (s : List Bool) (x : SymD) : (reachSet names s x).length = s.length := by
  unfold reachSet; split <;> simp
theorem fixSet_length (syms : List SymD) (i : Nat) (s : List Bool) (f : FixD) : (fixSet syms i s f).length = s.length := by
  unfold fixSet; split <;> simp
theorem foldFix_length (syms : List SymD) (i : Nat) : ∀ (l : List FixD) (s : List Bool), (l.foldl (fixSet syms i) s).length = s.length
  | [], _ => rfl
  | f :: r, s => by rw [List.foldl_cons, foldFix_length syms i r, fixSet_length]
theorem foldReach_length (names : List ByteArray) : ∀ (l : List SymD) (s : List Bool), (l.foldl (reachSet names) s).length = s.length
  | [], _ => rfl
  | f :: r, s => by rw [List.foldl_cons, foldReach_length names r, reachSet_length]
theorem sweepK_length (syms : List SymD) (secs : List SecD) (s : List Bool) : ∀ k, (sweepK syms secs s k).length = s.length
  | 0 => rfl
  | k + 1 => by
    have ih := sweepK_length syms secs s k
    unfold sweepK
    split
    · rw [foldFix_length, ih]
    · exact ih
theorem sweeps_length (syms : List SymD) (secs : List SecD) (s : List Bool) : ∀ k, (sweeps syms secs s k).length = s.length
  | 0 => rfl
  | k + 1 => by unfold sweeps; rw [sweepK_length, sweeps_length syms secs s k]
theorem startK_length (names : List ByteArray) (o : ObjD) (k : Nat) : (startK names o k).length = o.secs.length := by
  unfold startK; rw [foldReach_length, List.length_replicate]
theorem reachedL_length (o : ObjD) (names : List ByteArray) : (reachedL o names).length = o.secs.length := by
  unfold reachedL; rw [sweeps_length, startK_length]
theorem startK_step (names : List ByteArray) (o : ObjD) (k : Nat) (hk : k < o.syms.length) : startK names o (k + 1) = reachSet names (startK names o k) o.syms[k] := by
  unfold startK
  rw [List.take_succ_eq_append_getElem hk, List.foldl_append]
  rfl
theorem sweepK_step (syms : List SymD) (secs : List SecD) (s : List Bool) (k : Nat) (hk : k < secs.length) : sweepK syms secs s (k + 1) = secs[k].fix.foldl (fixSet syms k) (sweepK syms secs s k) := by
  conv => lhs; unfold sweepK
  rw [List.getElem?_eq_getElem hk]
theorem foldFix_step (syms : List SymD) (i : Nat) (s : List Bool) (l : List FixD) (j : Nat) (hj : j < l.length) : (l.take (j + 1)).foldl (fixSet syms i) s = fixSet syms i ((l.take j).foldl (fixSet syms i) s) l[j] := by
  rw [List.take_succ_eq_append_getElem hj, List.foldl_append]
  rfl
/-- From a section that is not reached nothing is. -/
theorem foldFix_skip (syms : List SymD) (i : Nat) : ∀ (l : List FixD) (s : List Bool), s.getD i false = false → l.foldl (fixSet syms i) s = s
  | [], _, _ => rfl
  | f :: r, s, h => by
    have e : fixSet syms i s f = s := by unfold fixSet; rw [if_neg (by rw [h]; simp)]
    rw [List.foldl_cons, e, foldFix_skip syms i r s h]
theorem foldFix_rest (syms : List SymD) (i : Nat) (s : List Bool) (l : List FixD) (j : Nat) (h : ((l.take j).foldl (fixSet syms i) s).getD i false = false) : l.foldl (fixSet syms i) s = (l.take j).foldl (fixSet syms i) s := by
  conv => lhs; rw [← List.take_append_drop j l, List.foldl_append]
  exact foldFix_skip syms i _ _ h
theorem reachSet_nil (s : List Bool) (x : SymD) : reachSet [] s x = s := by
  unfold reachSet inB; simp
/-- One name more. -/
theorem reachSet_name (names : List ByteArray) (s : List Bool) (x : SymD) (j : Nat) (hj : j < names.length) :
    reachSet (names.take (j + 1)) s x = if names[j] = x.name ∧ x.bind ≠ 0 ∧ 0 ≤ x.whr then (reachSet (names.take j) s x).set x.whr.toNat true else reachSet (names.take j) s x := by
  have h0 : inB (names.take (j + 1)) x.name = (inB (names.take j) x.name || decide (names[j] = x.name)) := by
    unfold inB
    rw [List.take_succ_eq_append_getElem hj, List.any_append]
    simp
  unfold reachSet
  rw [h0]
  by_cases h1 : x.bind ≠ 0 ∧ 0 ≤ x.whr
  · by_cases h2 : names[j] = x.name
    · cases h3 : inB (names.take j) x.name <;> simp [h1, h2]
    · cases h3 : inB (names.take j) x.name <;> simp [h1, h2]
  · rw [if_neg (fun h => h1 ⟨h.1, h.2.1⟩), if_neg (fun h => h1 h.2), if_neg (fun h => h1 ⟨h.1, h.2.1⟩)]
theorem idxK_step (s : List Bool) (k : Nat) : idxK s (k + 1) = idxK s k ++ (if s.getD k false = true then [(k : Int)] else []) := by
  unfold idxK
  rw [List.range_succ, List.filter_append, List.map_append]
  congr 1
  cases h : s.getD k false
  · rw [List.filter_cons_of_neg (by rw [h]; simp)]; simp
  · rw [List.filter_cons_of_pos (by rw [h])]; simp
theorem idxK_length (s : List Bool) (k : Nat) : (idxK s k).length ≤ k := by
  unfold idxK
  rw [List.length_map]
  exact Nat.le_trans (List.length_filter_le _ _) (by simp)
theorem reachI_length (o : ObjD) (names : List ByteArray) : (reachI o names).length ≤ o.secs.length := by
  unfold reachI
  split
  · exact idxK_length _ _
  · exact Nat.zero_le _
theorem whrAt_of {syms : List SymD} {n : Int} (h0 : 0 ≤ n) (h : n.toNat < syms.length) : whrAt syms n = syms[n.toNat].whr := by
  unfold whrAt; rw [List.getElem?_eq_getElem h]
/-- All names of an object. -/
def allNames (o : ObjD) : List ByteArray := o.secs.map (·.name) ++ o.syms.map (·.name)
theorem allNames_length (o : ObjD) : (allNames o).length = o.secs.length + o.syms.length := by simp [allNames]
/-- How many fixups sections have. -/
def fixN : List SecD → Nat
  | [] => 0
  | s :: r => s.fix.length + fixN r
def bytN : List SecD → Nat
  | [] => 0
  | s :: r => s.bytes.length + bytN r
theorem fixN_append : ∀ a b, fixN (a ++ b) = fixN a + fixN b
  | [], b => by simp [fixN]
  | s :: r, b => by simp only [List.cons_append, fixN, fixN_append r b]; omega
theorem bytN_append : ∀ a b, bytN (a ++ b) = bytN a + bytN b
  | [], b => by simp [bytN]
  | s :: r, b => by simp only [List.cons_append, bytN, bytN_append r b]; omega
theorem fixN_step (l : List SecD) (k : Nat) (hk : k < l.length) : fixN (l.take (k + 1)) = fixN (l.take k) + l[k].fix.length := by
  rw [List.take_succ_eq_append_getElem hk, fixN_append]; simp [fixN]
theorem bytN_step (l : List SecD) (k : Nat) (hk : k < l.length) : bytN (l.take (k + 1)) = bytN (l.take k) + l[k].bytes.length := by
  rw [List.take_succ_eq_append_getElem hk, bytN_append]; simp [bytN]
theorem fixN_le {m : Nat} : ∀ {l : List SecD}, (∀ s ∈ l, s.fix.length ≤ m) → fixN l ≤ m * l.length
  | [], _ => by simp [fixN]
  | s :: r, h => by
    have h1 := h s (List.mem_cons_self ..)
    have h2 := fixN_le (l := r) fun x hx => h x (List.mem_cons_of_mem _ hx)
    simp only [fixN, List.length_cons, Nat.mul_add]; omega
theorem bytN_le {m : Nat} : ∀ {l : List SecD}, (∀ s ∈ l, s.bytes.length ≤ m) → bytN l ≤ m * l.length
  | [], _ => by simp [bytN]
  | s :: r, h => by
    have h1 := h s (List.mem_cons_self ..)
    have h2 := bytN_le (l := r) fun x hx => h x (List.mem_cons_of_mem _ hx)
    simp only [bytN, List.length_cons, Nat.mul_add]; omega
theorem objB_fixN {o : ObjD} (h : objB o = true) (k : Nat) : fixN (o.secs.take k) ≤ 48 := by
  have h1 := fixN_le (m := 6) (l := o.secs.take k) fun s hs => (objB_sec h (List.mem_of_mem_take hs)).fixl
  have h2 := ((objB_iff o).1 h).few
  rw [List.length_take] at h1
  omega
theorem objB_bytN {o : ObjD} (h : objB o = true) (k : Nat) : bytN (o.secs.take k) ≤ 384 := by
  have h1 := bytN_le (m := 48) (l := o.secs.take k) fun s hs => (objB_sec h (List.mem_of_mem_take hs)).bytes
  have h2 := ((objB_iff o).1 h).few
  rw [List.length_take] at h1
  omega
end Go.Proofs.Ytkefbhidfbnipaa
