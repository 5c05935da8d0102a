/- Kept symbols and sections, numbered anew; with no program in sight. -/
import Derived.Test.YtkefbhidfbnipaaPlainH
import Derived.Test.YtkefbhidfbnipaaInts
namespace Go.Proofs.Ytkefbhidfbnipaa
open Go.ChangeShapes Go.WideShapes Go.ChangeAt Go.RowKit Go.Joins
set_option linter.unusedSimpArgs false
set_option linter.unusedVariables false
/-- Those of a list that are marked. -/
def keepL {α : Type} : List Bool → List α → List α
  | b :: K, x :: r => if b = true then x :: keepL K r else keepL K r
  | _, _ => []
/-- How many marks there are ahead of a place. -/
def keptN (K : List Bool) (n : Nat) : Nat := (K.take n).count true
theorem keepL_snoc {α : Type} (b : Bool) (x : α) : ∀ (K : List Bool) (l : List α), K.length = l.length → keepL (K ++ [b]) (l ++ [x]) = keepL K l ++ (if b = true then [x] else [])
  | [], [], _ => by cases b <;> simp [keepL]
  | c :: K, y :: r, h => by
    have ih := keepL_snoc b x K r (by simpa using h)
    cases c <;> simp [keepL, ih]
  | [], _ :: _, h => by simp at h
  | _ :: _, [], h => by simp at h
theorem keepL_step {α : Type} (K : List Bool) (l : List α) (h : K.length = l.length) (k : Nat) (hk : k < l.length) (hK : k < K.length) : keepL (K.take (k + 1)) (l.take (k + 1)) = keepL (K.take k) (l.take k) ++ (if K[k] = true then [l[k]] else []) := by
  rw [List.take_succ_eq_append_getElem hk, List.take_succ_eq_append_getElem hK, keepL_snoc _ _ _ _ (by simp; omega)]
theorem keepL_count {α : Type} : ∀ (K : List Bool) (l : List α), K.length = l.length → (keepL K l).length = K.count true
  | [], [], _ => rfl
  | c :: K, y :: r, h => by
    have ih := keepL_count K r (by simpa using h)
    cases c <;> simp [keepL, ih]
  | [], _ :: _, h => by simp at h
  | _ :: _, [], h => by simp at h
theorem keepL_len {α : Type} (K : List Bool) (l : List α) (h : K.length = l.length) (k : Nat) : (keepL (K.take k) (l.take k)).length = keptN K k := by
  rw [keepL_count _ _ (by simp [h])]; rfl
theorem keptN_le (K : List Bool) (k : Nat) : keptN K k ≤ k := by
  unfold keptN; exact Nat.le_trans List.count_le_length (by simp; omega)
theorem keptN_step (K : List Bool) (k : Nat) (hK : k < K.length) : keptN K (k + 1) = keptN K k + (if K[k] = true then 1 else 0) := by
  unfold keptN
  rw [List.take_succ_eq_append_getElem hK, List.count_append]
  cases K[k] <;> simp
theorem keepL_map {α β : Type} (f : α → β) : ∀ (K : List Bool) (l : List α), (keepL K l).map f = keepL K (l.map f)
  | [], _ => by simp [keepL]
  | _ :: _, [] => by simp [keepL]
  | c :: K, y :: r => by
    have ih := keepL_map f K r
    cases c <;> simp [keepL, ih]
theorem keepL_get {α : Type} : ∀ (K : List Bool) (l : List α) (k : Nat), K[k]? = some true → (keepL K l)[keptN K k]? = l[k]?
  | [], _, k, h => by simp at h
  | c :: K, [], k, h => by simp [keepL]
  | true :: K, y :: r, 0, h => by simp [keepL, keptN]
  | false :: K, y :: r, 0, h => by simp at h
  | c :: K, y :: r, k + 1, h => by
    have ih := keepL_get K r k (by simpa using h)
    unfold keptN at ih ⊢
    cases c <;> simp [keepL, ih]
theorem keepL_sub {α : Type} : ∀ (K : List Bool) (l : List α), (keepL K l).Sublist l
  | [], _ => by simp [keepL]
  | _ :: _, [] => by simp [keepL]
  | c :: K, y :: r => by
    have ih := keepL_sub K r
    cases c
    · simpa [keepL] using ih.cons y
    · simpa [keepL] using ih
theorem keepL_mem {α : Type} {x : α} : ∀ {K : List Bool} {l : List α}, x ∈ keepL K l → ∃ k : Nat, l[k]? = some x ∧ K[k]? = some true
  | [], _, h => by simp [keepL] at h
  | _ :: _, [], h => by simp [keepL] at h
  | c :: K, y :: r, h => by
    unfold keepL at h
    split at h
    · rename_i hc
      rcases List.mem_cons.1 h with rfl | h
      · exact ⟨0, rfl, by simp [hc]⟩
      · obtain ⟨k, h1, h2⟩ := keepL_mem h
        exact ⟨k + 1, by simpa using h1, by simpa using h2⟩
    · obtain ⟨k, h1, h2⟩ := keepL_mem h
      exact ⟨k + 1, by simpa using h1, by simpa using h2⟩
theorem keepL_all {α : Type} : ∀ (l : List α), keepL (List.replicate l.length true) l = l
  | [] => rfl
  | x :: r => by simp [keepL, List.replicate_succ, keepL_all r]
theorem keptN_all (n k : Nat) (h : k ≤ n) : keptN (List.replicate n true) k = k := by
  unfold keptN; simp [List.take_replicate]; omega
theorem keptN_lt {α : Type} (K : List Bool) (l : List α) (k : Nat) (x : α) (h : K[k]? = some true) (hl : l[k]? = some x) : keptN K k < (keepL K l).length := by
  have := keepL_get K l k h
  rw [hl] at this
  exact (List.getElem?_eq_some_iff.1 this).1
/-- The first ones of a list changed. -/
def mapK {α : Type} (g : α → α) (l : List α) (k : Nat) : List α := (l.take k).map g ++ l.drop k
theorem mapK_zero {α : Type} (g : α → α) (l : List α) : mapK g l 0 = l := by simp [mapK]
theorem mapK_length {α : Type} (g : α → α) (l : List α) (k : Nat) : (mapK g l k).length = l.length := by
  unfold mapK; rw [List.length_append, List.length_map, List.length_take, List.length_drop]; omega
theorem mapK_get {α : Type} (g : α → α) (l : List α) (k : Nat) (hk : k < l.length) : (mapK g l k)[k]? = some l[k] := by
  unfold mapK
  rw [List.getElem?_append_right (by simp; omega), List.length_map, List.length_take, Nat.min_eq_left (by omega), Nat.sub_self, List.getElem?_drop, Nat.add_zero, List.getElem?_eq_getElem hk]
theorem mapK_step {α : Type} (g : α → α) (l : List α) (k : Nat) (hk : k < l.length) : mapK g l (k + 1) = (mapK g l k).set k (g l[k]) := by
  have hl : ((l.take k).map g).length = k := by simp; omega
  unfold mapK
  rw [List.set_append_right _ _ (by rw [hl]; exact Nat.le_refl _), hl, Nat.sub_self, List.drop_eq_getElem_cons hk, List.set_cons_zero, List.take_succ_eq_append_getElem hk, List.map_append, List.append_assoc]
  rfl
theorem mapK_full {α : Type} (g : α → α) (l : List α) : mapK g l l.length = l.map g := by simp [mapK]
/-- Numbers anew, for the first ones. -/
def numL (K : List Bool) (n k : Nat) : List Int := (List.range k).map (fun i => ((keptN K i : Nat) : Int)) ++ List.replicate (n - k) 0
theorem numL_zero (K : List Bool) (n : Nat) : numL K n 0 = List.replicate n 0 := by simp [numL]
theorem numL_length (K : List Bool) (n k : Nat) (h : k ≤ n) : (numL K n k).length = n := by simp [numL]; omega
theorem numL_step (K : List Bool) (n k : Nat) (h : k < n) : numL K n (k + 1) = (numL K n k).set k ((keptN K k : Nat) : Int) := by
  unfold numL
  rw [List.set_append_right _ _ (by simp), List.length_map, List.length_range, Nat.sub_self, show n - k = (n - (k + 1)) + 1 by omega, List.replicate_succ, List.set_cons_zero, List.range_succ, List.map_append, List.append_assoc]
  rfl
theorem numL_get (K : List Bool) (n j : Nat) (h : j < n) : (numL K n n)[j]? = some ((keptN K j : Nat) : Int) := by
  unfold numL
  simp [h]
def numU (K : List Bool) (k : Nat) : List Int := (List.range k).map (fun i => ((keptN K i : Nat) : Int))
theorem numU_length (K : List Bool) (k : Nat) : (numU K k).length = k := by simp [numU]
theorem numU_step (K : List Bool) (k : Nat) : numU K (k + 1) = numU K k ++ [((keptN K k : Nat) : Int)] := by
  unfold numU; rw [List.range_succ, List.map_append]; rfl
theorem numU_get (K : List Bool) (n j : Nat) (h : j < n) : (numU K n)[j]? = some ((keptN K j : Nat) : Int) := by
  unfold numU
  simp [h]
theorem keepL_next {α : Type} {K : List Bool} {l : List α} (h : K.length = l.length) {k : Nat} {x : α} {b : Bool} (hx : l[k]? = some x) (hb : K[k]? = some b) : keepL (K.take (k + 1)) (l.take (k + 1)) = keepL (K.take k) (l.take k) ++ (if b = true then [x] else []) := by
  obtain ⟨hk, rfl⟩ := List.getElem?_eq_some_iff.1 hx
  obtain ⟨hK, rfl⟩ := List.getElem?_eq_some_iff.1 hb
  exact keepL_step K l h k hk hK
theorem ivs_set (l : List Int) (j : Nat) (n : Int) : ivs (l.set j n) = (ivs l).set j (.int .i64 n) := by simp [ivs, List.map_set]
theorem ivs_get {l : List Int} {j : Nat} {n : Int} (h : l[j]? = some n) : (ivs l)[j]? = some (.int .i64 n) := by simp [ivs, h]
/-- Rows of as many cells each. -/
theorem rows_set {α : Type} (f : α → List Value) (N : Nat) (hf : ∀ x, (f x).length = N) {l : List α} {k : Nat} {x x' : α} (h : l[k]? = some x) (j : Nat) (u : Value) (hj : j < N) (hx : f x' = (f x).set j u) : (l.flatMap f).set (k * N + j) u = (l.set k x').flatMap f := by
  have hk : (l.take k).length = k := by obtain ⟨hk, -⟩ := List.getElem?_eq_some_iff.1 h; rw [List.length_take]; omega
  have h1 := flat_set f N hf (l.take k) (l.drop (k + 1)) x x' j u hj hx
  rw [hk, ← split_at h] at h1
  rw [h1]
  congr 1
  conv => rhs; rw [split_at h]
  rw [List.set_append_right _ _ (by rw [hk]; exact Nat.le_refl _), hk, Nat.sub_self, List.set_cons_zero]
theorem rows_at {α : Type} (f : α → List Value) (N : Nat) (hf : ∀ x, (f x).length = N) {l : List α} {k : Nat} {x : α} (h : l[k]? = some x) (j : Nat) (hj : j < N) : (l.flatMap f)[k * N + j]? = (f x)[j]? := by
  have hk : (l.take k).length = k := by obtain ⟨hk, -⟩ := List.getElem?_eq_some_iff.1 h; rw [List.length_take]; omega
  have := flat_at f N hf (l.take k) (l.drop (k + 1)) x j hj
  rw [hk, ← split_at h] at this
  exact this
/-- Whether a fixup uses a symbol. -/
def usesF (j : Int) (f : FixD) : Bool := decide (f.2.2.1 = j)
def usesS (j : Int) (s : SecD) : Bool := s.fix.any (usesF j)
def usedB (secs : List SecD) (j : Int) : Bool := secs.any (usesS j)
/-- A fixup whose symbol is numbered anew. -/
def fixTo (K : List Bool) (f : FixD) : FixD := (f.1, f.2.1, ((keptN K f.2.2.1.toNat : Nat) : Int), f.2.2.2)
def secTo (K : List Bool) (s : SecD) : SecD := ⟨s.name, s.kind, s.align, s.bytes, s.size, s.fix.map (fixTo K)⟩
/-- An object with some of its symbols. -/
def keepO (o : ObjD) (K : List Bool) : ObjD := ⟨o.secs.map (secTo K), keepL K o.syms⟩
def maskL (p : Nat → SymD → Bool) (l : List SymD) : List Bool := l.mapIdx p
theorem maskL_length (p : Nat → SymD → Bool) (l : List SymD) : (maskL p l).length = l.length := by simp [maskL]
theorem maskL_get (p : Nat → SymD → Bool) (l : List SymD) (k : Nat) (hk : k < l.length) (hK : k < (maskL p l).length) : (maskL p l)[k] = p k l[k] := by simp [maskL]
def localK (secs : List SecD) (j : Nat) (s : SymD) : Bool := decide (s.bind ≠ 0) || usedB secs j
def wantK (secs : List SecD) (j : Nat) (s : SymD) : Bool := decide (s.whr ≠ -1) || usedB secs j
def stripO (q : List SecD → Nat → SymD → Bool) (o : ObjD) : ObjD := if objB o = true then keepO o (maskL (q o.secs) o.syms) else ⟨[], []⟩
theorem secTo_step (K : List Bool) (s : SecD) : secStep (secTo K s) = secStep s := by simp [secStep, secTo]
theorem secSteps_map (K : List Bool) : ∀ l : List SecD, secSteps (l.map (secTo K)) = secSteps l
  | [] => rfl
  | s :: r => by simp [secSteps, secTo_step, secSteps_map K r]
theorem keepO_steps (o : ObjD) (K : List Bool) : objSteps (keepO o K) ≤ objSteps o := by
  unfold objSteps keepO
  have := (keepL_sub K o.syms).length_le
  rw [secSteps_map]
  simp only
  omega
theorem keepO_few {o : ObjD} (K : List Bool) (h : FewObj o) : FewObj (keepO o K) := by
  obtain ⟨h1, h2, h3⟩ := h
  refine ⟨by simpa [keepO] using h1, Nat.le_trans (keepL_sub K o.syms).length_le h2, fun s hs => ?_⟩
  obtain ⟨x, hx, rfl⟩ := List.mem_map.1 hs
  simpa [secTo] using h3 x hx
theorem stripO_steps (q : List SecD → Nat → SymD → Bool) (o : ObjD) : objSteps (stripO q o) ≤ objSteps o := by
  unfold stripO
  split
  · exact keepO_steps _ _
  · simp [objSteps, secSteps]
theorem stripO_few (q : List SecD → Nat → SymD → Bool) {o : ObjD} (h : FewObj o) : FewObj (stripO q o) := by
  unfold stripO
  split
  · exact keepO_few _ h
  · exact ⟨Nat.zero_le _, Nat.zero_le _, fun s hs => by cases hs⟩
/-- Whether a number is in a list. -/
def inI (list : List Int) (n : Int) : Bool := list.any fun m => decide (m = n)
theorem inI_mem (list : List Int) (n : Int) : inI list n = true ↔ n ∈ list := by
  unfold inI; simp [List.any_eq_true]
def secK (list : List Int) (n : Nat) : List Bool := (List.range n).map fun i => inI list ((i : Nat) : Int)
theorem secK_length (list : List Int) (n : Nat) : (secK list n).length = n := by simp [secK]
theorem secK_get (list : List Int) (n k : Nat) (hk : k < n) (hK : k < (secK list n).length) : (secK list n)[k] = inI list k := by simp [secK]
theorem secK_get? (list : List Int) (n k : Nat) (hk : k < n) : (secK list n)[k]? = some (inI list k) := by
  rw [List.getElem?_eq_getElem (by rw [secK_length]; exact hk), secK_get list n k hk]
def keptS (list : List Int) (s : SymD) : Bool := decide (s.whr < 0) || inI list s.whr
def symK (o : ObjD) (list : List Int) : List Bool := o.syms.map (keptS list)
theorem symK_length (o : ObjD) (list : List Int) : (symK o list).length = o.syms.length := by simp [symK]
def fixGood (K : List Bool) (f : FixD) : Bool := K.getD f.2.2.1.toNat false
def secGood (K : List Bool) (s : SecD) : Bool := s.fix.all (fixGood K)
def goodB (o : ObjD) (list : List Int) : Bool := (keepL (secK list o.secs.length) o.secs).all (secGood (symK o list))
def whrTo (K : List Bool) (s : SymD) : SymD := if 0 ≤ s.whr then ⟨s.name, s.bind, ((keptN K s.whr.toNat : Nat) : Int), s.val⟩ else s
def keepSec (o : ObjD) (list : List Int) : ObjD := ⟨keepL (secK list o.secs.length) (o.secs.map (secTo (symK o list))), (keepL (symK o list) o.syms).map (whrTo (secK list o.secs.length))⟩
def keepSB (o : ObjD) (list : List Int) : Bool := objB o && goodB o list
def keepSO (o : ObjD) (list : List Int) : ObjD := if keepSB o list = true then keepSec o list else ⟨[], []⟩
/-- That no two that are not local have the same name. -/
def onceP (l : List SymD) : Prop := l.Pairwise fun a b => ¬ (globB b = true ∧ globB a = true ∧ a.name = b.name)
theorem onceP_iff (l : List SymD) : (∀ (i : Nat) (h : i < l.length), dupB (l.take i) l[i] = false) ↔ onceP l := by
  unfold onceP
  rw [List.pairwise_iff_getElem]
  constructor
  · intro h i j hi hj hij ⟨h1, h2, h3⟩
    have := h j hj
    unfold dupB at this
    rw [h1, Bool.true_and, List.any_eq_false] at this
    exact this l[i] (by rw [List.mem_take_iff_getElem]; exact ⟨i, by omega, rfl⟩) (by simp [h2, h3])
  · intro h j hj
    unfold dupB
    rw [Bool.and_eq_false_iff]
    by_cases hg : globB l[j] = true
    · right
      rw [List.any_eq_false]
      intro x hx
      obtain ⟨i, hi, rfl⟩ := List.mem_take_iff_getElem.1 hx
      intro hb
      simp only [Bool.and_eq_true, decide_eq_true_eq] at hb
      exact h i j (by omega) hj (by omega) ⟨hg, hb.1, hb.2⟩
    · left; simpa using hg
theorem sectionSize_to (K : List Bool) (s : SecD) : sectionSize (secTo K s) = sectionSize s := rfl
theorem fixesB_to (K : List Bool) (syms : List SymD) (hK : K.length = syms.length) (bl : Int) : ∀ (fin : Int) (l : List FixD), l.all (fixGood K) = true → fixesB syms.length bl fin l = true → fixesB (keepL K syms).length bl fin (l.map (fixTo K)) = true
  | _, [], _, _ => rfl
  | fin, f :: r, hg, h => by
    simp only [List.all_cons, Bool.and_eq_true] at hg
    simp only [fixesB, Bool.and_eq_true] at h
    have ih := fixesB_to K syms hK bl (f.1 + fixupWide f.2.1) r hg.2 h.2
    simp only [List.map_cons, fixesB, Bool.and_eq_true]
    refine ⟨?_, ih⟩
    have h1 := h.1
    unfold fixB at h1 ⊢
    simp only [Bool.and_eq_true, decide_eq_true_eq] at h1
    obtain ⟨⟨⟨⟨a, b⟩, c⟩, d⟩, e⟩ := h1
    have hlt : f.2.2.1.toNat < K.length := by omega
    have hk : K[f.2.2.1.toNat]? = some true := by
      have := hg.1
      unfold fixGood at this
      rw [List.getD_eq_getElem?_getD, List.getElem?_eq_getElem hlt] at this
      rw [List.getElem?_eq_getElem hlt]
      simpa using this
    have := keptN_lt K syms _ _ hk (List.getElem?_eq_getElem (by omega))
    simp only [Bool.and_eq_true, decide_eq_true_eq]
    exact ⟨⟨⟨⟨a, show (0 : Int) ≤ ((keptN K f.2.2.1.toNat : Nat) : Int) by omega⟩, show ((keptN K f.2.2.1.toNat : Nat) : Int) < ((keepL K syms).length : Int) by omega⟩, d⟩, e⟩
theorem secB_to (K : List Bool) (syms : List SymD) (hK : K.length = syms.length) (s : SecD) (hg : secGood K s = true) (h : secB s syms.length = true) : secB (secTo K s) (keepL K syms).length = true := by
  unfold secB at h ⊢
  simp only [Bool.and_eq_true] at h ⊢
  obtain ⟨h1, h2⟩ := h
  refine ⟨h1, ?_⟩
  by_cases hk : s.kind = 3
  · rw [if_pos hk] at h2
    rw [if_pos (show (secTo K s).kind = 3 from hk)]
    simpa [secTo] using h2
  · rw [if_neg hk] at h2
    rw [if_neg (show ¬ (secTo K s).kind = 3 from hk)]
    simp only [Bool.and_eq_true] at h2 ⊢
    exact ⟨⟨h2.1.1, by simpa [secTo] using h2.1.2⟩, fixesB_to K syms hK _ _ _ hg h2.2⟩
theorem keepSec_valid {o : ObjD} {list : List Int} (ho : objB o = true) (hg : goodB o list = true) : objB (keepSec o list) = true := by
  have hok := (objB_iff o).1 ho
  have hKY := symK_length o list
  have hKS := secK_length list o.secs.length
  refine (objB_iff _).2 ⟨?_, ?_, ?_, ?_, ?_⟩
  · have := (keepL_sub (secK list o.secs.length) (o.secs.map (secTo (symK o list)))).length_le
    rw [List.length_map] at this
    exact Nat.le_trans this hok.few
  · have := (keepL_sub (symK o list) o.syms).length_le
    show ((keepL (symK o list) o.syms).map _).length ≤ 12
    rw [List.length_map]
    exact Nat.le_trans this hok.few2
  · intro s hs
    have hs' : s ∈ keepL (secK list o.secs.length) (o.secs.map (secTo (symK o list))) := hs
    rw [← keepL_map] at hs'
    obtain ⟨x, hx, rfl⟩ := List.mem_map.1 hs'
    have h1 := List.all_eq_true.1 hg x hx
    have h2 := hok.secs x ((keepL_sub _ _).subset hx)
    have h3 := secB_to (symK o list) o.syms hKY x h1 h2
    have h4 : (keepSec o list).syms.length = (keepL (symK o list) o.syms).length := by simp [keepSec]
    rw [h4]
    exact h3
  · intro s hs
    obtain ⟨x, hx, rfl⟩ := List.mem_map.1 (show s ∈ (keepL (symK o list) o.syms).map _ from hs)
    obtain ⟨k, hk1, hk2⟩ := keepL_mem hx
    have hx2 := (keepL_sub _ _).subset hx
    have h1 := hok.syms x hx2
    have h2 := objB_sym ho hx2
    have hkept : keptS list x = true := by
      unfold symK at hk2
      rw [List.getElem?_map, hk1] at hk2
      simpa using hk2
    unfold whrTo
    by_cases hw : 0 ≤ x.whr
    · rw [if_pos hw]
      have hin : inI list x.whr = true := by
        unfold keptS at hkept
        simp only [Bool.or_eq_true, decide_eq_true_eq] at hkept
        rcases hkept with h | h
        · omega
        · exact h
      have hlt : x.whr.toNat < o.secs.length := by have := h2.whr; omega
      have hKt : (secK list o.secs.length)[x.whr.toNat]? = some true := by
        rw [secK_get? _ _ _ hlt, show ((x.whr.toNat : Nat) : Int) = x.whr by omega, hin]
      have hget := keepL_get (secK list o.secs.length) (o.secs.map (secTo (symK o list))) _ hKt
      rw [List.getElem?_map, List.getElem?_eq_getElem hlt] at hget
      unfold symB at h1 ⊢
      simp only [Bool.and_eq_true] at h1 ⊢
      obtain ⟨h3, h4⟩ := h1
      refine ⟨h3, ?_⟩
      rw [if_neg (by omega), if_neg (by omega), List.getElem?_eq_getElem hlt] at h4
      rw [if_neg (show ¬ ((keptN (secK list o.secs.length) x.whr.toNat : Nat) : Int) = -1 by omega), if_neg (show ¬ ((keptN (secK list o.secs.length) x.whr.toNat : Nat) : Int) = -2 by omega)]
      have e : (keepSec o list).secs[((keptN (secK list o.secs.length) x.whr.toNat : Nat) : Int).toNat]? = some (secTo (symK o list) o.secs[x.whr.toNat]) := by
        rw [Int.toNat_natCast]; exact hget
      simp only [e]
      simp only [Bool.and_eq_true, decide_eq_true_eq] at h4 ⊢
      exact ⟨by omega, by rw [sectionSize_to]; exact h4.2⟩
    · rw [if_neg hw]
      unfold symB at h1 ⊢
      simp only [Bool.and_eq_true] at h1 ⊢
      refine ⟨h1.1, ?_⟩
      have h4 := h1.2
      by_cases k1 : x.whr = -1
      · rw [if_pos k1] at h4 ⊢; exact h4
      rw [if_neg k1] at h4 ⊢
      have := h2.whr
      rw [if_pos (by omega)] at h4 ⊢
      exact h4
  · refine (onceP_iff _).2 ?_
    have h1 := (onceP_iff _).1 hok.once
    have h2 : onceP (keepL (symK o list) o.syms) := List.Pairwise.sublist (keepL_sub _ _) h1
    show onceP ((keepL (symK o list) o.syms).map _)
    unfold onceP at h2 ⊢
    rw [List.pairwise_map]
    refine h2.imp fun {a b} h => ?_
    have e1 : ∀ x, (whrTo (secK list o.secs.length) x).name = x.name := fun x => by unfold whrTo; split <;> rfl
    have e2 : ∀ x, globB (whrTo (secK list o.secs.length) x) = globB x := fun x => by unfold whrTo; split <;> rfl
    rw [e1, e1, e2, e2]
    exact h
theorem fixTo_all (n : Nat) (f : FixD) (h0 : 0 ≤ f.2.2.1) (h : f.2.2.1 < n) : fixTo (List.replicate n true) f = f := by
  obtain ⟨a, b, c, d⟩ := f
  unfold fixTo
  simp only at h0 h ⊢
  rw [keptN_all n _ (by omega), Int.toNat_of_nonneg h0]
theorem secTo_all {s : SecD} {n : Nat} (h : secB s n = true) : secTo (List.replicate n true) s = s := by
  have h1 := secB_ok h
  obtain ⟨a, b, c, d, e, f⟩ := s
  unfold secTo
  simp only [SecD.mk.injEq, true_and]
  conv => rhs; rw [← List.map_id f]
  exact List.map_congr_left fun x hx => fixTo_all n x (h1.fix x hx).to.1 (h1.fix x hx).to.2
def allI (n : Nat) : List Int := (List.range n).map fun i => ((i : Nat) : Int)
theorem inI_all (n k : Nat) (hk : k < n) : inI (allI n) k = true := by
  rw [inI_mem]; unfold allI; simp; exact ⟨k, hk, rfl⟩
/-- With all sections nothing changes. -/
theorem keep_all {o : ObjD} (ho : objB o = true) : keepSB o (allI o.secs.length) = true ∧ keepSO o (allI o.secs.length) = o := by
  have hok := (objB_iff o).1 ho
  have hS : secK (allI o.secs.length) o.secs.length = List.replicate o.secs.length true := by
    refine List.ext_getElem (by simp [secK]) fun i h1 h2 => ?_
    rw [secK_get _ _ _ (by simpa [secK] using h1), List.getElem_replicate]
    exact inI_all _ _ (by simpa [secK] using h1)
  have hY : symK o (allI o.secs.length) = List.replicate o.syms.length true := by
    refine List.ext_getElem (by simp [symK]) fun i h1 h2 => ?_
    have hi : i < o.syms.length := by simpa [symK] using h1
    have hw := (objB_sym ho (List.getElem_mem hi)).whr
    simp only [symK, List.getElem_map, List.getElem_replicate, keptS, Bool.or_eq_true, decide_eq_true_eq]
    by_cases h : o.syms[i].whr < 0
    · exact .inl h
    · right
      have := inI_all o.secs.length o.syms[i].whr.toNat (by omega)
      rwa [Int.toNat_of_nonneg (by omega)] at this
  have hg : keepSB o (allI o.secs.length) = true := by
    unfold keepSB goodB
    rw [ho, Bool.true_and, hS, hY, keepL_all, List.all_eq_true]
    intro s hs
    unfold secGood
    rw [List.all_eq_true]
    intro f hf
    have := ((objB_sec ho hs).fix f hf).to
    unfold fixGood
    rw [List.getD_eq_getElem?_getD, List.getElem?_replicate, if_pos (by omega)]
    rfl
  refine ⟨hg, ?_⟩
  unfold keepSO
  rw [if_pos hg]
  unfold keepSec
  rw [hS, hY, keepL_all]
  have e1 : o.secs.map (secTo (List.replicate o.syms.length true)) = o.secs := by
    conv => rhs; rw [← List.map_id o.secs]
    exact List.map_congr_left fun x hx => secTo_all (hok.secs x hx)
  have e2 : o.syms.map (whrTo (List.replicate o.secs.length true)) = o.syms := by
    conv => rhs; rw [← List.map_id o.syms]
    refine List.map_congr_left fun x hx => ?_
    have hw := (objB_sym ho hx).whr
    show whrTo _ x = x
    obtain ⟨a, b, c, d⟩ := x
    unfold whrTo
    simp only at hw ⊢
    split
    · rw [keptN_all _ _ (by omega), Int.toNat_of_nonneg (by omega)]
    · rfl
  rw [e1, e2]
  have := keepL_all o.secs
  rw [this]
theorem keepSO_few {o : ObjD} (list : List Int) (h : FewObj o) : FewObj (keepSO o list) := by
  obtain ⟨h1, h2, h3⟩ := h
  unfold keepSO
  split
  · refine ⟨?_, ?_, fun s hs => ?_⟩
    · have := (keepL_sub (secK list o.secs.length) (o.secs.map (secTo (symK o list)))).length_le
      rw [List.length_map] at this
      exact Nat.le_trans this h1
    · show ((keepL (symK o list) o.syms).map _).length ≤ _
      rw [List.length_map]
      exact Nat.le_trans (keepL_sub _ _).length_le h2
    · have hs' : s ∈ keepL (secK list o.secs.length) (o.secs.map (secTo (symK o list))) := hs
      obtain ⟨x, hx, rfl⟩ := List.mem_map.1 ((keepL_sub _ _).subset hs')
      simpa [secTo] using h3 x hx
  · exact ⟨Nat.zero_le _, Nat.zero_le _, fun s hs => by cases hs⟩
theorem secSteps_sub : ∀ {a b : List SecD}, a.Sublist b → secSteps a ≤ secSteps b
  | _, _, .slnil => Nat.le_refl _
  | _, _, .cons x h => by have := secSteps_sub h; simp only [secSteps]; omega
  | _, _, .cons_cons x h => by have := secSteps_sub h; simp only [secSteps]; omega
theorem keepSO_steps (o : ObjD) (list : List Int) : objSteps (keepSO o list) ≤ objSteps o := by
  unfold keepSO
  split
  · have h1 := secSteps_sub (keepL_sub (secK list o.secs.length) (o.secs.map (secTo (symK o list))))
    rw [secSteps_map] at h1
    have h2 := (keepL_sub (symK o list) o.syms).length_le
    simp only [objSteps, keepSec, List.length_map]
    omega
  · simp [objSteps, secSteps]
end Go.Proofs.Ytkefbhidfbnipaa
