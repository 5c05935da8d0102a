/- Objects written; with no program in sight. Objects read; with no program in sight. Objects read, as the reference does; with no program in sight. -/
import Derived.Test.YtkefbhidfbnipaaPlainR
import Derived.Test.YtkefbhidfbnipaaPlainTab
import Derived.Test.YtkefbhidfbnipaaBytes
import Derived.Test.YtkefbhidfbnipaaDrawT
import Derived.Test.YtkefbhidfbnipaaNames
import Derived.Test.YtkefbhidfbnipaaGetHeadA
namespace Go.Proofs.Ytkefbhidfbnipaa
/-! PlainP -/
open Go.RowKit
set_option linter.unusedSimpArgs false
set_option linter.unusedVariables false
def u8of (n : Int) : UInt8 := UInt8.ofNat n.toNat
def secHead (T : List UInt8) (x : SecD) : List UInt8 := putNum (placeOf T (bytesS x.name)) 2 ++ [u8of x.kind, u8of x.align, u8of (sectionSize x), u8of (x.fix.length : Int)]
def symHead (T : List UInt8) (x : SymD) : List UInt8 := putNum (placeOf T (bytesS x.name)) 2 ++ [u8of x.bind, u8of (x.whr + 2)] ++ putNum x.val 2
def fixHead (y : FixD) : List UInt8 := [u8of y.1, u8of y.2.1, u8of y.2.2.1] ++ putNum (y.2.2.2 + 1000) 2
def fixesHead (x : SecD) : List UInt8 := x.fix.flatMap fixHead
def headO (o : ObjD) : List UInt8 := putHead (o.secs.length : Int) (o.syms.length : Int) (fixN o.secs : Int) ((tableL (allNames o)).length : Int)
/-- What is written behind k sections. -/
def wr1 (o : ObjD) (k : Nat) : List UInt8 := headO o ++ (o.secs.take k).flatMap (secHead (tableL (allNames o)))
def wr2 (o : ObjD) (k : Nat) : List UInt8 := wr1 o o.secs.length ++ (o.syms.take k).flatMap (symHead (tableL (allNames o)))
def wr3 (o : ObjD) (k : Nat) : List UInt8 := wr2 o o.syms.length ++ (o.secs.take k).flatMap fixesHead
def wr4 (o : ObjD) (k : Nat) : List UInt8 := wr3 o o.secs.length ++ tableL (allNames o) ++ (o.secs.take k).flatMap (·.bytes)
/-- The bytes of an object. -/
def writeL (o : ObjD) : List UInt8 := if objB o = true then wr4 o o.secs.length else []
theorem flat_step {α β : Type} (f : α → List β) (l : List α) (k : Nat) (hk : k < l.length) : (l.take (k + 1)).flatMap f = (l.take k).flatMap f ++ f l[k] := by
  rw [List.take_succ_eq_append_getElem hk, List.flatMap_append]
  simp
theorem wr1_zero (o : ObjD) : wr1 o 0 = headO o := by simp [wr1]
theorem wr2_zero (o : ObjD) : wr2 o 0 = wr1 o o.secs.length := by simp [wr2]
theorem wr3_zero (o : ObjD) : wr3 o 0 = wr2 o o.syms.length := by simp [wr3]
theorem wr4_zero (o : ObjD) : wr4 o 0 = wr3 o o.secs.length ++ tableL (allNames o) := by simp [wr4]
theorem wr1_step (o : ObjD) (k : Nat) (hk : k < o.secs.length) : wr1 o (k + 1) = wr1 o k ++ putNum (placeOf (tableL (allNames o)) (bytesS o.secs[k].name)) 2 ++ [u8of o.secs[k].kind, u8of o.secs[k].align, u8of (sectionSize o.secs[k]), u8of (o.secs[k].fix.length : Int)] := by
  unfold wr1
  rw [flat_step _ _ k hk]
  simp only [secHead, List.append_assoc]
theorem wr2_step (o : ObjD) (k : Nat) (hk : k < o.syms.length) : wr2 o (k + 1) = wr2 o k ++ putNum (placeOf (tableL (allNames o)) (bytesS o.syms[k].name)) 2 ++ [u8of o.syms[k].bind, u8of (o.syms[k].whr + 2)] ++ putNum o.syms[k].val 2 := by
  unfold wr2
  rw [flat_step _ _ k hk]
  simp only [symHead, List.append_assoc]
/-- Behind k sections and j fixups of the next. -/
def wr3j (o : ObjD) (k : Nat) (l : List FixD) (j : Nat) : List UInt8 := wr3 o k ++ (l.take j).flatMap fixHead
theorem wr3j_zero (o : ObjD) (k : Nat) (l : List FixD) : wr3j o k l 0 = wr3 o k := by simp [wr3j]
theorem wr3j_step (o : ObjD) (k : Nat) (l : List FixD) (j : Nat) (hj : j < l.length) : wr3j o k l (j + 1) = wr3j o k l j ++ [u8of l[j].1, u8of l[j].2.1, u8of l[j].2.2.1] ++ putNum (l[j].2.2.2 + 1000) 2 := by
  unfold wr3j
  rw [flat_step _ _ j hj]
  simp only [fixHead, List.append_assoc]
theorem wr3_step (o : ObjD) (k : Nat) (hk : k < o.secs.length) : wr3 o (k + 1) = wr3j o k o.secs[k].fix o.secs[k].fix.length := by
  unfold wr3j wr3
  rw [flat_step _ _ k hk, List.take_length]
  simp only [fixesHead, List.append_assoc]
theorem wr4_step (o : ObjD) (k : Nat) (hk : k < o.secs.length) : wr4 o (k + 1) = wr4 o k ++ o.secs[k].bytes := by
  unfold wr4
  rw [flat_step _ _ k hk]
  simp only [List.append_assoc]
theorem flat_le {α β : Type} {f : α → List β} {m : Nat} : ∀ {l : List α}, (∀ s ∈ l, (f s).length ≤ m) → (l.flatMap f).length ≤ m * l.length
  | [], _ => by simp
  | s :: r, h => by
    have h1 := h s (List.mem_cons_self ..)
    have h2 := flat_le (l := r) fun x hx => h x (List.mem_cons_of_mem _ hx)
    rw [List.flatMap_cons, List.length_append, List.length_cons, Nat.mul_add]; omega
theorem secHead_le (T : List UInt8) (x : SecD) : (secHead T x).length ≤ 8 := by
  unfold secHead
  have := putNum_length (placeOf T (bytesS x.name)) 2
  rw [List.length_append]; simp only [List.length_cons, List.length_nil]; omega
theorem symHead_le (T : List UInt8) (x : SymD) : (symHead T x).length ≤ 10 := by
  unfold symHead
  have := putNum_length (placeOf T (bytesS x.name)) 2
  have := putNum_length x.val 2
  rw [List.length_append, List.length_append]; simp only [List.length_cons, List.length_nil]; omega
theorem fixHead_le (y : FixD) : (fixHead y).length ≤ 7 := by
  unfold fixHead
  have := putNum_length (y.2.2.2 + 1000) 2
  rw [List.length_append]; simp only [List.length_cons, List.length_nil]; omega
theorem wr1_len {o : ObjD} (h : objB o = true) (k : Nat) : (wr1 o k).length ≤ 74 := by
  have hf := (objB_few h).1
  have h1 := flat_le (m := 8) (l := o.secs.take k) (f := secHead (tableL (allNames o))) fun s _ => secHead_le _ s
  have h2 := putHead_length (o.secs.length : Int) (o.syms.length : Int) (fixN o.secs : Int) ((tableL (allNames o)).length : Int)
  rw [List.length_take] at h1
  unfold wr1 headO
  rw [List.length_append]; omega
theorem wr2_len {o : ObjD} (h : objB o = true) (k : Nat) : (wr2 o k).length ≤ 194 := by
  have hf := (objB_few h).2
  have h1 := flat_le (m := 10) (l := o.syms.take k) (f := symHead (tableL (allNames o))) fun s _ => symHead_le _ s
  have h2 := wr1_len h o.secs.length
  rw [List.length_take] at h1
  unfold wr2
  rw [List.length_append]; omega
theorem wr3_len {o : ObjD} (h : objB o = true) (k : Nat) : (wr3 o k).length ≤ 530 := by
  have hf := (objB_few h).1
  have h1 := flat_le (m := 42) (l := o.secs.take k) (f := fixesHead) fun s hs => by
    have h3 := flat_le (m := 7) (l := s.fix) (f := fixHead) fun y _ => fixHead_le y
    have h4 := (objB_sec h (List.mem_of_mem_take hs)).fixl
    unfold fixesHead
    omega
  have h2 := wr2_len h o.syms.length
  rw [List.length_take] at h1
  unfold wr3
  rw [List.length_append]; omega
theorem wr3j_len {o : ObjD} (h : objB o = true) (k : Nat) (l : List FixD) (hl : l.length ≤ 6) (j : Nat) : (wr3j o k l j).length ≤ 572 := by
  have h1 := flat_le (m := 7) (l := l.take j) (f := fixHead) fun y _ => fixHead_le y
  have h2 := wr3_len h k
  rw [List.length_take] at h1
  unfold wr3j
  rw [List.length_append]; omega
theorem wr4_len {o : ObjD} (h : objB o = true) (k : Nat) : (wr4 o k).length ≤ 1275 := by
  have hf := (objB_few h).1
  have h1 := flat_le (m := 48) (l := o.secs.take k) (f := fun s => s.bytes) fun s hs => (objB_sec h (List.mem_of_mem_take hs)).bytes
  have h2 := wr3_len h o.secs.length
  have h3 := tableL_length (allNames o)
  rw [List.length_take] at h1
  unfold wr4
  rw [List.length_append, List.length_append]; omega
theorem writeL_le (o : ObjD) : (writeL o).length ≤ 1275 := by
  unfold writeL
  split
  · rename_i h; exact wr4_len h _
  · simp
/-- Names of valid objects are names. -/
theorem objB_names {o : ObjD} (h : objB o = true) : namesB (allNames o) = true := by
  unfold namesB
  have hf := objB_few h
  rw [Bool.and_eq_true, decide_eq_true_eq, List.all_eq_true, allNames_length]
  refine ⟨by omega, fun x hx => ?_⟩
  unfold allNames at hx
  rcases List.mem_append.1 hx with hx | hx
  · obtain ⟨s, hs, rfl⟩ := List.mem_map.1 hx; exact (objB_sec h hs).name
  · obtain ⟨s, hs, rfl⟩ := List.mem_map.1 hx; exact (objB_sym h hs).name
theorem putNum_two {n : Int} (h0 : 0 ≤ n) (h1 : n < 65536) : (putNum n 2).length = 2 := by
  have hn : numB n 2 = true := by
    unfold numB
    rw [Bool.and_eq_true]
    exact ⟨(withinB_iff _ _ _).2 ⟨by decide, by decide⟩, (withinB_iff _ _ _).2 ⟨h0, by show n ≤ 65536 - 1; omega⟩⟩
  have := (getNum_putNum hn).1
  omega
theorem place_two {o : ObjD} (h : objB o = true) {s : ByteArray} (hs : s ∈ allNames o) : (putNum (placeOf (tableL (allNames o)) (bytesS s)) 2).length = 2 := by
  have h1 := (tableL_has (objB_names h) hs).2
  have h2 := (placeOf_range (tableL (allNames o)) (bytesS s)).2
  have h3 := tableL_length (allNames o)
  exact putNum_two h1 (by omega)
theorem flat_eq {α β : Type} {f : α → List β} {m : Nat} : ∀ {l : List α}, (∀ s ∈ l, (f s).length = m) → (l.flatMap f).length = m * l.length
  | [], _ => by simp
  | s :: r, h => by
    have h1 := h s (List.mem_cons_self ..)
    have h2 := flat_eq (l := r) fun x hx => h x (List.mem_cons_of_mem _ hx)
    rw [List.flatMap_cons, List.length_append, List.length_cons, Nat.mul_add]; omega
theorem flat_fix {m : Nat} : ∀ {l : List SecD}, (∀ s ∈ l, ∀ y ∈ s.fix, (fixHead y).length = 5) → (l.flatMap fixesHead).length = 5 * fixN l
  | [], _ => by simp [fixN]
  | s :: r, h => by
    have h1 := flat_eq (m := 5) (l := s.fix) (f := fixHead) fun y hy => h s (List.mem_cons_self ..) y hy
    have h2 := flat_fix (m := m) (l := r) fun x hx => h x (List.mem_cons_of_mem _ hx)
    have e : fixesHead s = s.fix.flatMap fixHead := rfl
    rw [List.flatMap_cons, List.length_append, e]
    simp only [fixN]; omega
theorem flat_byt : ∀ {l : List SecD}, (l.flatMap (·.bytes)).length = bytN l
  | [] => by simp [bytN]
  | s :: r => by
    have h2 := flat_byt (l := r)
    rw [List.flatMap_cons, List.length_append]
    simp only [bytN]; omega
/-- How many bytes the bytes of an object are. -/
theorem writeL_len {o : ObjD} (h : objB o = true) : (writeL o).length = 10 + 6 * o.secs.length + 6 * o.syms.length + 5 * fixN o.secs + (tableL (allNames o)).length + bytN o.secs := by
  have hf := objB_few h
  have hx := objB_fixN h o.secs.length
  rw [List.take_length] at hx
  have ht := tableL_length (allNames o)
  have ht1 : 1 ≤ (tableL (allNames o)).length := by rw [tableL_names (objB_names h)]; unfold tabOf; rw [List.length_cons]; omega
  have h1 : (headO o).length = 10 := by
    unfold headO putHead
    have hb : headerB (o.secs.length : Int) (o.syms.length : Int) (fixN o.secs : Int) ((tableL (allNames o)).length : Int) = true := by
      unfold headerB
      simp only [Bool.and_eq_true, withinB_iff]
      omega
    rw [if_pos hb]
    simp [leBytes_length]
  have h2 := flat_eq (m := 6) (l := o.secs) (f := secHead (tableL (allNames o))) fun s hs => by
    unfold secHead
    rw [List.length_append, place_two h (List.mem_append_left _ (List.mem_map.2 ⟨s, hs, rfl⟩))]
    rfl
  have h3 := flat_eq (m := 6) (l := o.syms) (f := symHead (tableL (allNames o))) fun s hs => by
    unfold symHead
    have hv := (objB_sym h hs).val
    rw [List.length_append, List.length_append, place_two h (List.mem_append_right _ (List.mem_map.2 ⟨s, hs, rfl⟩)), putNum_two hv.1 (by omega)]
    rfl
  have h4 := flat_fix (m := 0) (l := o.secs) fun s hs y hy => by
    unfold fixHead
    have hv := ((objB_sec h hs).fix y hy).add
    rw [List.length_append, putNum_two (by omega) (by omega)]
    rfl
  have h5 := flat_byt (l := o.secs)
  unfold writeL
  rw [if_pos h]
  unfold wr4 wr3 wr2 wr1
  simp only [List.take_length, List.length_append]
  omega
/-! PlainQ -/
open Go.RowKit
set_option linter.unusedSimpArgs false
set_option linter.unusedVariables false
/-- The bytes that are left, and whether there were too few once. -/
structure RdL where
  left : List UInt8
  bad : Bool
def takeR (n : Nat) (s : RdL) : List UInt8 × RdL := if n ≤ s.left.length then (s.left.take n, ⟨s.left.drop n, s.bad⟩) else (List.replicate n 0, ⟨s.left, true⟩)
def numR (n : Nat) (s : RdL) : Int × RdL := (leNum (takeR n s).1, (takeR n s).2)
theorem takeR_length (n : Nat) (s : RdL) : (takeR n s).1.length = n := by
  unfold takeR
  split
  · rename_i h; simp; omega
  · simp
theorem takeR_left (n : Nat) (s : RdL) : (takeR n s).2.left.length ≤ s.left.length := by
  unfold takeR
  split
  · simp
  · simp
theorem takeR_app (a r : List UInt8) (b : Bool) (n : Nat) (h : a.length = n) : takeR n ⟨a ++ r, b⟩ = (a, ⟨r, b⟩) := by
  subst h
  unfold takeR
  rw [if_pos (by simp)]
  simp
theorem numR_byte {n : Int} (h0 : 0 ≤ n) (h1 : n < 256) (r : List UInt8) (b : Bool) : numR 1 ⟨u8of n :: r, b⟩ = (n, ⟨r, b⟩) := by
  have := takeR_app [u8of n] r b 1 rfl
  unfold numR
  rw [List.singleton_append] at this
  rw [this]
  have e : leNum [u8of n] = n := by
    have h := leNum_leBytes 1 n.toNat (by omega)
    have e : leBytes 1 n.toNat = [u8of n] := by
      show [UInt8.ofNat (n.toNat % 256)] = [UInt8.ofNat n.toNat]
      rw [Nat.mod_eq_of_lt (by omega)]
    rw [e] at h
    rw [h]; omega
  rw [e]
theorem putNum_eq2 {n : Int} (h0 : 0 ≤ n) (h1 : n < 65536) : leNum (putNum n 2) = n ∧ (putNum n 2).length = 2 := by
  refine ⟨?_, putNum_two h0 h1⟩
  have hn : numB n 2 = true := by
    unfold numB
    rw [Bool.and_eq_true]
    exact ⟨(withinB_iff _ _ _).2 ⟨by decide, by decide⟩, (withinB_iff _ _ _).2 ⟨h0, by show n ≤ 65536 - 1; omega⟩⟩
  have h := getNum_putNum hn
  have h2 := getNum_of (l := putNum n 2) (a := 0) (wide := 2) ((withinB_iff _ _ _).2 ⟨by decide, by decide⟩) ((withinB_iff _ _ _).2 ⟨by decide, by omega⟩)
  rw [h.2] at h2
  have hl : (putNum n 2).length = 2 := by omega
  rw [show (0 : Int).toNat = 0 from rfl, List.drop_zero, show (2 : Int).toNat = 2 from rfl, List.take_of_length_le (by omega)] at h2
  exact h2.symm
theorem numR_two {n : Int} (h0 : 0 ≤ n) (h1 : n < 65536) (r : List UInt8) (b : Bool) : numR 2 ⟨putNum n 2 ++ r, b⟩ = (n, ⟨r, b⟩) := by
  have h := putNum_eq2 h0 h1
  unfold numR
  rw [takeR_app _ _ _ _ h.2, h.1]
/-- What stands ahead for a section, for a symbol. -/
structure SecH where
  place : Int
  kind : Int
  align : Int
  size : Int
  many : Int
def secR (s : RdL) : SecH × RdL :=
  let a := numR 2 s
  let b := numR 1 a.2
  let c := numR 1 b.2
  let d := numR 1 c.2
  let e := numR 1 d.2
  (⟨a.1, b.1, c.1, d.1, e.1⟩, e.2)
structure SymH where
  place : Int
  bind : Int
  whr : Int
  val : Int
def symR (s : RdL) : SymH × RdL :=
  let a := numR 2 s
  let b := numR 1 a.2
  let c := numR 1 b.2
  let d := numR 2 c.2
  (⟨a.1, b.1, c.1 - 2, d.1⟩, d.2)
def fixR (s : RdL) : FixD × RdL :=
  let a := numR 1 s
  let b := numR 1 a.2
  let c := numR 1 b.2
  let d := numR 2 c.2
  ((a.1, b.1, c.1, d.1 - 1000), d.2)
def manyR {α : Type} (f : RdL → α × RdL) (s : RdL) : Nat → List α × RdL
  | 0 => ([], s)
  | k + 1 => ((manyR f s k).1 ++ [(f (manyR f s k).2).1], (f (manyR f s k).2).2)
theorem manyR_length {α : Type} (f : RdL → α × RdL) (s : RdL) : ∀ k, (manyR f s k).1.length = k
  | 0 => rfl
  | k + 1 => by simp [manyR, manyR_length f s k]
theorem manyR_enc {α β : Type} (f : RdL → β × RdL) (enc : α → List UInt8) (g : α → β) (l : List α) (h : ∀ x ∈ l, ∀ r b, f ⟨enc x ++ r, b⟩ = (g x, ⟨r, b⟩)) (r : List UInt8) (b : Bool) :
    ∀ k, k ≤ l.length → manyR f ⟨l.flatMap enc ++ r, b⟩ k = ((l.take k).map g, ⟨(l.drop k).flatMap enc ++ r, b⟩)
  | 0, _ => by simp [manyR]
  | k + 1, hk => by
    have ih := manyR_enc f enc g l h r b k (by omega)
    have hk' : k < l.length := by omega
    unfold manyR
    rw [ih, List.drop_eq_getElem_cons hk', List.flatMap_cons, List.append_assoc]
    simp only
    rw [h _ (List.getElem_mem hk'), List.take_succ_eq_append_getElem hk', List.map_append]
    rfl
/-- One of a list of sections changed. -/
def upd {α : Type} (S : List α) (k : Nat) (f : α → α) : List α := match S[k]? with | some x => S.set k (f x) | none => S
theorem upd_at {α : Type} (A B : List α) (x : α) (k : Nat) (hk : A.length = k) (f : α → α) : upd (A ++ x :: B) k f = A ++ f x :: B := by
  subst hk
  unfold upd
  rw [List.getElem?_append_right (Nat.le_refl _), Nat.sub_self, List.getElem?_cons_zero]
  simp only
  rw [List.set_append_right _ _ (Nat.le_refl _), Nat.sub_self, List.set_cons_zero]
theorem upd_some {α : Type} {S : List α} {k : Nat} {x : α} (h : S[k]? = some x) (f : α → α) : upd S k f = S.set k (f x) := by unfold upd; rw [h]
theorem upd_length {α : Type} (S : List α) (k : Nat) (f : α → α) : (upd S k f).length = S.length := by
  unfold upd; split <;> simp
theorem upd_split {α β : Type} (l : List α) (u v : α → β) (k : Nat) (hk : k < l.length) (f : β → β) (h : f (u l[k]) = v l[k]) :
    upd ((l.take k).map v ++ (l.drop k).map u) k f = (l.take (k + 1)).map v ++ (l.drop (k + 1)).map u := by
  rw [List.drop_eq_getElem_cons hk, List.map_cons, upd_at _ _ _ k (by simp; omega), h, List.take_succ_eq_append_getElem hk, List.map_append, List.append_assoc]
  rfl
/-- Fixups that are put into a section, one by one. -/
def putFix (f : FixD) (x : SecD) : SecD := ⟨x.name, x.kind, x.align, x.bytes, x.size, x.fix ++ [f]⟩
def fixIn (i : Nat) (S : List SecD) (s : RdL) : Nat → List SecD × RdL
  | 0 => (S, s)
  | j + 1 => (upd (fixIn i S s j).1 i (putFix (fixR (fixIn i S s j).2).1), (fixR (fixIn i S s j).2).2)
theorem fixIn_length (i : Nat) (S : List SecD) (s : RdL) : ∀ j, (fixIn i S s j).1.length = S.length
  | 0 => rfl
  | j + 1 => by simp [fixIn, upd_length, fixIn_length i S s j]
def fixAll (many : List Int) (S : List SecD) (s : RdL) : Nat → List SecD × RdL
  | 0 => (S, s)
  | k + 1 => fixIn k (fixAll many S s k).1 (fixAll many S s k).2 (many.getD k 0).toNat
theorem fixAll_length (many : List Int) (S : List SecD) (s : RdL) : ∀ k, (fixAll many S s k).1.length = S.length
  | 0 => rfl
  | k + 1 => by simp [fixAll, fixIn_length, fixAll_length many S s k]
/-- Names. -/
def nameOf (T : List UInt8) (p : Int) : ByteArray := ⟨((nameAtL T p).getD []).toArray⟩
def putNm (n : ByteArray) (x : SecD) : SecD := ⟨n, x.kind, x.align, x.bytes, x.size, x.fix⟩
def putNmY (n : ByteArray) (x : SymD) : SymD := ⟨n, x.bind, x.whr, x.val⟩
def nmAll (T : List UInt8) (places : List Int) (a : Nat) (S : List SecD) (Y : List SymD) : Nat → List SecD × List SymD
  | 0 => (S, Y)
  | k + 1 => if k < a then (upd (nmAll T places a S Y k).1 k (putNm (nameOf T (places.getD k 0))), (nmAll T places a S Y k).2) else ((nmAll T places a S Y k).1, upd (nmAll T places a S Y k).2 (k - a) (putNmY (nameOf T (places.getD k 0))))
theorem nmAll_length (T : List UInt8) (places : List Int) (a : Nat) (S : List SecD) (Y : List SymD) : ∀ k, (nmAll T places a S Y k).1.length = S.length ∧ (nmAll T places a S Y k).2.length = Y.length
  | 0 => ⟨rfl, rfl⟩
  | k + 1 => by
    have ih := nmAll_length T places a S Y k
    unfold nmAll
    split
    · exact ⟨by rw [upd_length, ih.1], ih.2⟩
    · exact ⟨ih.1, by rw [upd_length, ih.2]⟩
/-- Sizes and bytes. -/
def putSize (n : Int) (x : SecD) : SecD := ⟨x.name, x.kind, x.align, x.bytes, n, x.fix⟩
def putByt (b : List UInt8) (x : SecD) : SecD := ⟨x.name, x.kind, x.align, b, x.size, x.fix⟩
def kindAt (S : List SecD) (k : Nat) : Int := match S[k]? with | some x => x.kind | none => 0
def bytAll (sizes : List Int) (S : List SecD) (s : RdL) : Nat → List SecD × RdL
  | 0 => (S, s)
  | k + 1 => if kindAt (bytAll sizes S s k).1 k = 3 then (upd (bytAll sizes S s k).1 k (putSize (sizes.getD k 0)), (bytAll sizes S s k).2)
    else (upd (bytAll sizes S s k).1 k (putByt (takeR (sizes.getD k 0).toNat (bytAll sizes S s k).2).1), (takeR (sizes.getD k 0).toNat (bytAll sizes S s k).2).2)
theorem bytAll_length (sizes : List Int) (S : List SecD) (s : RdL) : ∀ k, (bytAll sizes S s k).1.length = S.length
  | 0 => rfl
  | k + 1 => by
    have ih := bytAll_length sizes S s k
    unfold bytAll
    split
    · rw [upd_length, ih]
    · rw [upd_length, ih]
def sec0 (h : SecH) : SecD := ⟨⟨#[]⟩, h.kind, h.align, [], 0, []⟩
def sym0 (h : SymH) : SymD := ⟨⟨#[]⟩, h.bind, h.whr, h.val⟩
/-- What the program makes of bytes behind a header; and whether there were too few. -/
def parseI (a b d : Nat) (left : List UInt8) : ObjD × RdL :=
  let r1 := manyR secR ⟨left, false⟩ a
  let r2 := manyR symR r1.2 b
  let r3 := fixAll (r1.1.map (·.many)) (r1.1.map sec0) r2.2 a
  let r4 := takeR d r3.2
  let n := nmAll r4.1 (r1.1.map (·.place) ++ r2.1.map (·.place)) a r3.1 (r2.1.map sym0) (a + b)
  let r5 := bytAll (r1.1.map (·.size)) n.1 r4.2 a
  (⟨r5.1, n.2⟩, r5.2)
def readI (l : List UInt8) : Option ObjD := match getHead l with
  | none => none
  | some (a, b, _, d) => if (parseI a.toNat b.toNat d.toNat (l.drop 10)).2.bad = false ∧ writeL (parseI a.toNat b.toNat d.toNat (l.drop 10)).1 = l then some (parseI a.toNat b.toNat d.toNat (l.drop 10)).1 else none
/-- Fixups of a section, read where they were written. -/
theorem fixR_enc {f : FixD} {many bl : Int} (h : FixOk f many bl) (hm : many ≤ 256) (hb : bl < 256) (r : List UInt8) (b : Bool) : fixR ⟨fixHead f ++ r, b⟩ = (f, ⟨r, b⟩) := by
  obtain ⟨a, k, t, d⟩ := f
  have h1 := h.at_
  have h2 := h.kind
  have h3 := h.to
  have h4 := h.add
  simp only at h1 h2 h3 h4
  unfold fixR fixHead
  simp only [List.append_assoc, List.cons_append, List.nil_append]
  rw [numR_byte h1.1 (by omega)]
  simp only
  rw [numR_byte (by omega) (by omega)]
  simp only
  rw [numR_byte (by omega) (by omega)]
  simp only
  rw [numR_two (by omega) (by omega)]
  simp only [Prod.mk.injEq, true_and, and_true]
  omega
theorem fixIn_many (i : Nat) (A B : List SecD) (x : SecD) (hA : A.length = i) (s : RdL) : ∀ j, fixIn i (A ++ x :: B) s j = (A ++ (⟨x.name, x.kind, x.align, x.bytes, x.size, x.fix ++ (manyR fixR s j).1⟩ : SecD) :: B, (manyR fixR s j).2)
  | 0 => by simp [fixIn, manyR]
  | j + 1 => by
    have ih := fixIn_many i A B x hA s j
    unfold fixIn
    rw [ih]
    simp only
    rw [upd_at _ _ _ _ hA]
    simp [putFix, manyR]
def strip0 (x : SecD) : SecD := ⟨⟨#[]⟩, x.kind, x.align, [], 0, []⟩
def strip1 (x : SecD) : SecD := ⟨⟨#[]⟩, x.kind, x.align, [], 0, x.fix⟩
def strip2 (x : SecD) : SecD := ⟨x.name, x.kind, x.align, [], 0, x.fix⟩
theorem fixAll_enc (l : List SecD) (many : List Int) (hm : ∀ k (hk : k < l.length), many.getD k 0 = (l[k].fix.length : Int)) (hf : ∀ x ∈ l, ∀ f ∈ x.fix, ∀ r b, fixR ⟨fixHead f ++ r, b⟩ = (f, ⟨r, b⟩)) (r : List UInt8) (b : Bool) :
    ∀ k, k ≤ l.length → fixAll many (l.map strip0) ⟨l.flatMap fixesHead ++ r, b⟩ k = ((l.take k).map strip1 ++ (l.drop k).map strip0, ⟨(l.drop k).flatMap fixesHead ++ r, b⟩)
  | 0, _ => by simp [fixAll]
  | k + 1, hk => by
    have ih := fixAll_enc l many hm hf r b k (by omega)
    have hk' : k < l.length := by omega
    unfold fixAll
    rw [ih, List.drop_eq_getElem_cons hk', List.flatMap_cons, List.append_assoc, List.map_cons]
    simp only
    rw [fixIn_many k _ _ _ (by simp; omega), hm k hk', Int.toNat_natCast]
    have := manyR_enc fixR fixHead (fun f => f) l[k].fix (fun x hx => hf _ (List.getElem_mem hk') x hx) ((l.drop (k + 1)).flatMap fixesHead ++ r) b l[k].fix.length (Nat.le_refl _)
    rw [show fixesHead l[k] = l[k].fix.flatMap fixHead from rfl, this]
    simp only [List.take_length, List.map_id', List.drop_length, List.flatMap_nil, List.nil_append]
    rw [List.take_succ_eq_append_getElem hk', List.map_append, List.append_assoc]
    simp [strip0, strip1]
theorem nmAll_enc (o : ObjD) (T : List UInt8) (places : List Int) (h1 : ∀ k (hk : k < o.secs.length), nameOf T (places.getD k 0) = o.secs[k].name) (h2 : ∀ k (hk : k < o.syms.length), nameOf T (places.getD (o.secs.length + k) 0) = o.syms[k].name) :
    (∀ k, k ≤ o.secs.length → nmAll T places o.secs.length (o.secs.map strip1) (o.syms.map fun y => putNmY ⟨#[]⟩ y) k = ((o.secs.take k).map strip2 ++ (o.secs.drop k).map strip1, o.syms.map fun y => putNmY ⟨#[]⟩ y)) ∧
    ∀ k, k ≤ o.syms.length → nmAll T places o.secs.length (o.secs.map strip1) (o.syms.map fun y => putNmY ⟨#[]⟩ y) (o.secs.length + k) = (o.secs.map strip2, (o.syms.take k).map (fun y => y) ++ (o.syms.drop k).map fun y => putNmY ⟨#[]⟩ y) := by
  have H : ∀ k, k ≤ o.secs.length → nmAll T places o.secs.length (o.secs.map strip1) (o.syms.map fun y => putNmY ⟨#[]⟩ y) k = ((o.secs.take k).map strip2 ++ (o.secs.drop k).map strip1, o.syms.map fun y => putNmY ⟨#[]⟩ y) := by
    intro k
    induction k with
    | zero => intro _; simp [nmAll]
    | succ k ih =>
      intro hk
      unfold nmAll
      rw [if_pos (by omega), ih (by omega)]
      simp only
      rw [upd_split o.secs strip1 strip2 k (by omega) _ (by rw [h1 k (by omega)]; rfl)]
  refine ⟨H, fun k => ?_⟩
  induction k with
  | zero => intro _; rw [Nat.add_zero, H _ (Nat.le_refl _)]; simp
  | succ k ih =>
    intro hk
    rw [← Nat.add_assoc]
    unfold nmAll
    rw [if_neg (by omega), ih (by omega)]
    simp only
    rw [show o.secs.length + k - o.secs.length = k by omega, upd_split o.syms (fun y => putNmY ⟨#[]⟩ y) (fun y => y) k (by omega) _ (by rw [h2 k (by omega)]; rfl)]
theorem bytAll_enc (l : List SecD) (sizes : List Int) (hs : ∀ k (hk : k < l.length), sizes.getD k 0 = sectionSize l[k]) (hb : ∀ x ∈ l, (x.kind = 3 → x.bytes = []) ∧ (x.kind ≠ 3 → x.size = 0)) (r : List UInt8) (b : Bool) :
    ∀ k, k ≤ l.length → bytAll sizes (l.map strip2) ⟨l.flatMap (·.bytes) ++ r, b⟩ k = (l.take k ++ (l.drop k).map strip2, ⟨(l.drop k).flatMap (·.bytes) ++ r, b⟩)
  | 0, _ => by simp [bytAll]
  | k + 1, hk => by
    have ih := bytAll_enc l sizes hs hb r b k (by omega)
    have hk' : k < l.length := by omega
    have hx := hb _ (List.getElem_mem hk')
    have hsz := hs k hk'
    have hka : kindAt (l.take k ++ (l.drop k).map strip2) k = l[k].kind := by
      unfold kindAt
      rw [List.getElem?_append_right (by rw [List.length_take]; exact Nat.min_le_left _ _), List.length_take, Nat.min_eq_left (by omega), Nat.sub_self, List.getElem?_map, List.getElem?_drop, Nat.add_zero, List.getElem?_eq_getElem hk']
      rfl
    unfold bytAll
    rw [ih]
    simp only
    rw [hka, hsz]
    have eT : l.take (k + 1) = l.take k ++ [l[k]] := List.take_succ_eq_append_getElem hk'
    rw [List.drop_eq_getElem_cons hk', List.flatMap_cons, List.append_assoc, List.map_cons, eT, List.append_assoc, List.singleton_append]
    generalize l[k] = x at *
    by_cases hkd : x.kind = 3
    · rw [if_pos hkd, upd_at _ _ _ _ (by simp; omega)]
      have e : putSize (sectionSize x) (strip2 x) = x := by
        have := hx.1 hkd
        obtain ⟨a, b, c, d, e, f⟩ := x
        simp only at this hkd
        subst this
        simp [putSize, strip2, sectionSize, hkd]
      rw [e, hx.1 hkd, List.nil_append]
    · rw [if_neg hkd]
      have es : (sectionSize x).toNat = x.bytes.length := by unfold sectionSize; rw [if_neg hkd]; rfl
      rw [es, takeR_app _ _ _ _ rfl]
      simp only
      rw [upd_at _ _ _ _ (by simp; omega)]
      have e : putByt x.bytes (strip2 x) = x := by
        have := hx.2 hkd
        obtain ⟨a, b, c, d, e, f⟩ := x
        simp only at this
        subst this
        rfl
      rw [e]
theorem objB_head {o : ObjD} (h : objB o = true) : headerB (o.secs.length : Int) (o.syms.length : Int) (fixN o.secs : Int) ((tableL (allNames o)).length : Int) = true := by
  have hf := objB_few h
  have hx := objB_fixN h o.secs.length
  rw [List.take_length] at hx
  have ht := tableL_length (allNames o)
  have ht1 : 1 ≤ (tableL (allNames o)).length := by rw [tableL_names (objB_names h)]; unfold tabOf; rw [List.length_cons]; omega
  unfold headerB
  simp only [Bool.and_eq_true, withinB_iff]
  omega
/-- What is behind the header. -/
def tailO (o : ObjD) : List UInt8 := o.secs.flatMap (secHead (tableL (allNames o))) ++ (o.syms.flatMap (symHead (tableL (allNames o))) ++ (o.secs.flatMap fixesHead ++ (tableL (allNames o) ++ o.secs.flatMap (·.bytes))))
theorem writeL_tail {o : ObjD} (h : objB o = true) : writeL o = headO o ++ tailO o := by
  unfold writeL
  rw [if_pos h]
  unfold wr4 wr3 wr2 wr1 tailO
  simp only [List.take_length, List.append_assoc]
theorem place_ok {o : ObjD} (h : objB o = true) {s : ByteArray} (hs : s ∈ allNames o) : 0 ≤ placeOf (tableL (allNames o)) (bytesS s) ∧ placeOf (tableL (allNames o)) (bytesS s) < 65536 ∧ nameOf (tableL (allNames o)) (placeOf (tableL (allNames o)) (bytesS s)) = s := by
  have h1 := tableL_has (objB_names h) hs
  have h2 := (placeOf_range (tableL (allNames o)) (bytesS s)).2
  have h3 := tableL_length (allNames o)
  refine ⟨h1.2, by omega, ?_⟩
  unfold nameOf
  rw [h1.1]
  cases s
  simp [bytesS]
def headOf1 (o : ObjD) (x : SecD) : SecH := ⟨placeOf (tableL (allNames o)) (bytesS x.name), x.kind, x.align, sectionSize x, (x.fix.length : Int)⟩
def headOf2 (o : ObjD) (x : SymD) : SymH := ⟨placeOf (tableL (allNames o)) (bytesS x.name), x.bind, x.whr, x.val⟩
theorem secR_enc {o : ObjD} (h : objB o = true) {x : SecD} (hx : x ∈ o.secs) (r : List UInt8) (b : Bool) : secR ⟨secHead (tableL (allNames o)) x ++ r, b⟩ = (headOf1 o x, ⟨r, b⟩) := by
  have hp := place_ok h (List.mem_append_left _ (List.mem_map.2 ⟨x, hx, rfl⟩) : x.name ∈ allNames o)
  have ho := objB_sec h hx
  have hs := ho.sectionSize
  have hk := ho.kind
  have ha := (alignB_iff _).1 ho.align
  have hf := ho.fixl
  unfold secR secHead
  simp only [List.append_assoc, List.cons_append, List.nil_append]
  rw [numR_two hp.1 hp.2.1]
  simp only
  rw [numR_byte (by omega) (by omega)]
  simp only
  rw [numR_byte (by omega) (by omega)]
  simp only
  rw [numR_byte (by omega) (by omega)]
  simp only
  rw [numR_byte (by omega) (by omega)]
  rfl
theorem symR_enc {o : ObjD} (h : objB o = true) {x : SymD} (hx : x ∈ o.syms) (r : List UInt8) (b : Bool) : symR ⟨symHead (tableL (allNames o)) x ++ r, b⟩ = (headOf2 o x, ⟨r, b⟩) := by
  have hp := place_ok h (List.mem_append_right _ (List.mem_map.2 ⟨x, hx, rfl⟩) : x.name ∈ allNames o)
  have ho := objB_sym h hx
  have hw := ho.whr
  have hb := ho.bind
  have hv := ho.val
  have hf := (objB_few h).1
  unfold symR symHead
  simp only [List.append_assoc, List.cons_append, List.nil_append]
  rw [numR_two hp.1 hp.2.1]
  simp only
  rw [numR_byte (by omega) (by omega)]
  simp only
  rw [numR_byte (by omega) (by omega)]
  simp only
  rw [numR_two (by omega) (by omega)]
  simp only [headOf2, Prod.mk.injEq, SymH.mk.injEq, true_and, and_true]
  omega
/-- What was written is read, whatever is behind it. -/
theorem parseI_write {o : ObjD} (h : objB o = true) (r : List UInt8) : parseI o.secs.length o.syms.length (tableL (allNames o)).length (tailO o ++ r) = (o, ⟨r, false⟩) := by
  have hok := (objB_iff o).1 h
  unfold parseI tailO
  simp only [List.append_assoc]
  have e1 := manyR_enc secR (secHead (tableL (allNames o))) (headOf1 o) o.secs (fun x hx r b => secR_enc h hx r b) (o.syms.flatMap (symHead (tableL (allNames o))) ++ (o.secs.flatMap fixesHead ++ (tableL (allNames o) ++ (o.secs.flatMap (·.bytes) ++ r)))) false o.secs.length (Nat.le_refl _)
  rw [e1]
  simp only [List.take_length, List.drop_length, List.flatMap_nil, List.nil_append]
  have e2 := manyR_enc symR (symHead (tableL (allNames o))) (headOf2 o) o.syms (fun x hx r b => symR_enc h hx r b) (o.secs.flatMap fixesHead ++ (tableL (allNames o) ++ (o.secs.flatMap (·.bytes) ++ r))) false o.syms.length (Nat.le_refl _)
  rw [e2]
  simp only [List.take_length, List.drop_length, List.flatMap_nil, List.nil_append, List.map_map]
  have e0 : (sec0 ∘ headOf1 o) = strip0 := rfl
  have e3 := fixAll_enc o.secs (o.secs.map ((fun x : SecH => x.many) ∘ headOf1 o)) (fun k hk => by simp [headOf1, List.getD_eq_getElem?_getD, List.getElem?_map, List.getElem?_eq_getElem hk])
    (fun x hx f hf r b => fixR_enc ((objB_sec h hx).fix f hf) (by have := hok.few2; omega) (by decide) r b) (tableL (allNames o) ++ (o.secs.flatMap (·.bytes) ++ r)) false o.secs.length (Nat.le_refl _)
  rw [e0, e3]
  simp only [List.take_length, List.drop_length, List.flatMap_nil, List.nil_append, List.map_nil, List.append_nil]
  rw [takeR_app _ _ _ _ rfl]
  simp only
  have e4 : (o.syms.map (sym0 ∘ headOf2 o)) = o.syms.map fun y => putNmY ⟨#[]⟩ y := rfl
  have e5 := (nmAll_enc o (tableL (allNames o)) (o.secs.map ((fun x : SecH => x.place) ∘ headOf1 o) ++ o.syms.map ((fun x : SymH => x.place) ∘ headOf2 o)) (fun k hk => by
      rw [List.getD_eq_getElem?_getD, List.getElem?_append_left (by simpa using hk), List.getElem?_map, List.getElem?_eq_getElem hk]
      exact (place_ok h (List.mem_append_left _ (List.mem_map.2 ⟨_, List.getElem_mem hk, rfl⟩) : o.secs[k].name ∈ allNames o)).2.2) (fun k hk => by
      rw [List.getD_eq_getElem?_getD, List.getElem?_append_right (by simp), List.length_map, Nat.add_sub_cancel_left, List.getElem?_map, List.getElem?_eq_getElem hk]
      exact (place_ok h (List.mem_append_right _ (List.mem_map.2 ⟨_, List.getElem_mem hk, rfl⟩) : o.syms[k].name ∈ allNames o)).2.2)).2 o.syms.length (Nat.le_refl _)
  rw [e4, e5]
  simp only [List.take_length, List.drop_length, List.map_nil, List.append_nil, List.map_id']
  have e6 := bytAll_enc o.secs (o.secs.map ((fun x : SecH => x.size) ∘ headOf1 o)) (fun k hk => by simp [headOf1, List.getD_eq_getElem?_getD, List.getElem?_map, List.getElem?_eq_getElem hk]) (fun x hx => ⟨fun hk => ((objB_sec h hx).blank hk).1, fun hk => (objB_sec h hx).full hk⟩) r false o.secs.length (Nat.le_refl _)
  rw [e6]
  simp
theorem head_write {o : ObjD} (h : objB o = true) (r : List UInt8) : getHead (writeL o ++ r) = some ((o.secs.length : Int), (o.syms.length : Int), (fixN o.secs : Int), ((tableL (allNames o)).length : Int)) ∧ (writeL o ++ r).drop 10 = tailO o ++ r := by
  have hh := objB_head h
  have h1 := getHead_put hh (tailO o ++ r)
  rw [writeL_tail h, List.append_assoc]
  refine ⟨h1.1, ?_⟩
  have : (headO o).length = 10 := h1.2
  rw [← this, List.drop_left]
/-- Objects are read from their bytes alone. -/
theorem readI_iff (l : List UInt8) (o : ObjD) : readI l = some o ↔ objB o = true ∧ writeL o = l := by
  constructor
  · intro h
    unfold readI at h
    split at h
    · cases h
    · rename_i a b c d hg
      split at h
      · rename_i hc
        simp only [Option.some.injEq] at h
        subst h
        refine ⟨?_, hc.2⟩
        have hl := (getHead_some hg).1
        cases hb : objB (parseI a.toNat b.toNat d.toNat (l.drop 10)).1 with
        | true => rfl
        | false =>
          exfalso
          have := hc.2
          unfold writeL at this
          rw [hb] at this
          rw [← this] at hl
          simp at hl
      · cases h
  · rintro ⟨h, rfl⟩
    have h1 := head_write h []
    have h2 := parseI_write h []
    simp only [List.append_nil] at h1 h2
    unfold readI
    rw [h1.1]
    simp only [Int.toNat_natCast]
    rw [h1.2, h2]
    simp
theorem readI_write {o : ObjD} (h : objB o = true) : readI (writeL o) = some o := (readI_iff _ _).2 ⟨h, rfl⟩
/-- With bytes behind it nothing is read. -/
theorem readI_more {o : ObjD} (h : objB o = true) (x : UInt8) (r : List UInt8) : readI (writeL o ++ x :: r) = none := by
  cases hr : readI (writeL o ++ x :: r) with
  | none => rfl
  | some o' =>
    exfalso
    obtain ⟨h1, h2⟩ := (readI_iff _ _).1 hr
    have a1 := head_write h (x :: r)
    have a2 := parseI_write h (x :: r)
    have b1 := head_write h1 []
    have b2 := parseI_write h1 []
    simp only [List.append_nil] at b1 b2
    rw [h2] at b1
    have e := b1.1.symm.trans a1.1
    simp only [Option.some.injEq, Prod.mk.injEq] at e
    have e1 : o'.secs.length = o.secs.length := by omega
    have e2 : o'.syms.length = o.syms.length := by omega
    have e3 : (tableL (allNames o')).length = (tableL (allNames o)).length := by omega
    have e4 := b1.2.symm.trans a1.2
    rw [e1, e2, e3, e4, a2] at b2
    simp at b2
/-! PlainW -/
open Go.RowKit
set_option linter.unusedSimpArgs false
set_option linter.unusedVariables false
/-- A byte at a place, or 0. -/
def byS (l : List UInt8) (p : Nat) : Int := max 0 (getNum l (p : Int) 1)
def fixOne (l : List UInt8) (p : Nat) : FixD := (byS l p, byS l (p + 1), byS l (p + 2), getNum l ((p + 3 : Nat) : Int) 2 - 1000)
def fixS (l : List UInt8) (names : Nat) : Nat → Nat → List FixD × Nat
  | 0, p => ([], p)
  | j + 1, p => if p + 5 ≤ names then (fixOne l p :: (fixS l names j (p + 5)).1, (fixS l names j (p + 5)).2) else ([], p)
def secS (l T : List UInt8) (names at' fix from' : Nat) : Option (SecD × Nat × Nat) :=
  if byS l (from' + 2) = 3 then some (⟨nameOf T (getNum l (from' : Int) 2), byS l (from' + 2), byS l (from' + 3), [], byS l (from' + 4), (fixS l names (byS l (from' + 5)).toNat fix).1⟩, at', (fixS l names (byS l (from' + 5)).toNat fix).2)
  else if l.length < at' + (byS l (from' + 4)).toNat then none
  else some (⟨nameOf T (getNum l (from' : Int) 2), byS l (from' + 2), byS l (from' + 3), (l.drop at').take (byS l (from' + 4)).toNat, 0, (fixS l names (byS l (from' + 5)).toNat fix).1⟩, at' + (byS l (from' + 4)).toNat, (fixS l names (byS l (from' + 5)).toNat fix).2)
def secsS (l T : List UInt8) (names a0 f0 : Nat) : Nat → Option (List SecD × Nat × Nat)
  | 0 => some ([], a0, f0)
  | k + 1 => match secsS l T names a0 f0 k with
    | none => none
    | some (S, at', fix) => match secS l T names at' fix (10 + 6 * k) with
      | none => none
      | some (x, at2, fix2) => some (S ++ [x], at2, fix2)
def symS (l T : List UInt8) (p : Nat) : SymD := ⟨nameOf T (getNum l (p : Int) 2), byS l (p + 2), byS l (p + 3) - 2, getNum l ((p + 4 : Nat) : Int) 2⟩
def symsS (l T : List UInt8) (p : Nat) : Nat → List SymD
  | 0 => []
  | k + 1 => symsS l T p k ++ [symS l T (p + 6 * k)]
def tabS (l : List UInt8) (a b c d : Nat) : List UInt8 := (l.drop (10 + 6 * a + 6 * b + 5 * c)).take d
def objS (l : List UInt8) (a b c d : Nat) : Option ObjD :=
  if l.length < 10 + 6 * a + 6 * b + 5 * c + d then none
  else match secsS l (tabS l a b c d) (10 + 6 * a + 6 * b + 5 * c) (10 + 6 * a + 6 * b + 5 * c + d) (10 + 6 * a + 6 * b) a with
    | none => none
    | some (S, _, _) => some ⟨S, symsS l (tabS l a b c d) (10 + 6 * a) b⟩
/-- What the reference makes of bytes. -/
def readS (l : List UInt8) : Option ObjD := match getHead l with
  | none => none
  | some (a, b, c, d) => match objS l a.toNat b.toNat c.toNat d.toNat with
    | none => none
    | some o => if objB o = true ∧ writeL o = l then some o else none
theorem secsS_none {l T : List UInt8} {names a0 f0 k : Nat} (h : secsS l T names a0 f0 k = none) : ∀ m, k ≤ m → secsS l T names a0 f0 m = none
  | 0, hm => by obtain rfl : k = 0 := by omega
                exact h
  | m + 1, hm => by
    by_cases e : k = m + 1
    · subst e; exact h
    · have := secsS_none h m (by omega)
      unfold secsS
      rw [this]
theorem secsS_length {l T : List UInt8} {names a0 f0 : Nat} : ∀ (k : Nat) (S : List SecD) (at' fix : Nat), secsS l T names a0 f0 k = some (S, at', fix) → S.length = k
  | 0, S, at', fix, h => by simp only [secsS, Option.some.injEq, Prod.mk.injEq] at h; rw [← h.1]; rfl
  | k + 1, S, at', fix, h => by
    unfold secsS at h
    split at h
    · cases h
    · rename_i S' a' f' hs
      split at h
      · cases h
      · simp only [Option.some.injEq, Prod.mk.injEq] at h
        rw [← h.1, List.length_append, secsS_length k S' a' f' hs]; rfl
theorem byS_at {l : List UInt8} {p : Nat} (h : p + 1 ≤ l.length) : byS l p = getNum l (p : Int) 1 := by
  unfold byS
  rw [getNum_of ((withinB_iff _ _ _).2 ⟨by omega, by omega⟩) ((withinB_iff _ _ _).2 ⟨by omega, by omega⟩)]
  exact Int.max_eq_right (leNum_nonneg _)
theorem numR_at (l : List UInt8) (p w : Nat) (b : Bool) (h : p + w ≤ l.length) (h1 : 1 ≤ w) (h4 : w ≤ 4) : numR w ⟨l.drop p, b⟩ = (getNum l (p : Int) (w : Int), ⟨l.drop (p + w), b⟩) := by
  unfold numR takeR
  rw [if_pos (by rw [List.length_drop]; omega), getNum_of ((withinB_iff _ _ _).2 ⟨by omega, by omega⟩) ((withinB_iff _ _ _).2 ⟨by omega, by omega⟩)]
  simp only [List.drop_drop, Int.toNat_natCast]
theorem secR_at (l : List UInt8) (p : Nat) (b : Bool) (h : p + 6 ≤ l.length) : secR ⟨l.drop p, b⟩ = (⟨getNum l (p : Int) 2, byS l (p + 2), byS l (p + 3), byS l (p + 4), byS l (p + 5)⟩, ⟨l.drop (p + 6), b⟩) := by
  unfold secR
  rw [numR_at l p 2 b (by omega) (by omega) (by omega)]
  simp only
  rw [numR_at l (p + 2) 1 b (by omega) (by omega) (by omega)]
  simp only
  rw [numR_at l (p + 2 + 1) 1 b (by omega) (by omega) (by omega)]
  simp only
  rw [numR_at l (p + 2 + 1 + 1) 1 b (by omega) (by omega) (by omega)]
  simp only
  rw [numR_at l (p + 2 + 1 + 1 + 1) 1 b (by omega) (by omega) (by omega)]
  rw [byS_at (by omega), byS_at (by omega), byS_at (by omega), byS_at (by omega)]
  rfl
theorem symR_at (l : List UInt8) (p : Nat) (b : Bool) (h : p + 6 ≤ l.length) : symR ⟨l.drop p, b⟩ = (⟨getNum l (p : Int) 2, byS l (p + 2), byS l (p + 3) - 2, getNum l ((p + 4 : Nat) : Int) 2⟩, ⟨l.drop (p + 6), b⟩) := by
  unfold symR
  rw [numR_at l p 2 b (by omega) (by omega) (by omega)]
  simp only
  rw [numR_at l (p + 2) 1 b (by omega) (by omega) (by omega)]
  simp only
  rw [numR_at l (p + 2 + 1) 1 b (by omega) (by omega) (by omega)]
  simp only
  rw [numR_at l (p + 2 + 1 + 1) 2 b (by omega) (by omega) (by omega)]
  rw [byS_at (by omega), byS_at (by omega)]
  rfl
theorem fixR_at (l : List UInt8) (p : Nat) (b : Bool) (h : p + 5 ≤ l.length) : fixR ⟨l.drop p, b⟩ = (fixOne l p, ⟨l.drop (p + 5), b⟩) := by
  unfold fixR fixOne
  rw [numR_at l p 1 b (by omega) (by omega) (by omega)]
  simp only
  rw [numR_at l (p + 1) 1 b (by omega) (by omega) (by omega)]
  simp only
  rw [numR_at l (p + 1 + 1) 1 b (by omega) (by omega) (by omega)]
  simp only
  rw [numR_at l (p + 1 + 1 + 1) 2 b (by omega) (by omega) (by omega)]
  rw [byS_at (by omega), byS_at (by omega), byS_at (by omega)]
  rfl
theorem drop_flat {α β : Type} {f : α → List β} {l : List α} {k n : Nat} (h : ((l.take k).flatMap f).length = n) : (l.flatMap f).drop n = (l.drop k).flatMap f := by
  have e : l.flatMap f = (l.take k).flatMap f ++ (l.drop k).flatMap f := by rw [← List.flatMap_append, List.take_append_drop]
  rw [e, ← h, List.drop_left]
/-- Fixups, read where they were written. -/
theorem fixS_enc (l : List UInt8) (names : Nat) (hn : names ≤ l.length) : ∀ (F : List FixD) (r : List UInt8) (p : Nat), (∀ f ∈ F, ∀ r b, fixR ⟨fixHead f ++ r, b⟩ = (f, ⟨r, b⟩)) → (∀ f ∈ F, (fixHead f).length = 5) → l.drop p = F.flatMap fixHead ++ r → p + 5 * F.length ≤ names → fixS l names F.length p = (F, p + 5 * F.length)
  | [], r, p, _, _, _, _ => rfl
  | f :: F, r, p, h1, h5, hd, hp => by
    rw [List.length_cons] at hp ⊢
    have e1 := fixR_at l p false (by omega)
    rw [hd, List.flatMap_cons, List.append_assoc, h1 f (List.mem_cons_self ..) _ false] at e1
    simp only [Prod.mk.injEq, RdL.mk.injEq, and_true] at e1
    have ih := fixS_enc l names hn F r (p + 5) (fun x hx => h1 x (List.mem_cons_of_mem _ hx)) (fun x hx => h5 x (List.mem_cons_of_mem _ hx)) e1.2.symm (by omega)
    unfold fixS
    rw [if_pos (by omega), ih, ← e1.1]
    simp only [Prod.mk.injEq, true_and]
    omega
theorem fixS_le (l : List UInt8) (names : Nat) : ∀ (j p : Nat), (fixS l names j p).1.length ≤ j
  | 0, p => Nat.le_refl _
  | j + 1, p => by
    have ih := fixS_le l names j (p + 5)
    unfold fixS
    split
    · simp only [List.length_cons]; omega
    · simp
theorem secHead_len {o : ObjD} (h : objB o = true) {s : SecD} (hs : s ∈ o.secs) : (secHead (tableL (allNames o)) s).length = 6 := by
  unfold secHead
  rw [List.length_append, place_two h (List.mem_append_left _ (List.mem_map.2 ⟨s, hs, rfl⟩))]
  rfl
theorem symHead_len {o : ObjD} (h : objB o = true) {s : SymD} (hs : s ∈ o.syms) : (symHead (tableL (allNames o)) s).length = 6 := by
  unfold symHead
  have hv := (objB_sym h hs).val
  rw [List.length_append, List.length_append, place_two h (List.mem_append_right _ (List.mem_map.2 ⟨s, hs, rfl⟩)), putNum_two hv.1 (by omega)]
  rfl
theorem fixHead_len {o : ObjD} (h : objB o = true) {s : SecD} (hs : s ∈ o.secs) {y : FixD} (hy : y ∈ s.fix) : (fixHead y).length = 5 := by
  unfold fixHead
  have hv := ((objB_sec h hs).fix y hy).add
  rw [List.length_append, putNum_two (by omega) (by omega)]
  rfl
theorem fixN_app : ∀ (a b : List SecD), fixN (a ++ b) = fixN a + fixN b
  | [], b => by simp [fixN]
  | x :: a, b => by have := fixN_app a b; simp only [List.cons_append, fixN]; omega
theorem bytN_app : ∀ (a b : List SecD), bytN (a ++ b) = bytN a + bytN b
  | [], b => by simp [bytN]
  | x :: a, b => by have := bytN_app a b; simp only [List.cons_append, bytN]; omega
/-- Where the parts of a written object stand. -/
structure Laid (o : ObjD) (l : List UInt8) : Prop where
  len : l.length = 10 + 6 * o.secs.length + 6 * o.syms.length + 5 * fixN o.secs + (tableL (allNames o)).length + bytN o.secs
  sec : ∀ k, k ≤ o.secs.length → ∃ r, l.drop (10 + 6 * k) = (o.secs.drop k).flatMap (secHead (tableL (allNames o))) ++ r
  sym : ∀ k, k ≤ o.syms.length → ∃ r, l.drop (10 + 6 * o.secs.length + 6 * k) = (o.syms.drop k).flatMap (symHead (tableL (allNames o))) ++ r
  fix : ∀ k, k ≤ o.secs.length → ∃ r, l.drop (10 + 6 * o.secs.length + 6 * o.syms.length + 5 * fixN (o.secs.take k)) = (o.secs.drop k).flatMap fixesHead ++ r
  tab : (l.drop (10 + 6 * o.secs.length + 6 * o.syms.length + 5 * fixN o.secs)).take (tableL (allNames o)).length = tableL (allNames o)
  byt : ∀ k, k ≤ o.secs.length → l.drop (10 + 6 * o.secs.length + 6 * o.syms.length + 5 * fixN o.secs + (tableL (allNames o)).length + bytN (o.secs.take k)) = (o.secs.drop k).flatMap (·.bytes)
theorem laid_write {o : ObjD} (h : objB o = true) : Laid o (writeL o) := by
  have h10 := (head_write h []).2
  simp only [List.append_nil] at h10
  have hs : ∀ k, ((o.secs.take k).flatMap (secHead (tableL (allNames o)))).length = 6 * (o.secs.take k).length := fun k => by
    have := flat_eq (m := 6) (l := o.secs.take k) (f := secHead (tableL (allNames o))) fun s hs => secHead_len h (List.mem_of_mem_take hs)
    omega
  have hy : ∀ k, ((o.syms.take k).flatMap (symHead (tableL (allNames o)))).length = 6 * (o.syms.take k).length := fun k => by
    have := flat_eq (m := 6) (l := o.syms.take k) (f := symHead (tableL (allNames o))) fun s hs => symHead_len h (List.mem_of_mem_take hs)
    omega
  have hf : ∀ k, ((o.secs.take k).flatMap fixesHead).length = 5 * fixN (o.secs.take k) := fun k => by
    have := flat_fix (m := 0) (l := o.secs.take k) fun s hs y hy => fixHead_len h (List.mem_of_mem_take hs) hy
    omega
  have hb : ∀ k, ((o.secs.take k).flatMap (·.bytes)).length = bytN (o.secs.take k) := fun k => flat_byt
  have sA := hs o.secs.length
  have yA := hy o.syms.length
  have fA := hf o.secs.length
  simp only [List.take_length] at sA yA fA
  unfold tailO at h10
  have d1 : (writeL o).drop (10 + 6 * o.secs.length) = o.syms.flatMap (symHead (tableL (allNames o))) ++ (o.secs.flatMap fixesHead ++ (tableL (allNames o) ++ o.secs.flatMap (·.bytes))) := by
    rw [← List.drop_drop, h10, ← sA, List.drop_left]
  have d2 : (writeL o).drop (10 + 6 * o.secs.length + 6 * o.syms.length) = o.secs.flatMap fixesHead ++ (tableL (allNames o) ++ o.secs.flatMap (·.bytes)) := by
    rw [← List.drop_drop, d1, ← yA, List.drop_left]
  have d3 : (writeL o).drop (10 + 6 * o.secs.length + 6 * o.syms.length + 5 * fixN o.secs) = tableL (allNames o) ++ o.secs.flatMap (·.bytes) := by
    rw [← List.drop_drop, d2, ← fA, List.drop_left]
  have d4 : (writeL o).drop (10 + 6 * o.secs.length + 6 * o.syms.length + 5 * fixN o.secs + (tableL (allNames o)).length) = o.secs.flatMap (·.bytes) := by
    rw [← List.drop_drop, d3, List.drop_left]
  refine ⟨writeL_len h, fun k hk => ?_, fun k hk => ?_, fun k hk => ?_, by rw [d3, List.take_left], fun k hk => ?_⟩
  · rw [← List.drop_drop, h10]
    have e := hs k
    rw [List.length_take, Nat.min_eq_left hk] at e
    rw [List.drop_append_of_le_length (by rw [sA]; omega), drop_flat e]
    exact ⟨_, rfl⟩
  · rw [← List.drop_drop, d1]
    have e := hy k
    rw [List.length_take, Nat.min_eq_left hk] at e
    rw [List.drop_append_of_le_length (by rw [yA]; omega), drop_flat e]
    exact ⟨_, rfl⟩
  · have e := hf k
    have e2 : fixN (o.secs.take k) ≤ fixN o.secs := by
      have := fixN_app (o.secs.take k) (o.secs.drop k)
      rw [List.take_append_drop] at this
      omega
    rw [← List.drop_drop, d2, List.drop_append_of_le_length (by rw [fA]; omega), drop_flat e]
    exact ⟨_, rfl⟩
  · rw [← List.drop_drop, d4, drop_flat (hb k)]
theorem fixN_take (l : List SecD) (k : Nat) : fixN (l.take k) ≤ fixN l := by
  have := fixN_app (l.take k) (l.drop k)
  rw [List.take_append_drop] at this
  omega
theorem bytN_take (l : List SecD) (k : Nat) : bytN (l.take k) ≤ bytN l := by
  have := bytN_app (l.take k) (l.drop k)
  rw [List.take_append_drop] at this
  omega
theorem secS_write {o : ObjD} {l : List UInt8} (h : objB o = true) (hl : Laid o l) (k : Nat) (hk : k < o.secs.length) :
    secS l (tableL (allNames o)) (10 + 6 * o.secs.length + 6 * o.syms.length + 5 * fixN o.secs) (10 + 6 * o.secs.length + 6 * o.syms.length + 5 * fixN o.secs + (tableL (allNames o)).length + bytN (o.secs.take k)) (10 + 6 * o.secs.length + 6 * o.syms.length + 5 * fixN (o.secs.take k)) (10 + 6 * k)
      = some (o.secs[k], 10 + 6 * o.secs.length + 6 * o.syms.length + 5 * fixN o.secs + (tableL (allNames o)).length + bytN (o.secs.take (k + 1)), 10 + 6 * o.secs.length + 6 * o.syms.length + 5 * fixN (o.secs.take (k + 1))) := by
  have hx : o.secs[k] ∈ o.secs := List.getElem_mem hk
  have hlen := hl.len
  have f1 := fixN_step o.secs k hk
  have b1 := bytN_step o.secs k hk
  have f2 := fixN_take o.secs (k + 1)
  have b2 := bytN_take o.secs (k + 1)
  obtain ⟨r1, e1⟩ := hl.sec k (by omega)
  obtain ⟨r2, e2⟩ := hl.fix k (by omega)
  have e3 := hl.byt k (by omega)
  rw [List.drop_eq_getElem_cons hk, List.flatMap_cons] at e1 e2 e3
  rw [List.append_assoc] at e1 e2
  have q1 := secR_at l (10 + 6 * k) false (by omega)
  rw [e1, secR_enc h hx] at q1
  simp only [headOf1, Prod.mk.injEq, SecH.mk.injEq] at q1
  obtain ⟨⟨n1, n2, n3, n4, n5⟩, -⟩ := q1
  have hok := (objB_iff o).1 h
  have q2 := fixS_enc l (10 + 6 * o.secs.length + 6 * o.syms.length + 5 * fixN o.secs) (by omega) o.secs[k].fix _ _ (fun f hf r b => fixR_enc ((objB_sec h hx).fix f hf) (by have := hok.few2; omega) (by decide) r b) (fun f hf => fixHead_len h hx hf) e2 (by omega)
  have hn := (place_ok h (List.mem_append_left _ (List.mem_map.2 ⟨_, hx, rfl⟩) : o.secs[k].name ∈ allNames o)).2.2
  unfold secS
  rw [← n1, ← n2, ← n3, ← n4, ← n5, Int.toNat_natCast, q2, hn]
  simp only
  by_cases hkd : o.secs[k].kind = 3
  · rw [if_pos hkd]
    have hbl := ((objB_sec h hx).blank hkd).1
    have hsz : sectionSize o.secs[k] = o.secs[k].size := by unfold sectionSize; rw [if_pos hkd]
    rw [hsz]
    simp only [Option.some.injEq, Prod.mk.injEq]
    rw [hbl, List.length_nil] at b1
    refine ⟨?_, by omega, by omega⟩
    rw [← hbl]
  · rw [if_neg hkd]
    have hsz : (sectionSize o.secs[k]).toNat = o.secs[k].bytes.length := by unfold sectionSize; rw [if_neg hkd]; rfl
    rw [hsz, if_neg (by omega), e3, List.take_left]
    have hz := (objB_sec h hx).full hkd
    simp only [Option.some.injEq, Prod.mk.injEq]
    refine ⟨?_, by omega, by omega⟩
    rw [← hz]
theorem secsS_write {o : ObjD} {l : List UInt8} (h : objB o = true) (hl : Laid o l) : ∀ k, k ≤ o.secs.length →
    secsS l (tableL (allNames o)) (10 + 6 * o.secs.length + 6 * o.syms.length + 5 * fixN o.secs) (10 + 6 * o.secs.length + 6 * o.syms.length + 5 * fixN o.secs + (tableL (allNames o)).length) (10 + 6 * o.secs.length + 6 * o.syms.length) k
      = some (o.secs.take k, 10 + 6 * o.secs.length + 6 * o.syms.length + 5 * fixN o.secs + (tableL (allNames o)).length + bytN (o.secs.take k), 10 + 6 * o.secs.length + 6 * o.syms.length + 5 * fixN (o.secs.take k))
  | 0, _ => by simp [secsS, bytN, fixN]
  | k + 1, hk => by
    unfold secsS
    rw [secsS_write h hl k (by omega)]
    simp only
    rw [secS_write h hl k (by omega)]
    simp only
    rw [← List.take_succ_eq_append_getElem]
theorem symsS_write {o : ObjD} {l : List UInt8} (h : objB o = true) (hl : Laid o l) : ∀ k, k ≤ o.syms.length → symsS l (tableL (allNames o)) (10 + 6 * o.secs.length) k = o.syms.take k
  | 0, _ => by simp [symsS]
  | k + 1, hk => by
    have hk' : k < o.syms.length := by omega
    have hx : o.syms[k] ∈ o.syms := List.getElem_mem hk'
    have hlen := hl.len
    obtain ⟨r1, e1⟩ := hl.sym k (by omega)
    rw [List.drop_eq_getElem_cons hk', List.flatMap_cons, List.append_assoc] at e1
    have q1 := symR_at l (10 + 6 * o.secs.length + 6 * k) false (by omega)
    rw [e1, symR_enc h hx] at q1
    simp only [headOf2, Prod.mk.injEq, SymH.mk.injEq] at q1
    obtain ⟨⟨n1, n2, n3, n4⟩, -⟩ := q1
    have hn := (place_ok h (List.mem_append_right _ (List.mem_map.2 ⟨_, hx, rfl⟩) : o.syms[k].name ∈ allNames o)).2.2
    unfold symsS symS
    rw [symsS_write h hl k (by omega), ← n1, ← n2, ← n3, ← n4, hn, List.take_succ_eq_append_getElem hk']
theorem readS_write {o : ObjD} (h : objB o = true) : readS (writeL o) = some o := by
  have hl := laid_write h
  have hh := (head_write h []).1
  simp only [List.append_nil] at hh
  unfold readS
  rw [hh]
  simp only [Int.toNat_natCast]
  have ht : tabS (writeL o) o.secs.length o.syms.length (fixN o.secs) (tableL (allNames o)).length = tableL (allNames o) := hl.tab
  have hlen := hl.len
  have e : objS (writeL o) o.secs.length o.syms.length (fixN o.secs) (tableL (allNames o)).length = some o := by
    unfold objS
    rw [if_neg (by omega), ht, secsS_write h hl _ (Nat.le_refl _)]
    simp only [List.take_length]
    rw [symsS_write h hl _ (Nat.le_refl _), List.take_length]
  rw [e]
  simp [h]
/-- The reference reads what the program reads. -/
theorem readS_eq (l : List UInt8) : readS l = readI l := by
  cases h : readI l with
  | some o =>
    obtain ⟨h1, rfl⟩ := (readI_iff _ _).1 h
    exact readS_write h1
  | none =>
    cases hs : readS l with
    | none => rfl
    | some o =>
      exfalso
      unfold readS at hs
      split at hs
      · cases hs
      · split at hs
        · cases hs
        · split at hs
          · rename_i o' _ hc
            simp only [Option.some.injEq] at hs
            subst hs
            rw [(readI_iff l _).2 hc] at h
            cases h
          · cases hs
end Go.Proofs.Ytkefbhidfbnipaa
