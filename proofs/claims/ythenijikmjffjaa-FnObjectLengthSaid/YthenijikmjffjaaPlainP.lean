/- Objects written; with no program in sight. -/
import Derived.Test.YthenijikmjffjaaPlainR
import Derived.Test.YthenijikmjffjaaPlainTab
import Derived.Test.YthenijikmjffjaaPlainA
import Derived.Test.YthenijikmjffjaaPlace
import Derived.Test.YthenijikmjffjaaPutHead
import Derived.Test.YthenijikmjffjaaDrawT
import Derived.Test.YthenijikmjffjaaNames
namespace Go.Proofs.Ythenijikmjffjaa
open Go.RowKit
set_option linter.unusedSimpArgs false
set_option linter.unusedVariables false
def u8of (n : Int) : UInt8 := UInt8.ofNat n.toNat
def secHead (T : List UInt8) (x : SecD) : List UInt8 := putNum (placeOf T (bytesS x.name)) 2 ++ [u8of x.kind, u8of x.align, u8of (sectionSize x), u8of (x.fix.length : Int)]
def symHead (T : List UInt8) (x : SymD) : List UInt8 := putNum (placeOf T (bytesS x.name)) 2 ++ [u8of x.bind, u8of (x.whr + 2)] ++ putNum x.val 2
def fixHead (y : FixD) : List UInt8 := [u8of y.1, u8of y.2.1, u8of y.2.2.1] ++ putNum (y.2.2.2 + 1000) 2
def fixesHead (x : SecD) : List UInt8 := x.fix.flatMap fixHead
def headO (o : ObjD) : List UInt8 := putHead (o.secs.length : Int) (o.syms.length : Int) (fixN o.secs : Int) ((tableL (allNames o)).length : Int)
/-- What is written behind k sections. -/
def wr1 (o : ObjD) (k : Nat) : List UInt8 := headO o ++ (o.secs.take k).flatMap (secHead (tableL (allNames o)))
def wr2 (o : ObjD) (k : Nat) : List UInt8 := wr1 o o.secs.length ++ (o.syms.take k).flatMap (symHead (tableL (allNames o)))
def wr3 (o : ObjD) (k : Nat) : List UInt8 := wr2 o o.syms.length ++ (o.secs.take k).flatMap fixesHead
def wr4 (o : ObjD) (k : Nat) : List UInt8 := wr3 o o.secs.length ++ tableL (allNames o) ++ (o.secs.take k).flatMap (·.bytes)
/-- The bytes of an object. -/
def writeL (o : ObjD) : List UInt8 := if objB o = true then wr4 o o.secs.length else []
theorem flat_step {α β : Type} (f : α → List β) (l : List α) (k : Nat) (hk : k < l.length) : (l.take (k + 1)).flatMap f = (l.take k).flatMap f ++ f l[k] := by
  rw [List.take_succ_eq_append_getElem hk, List.flatMap_append]
  simp
theorem wr1_zero (o : ObjD) : wr1 o 0 = headO o := by simp [wr1]
theorem wr2_zero (o : ObjD) : wr2 o 0 = wr1 o o.secs.length := by simp [wr2]
theorem wr3_zero (o : ObjD) : wr3 o 0 = wr2 o o.syms.length := by simp [wr3]
theorem wr4_zero (o : ObjD) : wr4 o 0 = wr3 o o.secs.length ++ tableL (allNames o) := by simp [wr4]
theorem wr1_step (o : ObjD) (k : Nat) (hk : k < o.secs.length) : wr1 o (k + 1) = wr1 o k ++ putNum (placeOf (tableL (allNames o)) (bytesS o.secs[k].name)) 2 ++ [u8of o.secs[k].kind, u8of o.secs[k].align, u8of (sectionSize o.secs[k]), u8of (o.secs[k].fix.length : Int)] := by
  unfold wr1
  rw [flat_step _ _ k hk]
  simp only [secHead, List.append_assoc]
theorem wr2_step (o : ObjD) (k : Nat) (hk : k < o.syms.length) : wr2 o (k + 1) = wr2 o k ++ putNum (placeOf (tableL (allNames o)) (bytesS o.syms[k].name)) 2 ++ [u8of o.syms[k].bind, u8of (o.syms[k].whr + 2)] ++ putNum o.syms[k].val 2 := by
  unfold wr2
  rw [flat_step _ _ k hk]
  simp only [symHead, List.append_assoc]
/-- Behind k sections and j fixups of the next. -/
def wr3j (o : ObjD) (k : Nat) (l : List FixD) (j : Nat) : List UInt8 := wr3 o k ++ (l.take j).flatMap fixHead
theorem wr3j_zero (o : ObjD) (k : Nat) (l : List FixD) : wr3j o k l 0 = wr3 o k := by simp [wr3j]
theorem wr3j_step (o : ObjD) (k : Nat) (l : List FixD) (j : Nat) (hj : j < l.length) : wr3j o k l (j + 1) = wr3j o k l j ++ [u8of l[j].1, u8of l[j].2.1, u8of l[j].2.2.1] ++ putNum (l[j].2.2.2 + 1000) 2 := by
  unfold wr3j
  rw [flat_step _ _ j hj]
  simp only [fixHead, List.append_assoc]
theorem wr3_step (o : ObjD) (k : Nat) (hk : k < o.secs.length) : wr3 o (k + 1) = wr3j o k o.secs[k].fix o.secs[k].fix.length := by
  unfold wr3j wr3
  rw [flat_step _ _ k hk, List.take_length]
  simp only [fixesHead, List.append_assoc]
theorem wr4_step (o : ObjD) (k : Nat) (hk : k < o.secs.length) : wr4 o (k + 1) = wr4 o k ++ o.secs[k].bytes := by
  unfold wr4
  rw [flat_step _ _ k hk]
  simp only [List.append_assoc]
theorem flat_le {α β : Type} {f : α → List β} {m : Nat} : ∀ {l : List α}, (∀ s ∈ l, (f s).length ≤ m) → (l.flatMap f).length ≤ m * l.length
  | [], _ => by simp
  | s :: r, h => by
    have h1 := h s (List.mem_cons_self ..)
    have h2 := flat_le (l := r) fun x hx => h x (List.mem_cons_of_mem _ hx)
    rw [List.flatMap_cons, List.length_append, List.length_cons, Nat.mul_add]; omega
theorem secHead_le (T : List UInt8) (x : SecD) : (secHead T x).length ≤ 8 := by
  unfold secHead
  have := putNum_length (placeOf T (bytesS x.name)) 2
  rw [List.length_append]; simp only [List.length_cons, List.length_nil]; omega
theorem symHead_le (T : List UInt8) (x : SymD) : (symHead T x).length ≤ 10 := by
  unfold symHead
  have := putNum_length (placeOf T (bytesS x.name)) 2
  have := putNum_length x.val 2
  rw [List.length_append, List.length_append]; simp only [List.length_cons, List.length_nil]; omega
theorem fixHead_le (y : FixD) : (fixHead y).length ≤ 7 := by
  unfold fixHead
  have := putNum_length (y.2.2.2 + 1000) 2
  rw [List.length_append]; simp only [List.length_cons, List.length_nil]; omega
theorem wr1_len {o : ObjD} (h : objB o = true) (k : Nat) : (wr1 o k).length ≤ 74 := by
  have hf := (objB_few h).1
  have h1 := flat_le (m := 8) (l := o.secs.take k) (f := secHead (tableL (allNames o))) fun s _ => secHead_le _ s
  have h2 := putHead_length (o.secs.length : Int) (o.syms.length : Int) (fixN o.secs : Int) ((tableL (allNames o)).length : Int)
  rw [List.length_take] at h1
  unfold wr1 headO
  rw [List.length_append]; omega
theorem wr2_len {o : ObjD} (h : objB o = true) (k : Nat) : (wr2 o k).length ≤ 194 := by
  have hf := (objB_few h).2
  have h1 := flat_le (m := 10) (l := o.syms.take k) (f := symHead (tableL (allNames o))) fun s _ => symHead_le _ s
  have h2 := wr1_len h o.secs.length
  rw [List.length_take] at h1
  unfold wr2
  rw [List.length_append]; omega
theorem wr3_len {o : ObjD} (h : objB o = true) (k : Nat) : (wr3 o k).length ≤ 530 := by
  have hf := (objB_few h).1
  have h1 := flat_le (m := 42) (l := o.secs.take k) (f := fixesHead) fun s hs => by
    have h3 := flat_le (m := 7) (l := s.fix) (f := fixHead) fun y _ => fixHead_le y
    have h4 := (objB_sec h (List.mem_of_mem_take hs)).fixl
    unfold fixesHead
    omega
  have h2 := wr2_len h o.syms.length
  rw [List.length_take] at h1
  unfold wr3
  rw [List.length_append]; omega
theorem wr3j_len {o : ObjD} (h : objB o = true) (k : Nat) (l : List FixD) (hl : l.length ≤ 6) (j : Nat) : (wr3j o k l j).length ≤ 572 := by
  have h1 := flat_le (m := 7) (l := l.take j) (f := fixHead) fun y _ => fixHead_le y
  have h2 := wr3_len h k
  rw [List.length_take] at h1
  unfold wr3j
  rw [List.length_append]; omega
theorem wr4_len {o : ObjD} (h : objB o = true) (k : Nat) : (wr4 o k).length ≤ 1275 := by
  have hf := (objB_few h).1
  have h1 := flat_le (m := 48) (l := o.secs.take k) (f := fun s => s.bytes) fun s hs => (objB_sec h (List.mem_of_mem_take hs)).bytes
  have h2 := wr3_len h o.secs.length
  have h3 := tableL_length (allNames o)
  rw [List.length_take] at h1
  unfold wr4
  rw [List.length_append, List.length_append]; omega
theorem writeL_le (o : ObjD) : (writeL o).length ≤ 1275 := by
  unfold writeL
  split
  · rename_i h; exact wr4_len h _
  · simp
/-- Names of valid objects are names. -/
theorem objB_names {o : ObjD} (h : objB o = true) : namesB (allNames o) = true := by
  unfold namesB
  have hf := objB_few h
  rw [Bool.and_eq_true, decide_eq_true_eq, List.all_eq_true, allNames_length]
  refine ⟨by omega, fun x hx => ?_⟩
  unfold allNames at hx
  rcases List.mem_append.1 hx with hx | hx
  · obtain ⟨s, hs, rfl⟩ := List.mem_map.1 hx; exact (objB_sec h hs).name
  · obtain ⟨s, hs, rfl⟩ := List.mem_map.1 hx; exact (objB_sym h hs).name
theorem putNum_two {n : Int} (h0 : 0 ≤ n) (h1 : n < 65536) : (putNum n 2).length = 2 := by
  have hn : numB n 2 = true := by
    unfold numB
    rw [Bool.and_eq_true]
    exact ⟨(withinB_iff _ _ _).2 ⟨by decide, by decide⟩, (withinB_iff _ _ _).2 ⟨h0, by show n ≤ 65536 - 1; omega⟩⟩
  have := (getNum_putNum hn).1
  omega
theorem place_two {o : ObjD} (h : objB o = true) {s : ByteArray} (hs : s ∈ allNames o) : (putNum (placeOf (tableL (allNames o)) (bytesS s)) 2).length = 2 := by
  have h1 := (tableL_has (objB_names h) hs).2
  have h2 := (placeOf_range (tableL (allNames o)) (bytesS s)).2
  have h3 := tableL_length (allNames o)
  exact putNum_two h1 (by omega)
theorem flat_eq {α β : Type} {f : α → List β} {m : Nat} : ∀ {l : List α}, (∀ s ∈ l, (f s).length = m) → (l.flatMap f).length = m * l.length
  | [], _ => by simp
  | s :: r, h => by
    have h1 := h s (List.mem_cons_self ..)
    have h2 := flat_eq (l := r) fun x hx => h x (List.mem_cons_of_mem _ hx)
    rw [List.flatMap_cons, List.length_append, List.length_cons, Nat.mul_add]; omega
theorem flat_fix {m : Nat} : ∀ {l : List SecD}, (∀ s ∈ l, ∀ y ∈ s.fix, (fixHead y).length = 5) → (l.flatMap fixesHead).length = 5 * fixN l
  | [], _ => by simp [fixN]
  | s :: r, h => by
    have h1 := flat_eq (m := 5) (l := s.fix) (f := fixHead) fun y hy => h s (List.mem_cons_self ..) y hy
    have h2 := flat_fix (m := m) (l := r) fun x hx => h x (List.mem_cons_of_mem _ hx)
    have e : fixesHead s = s.fix.flatMap fixHead := rfl
    rw [List.flatMap_cons, List.length_append, e]
    simp only [fixN]; omega
theorem flat_byt : ∀ {l : List SecD}, (l.flatMap (·.bytes)).length = bytN l
  | [] => by simp [bytN]
  | s :: r => by
    have h2 := flat_byt (l := r)
    rw [List.flatMap_cons, List.length_append]
    simp only [bytN]; omega
/-- How many bytes the bytes of an object are. -/
theorem writeL_len {o : ObjD} (h : objB o = true) : (writeL o).length = 10 + 6 * o.secs.length + 6 * o.syms.length + 5 * fixN o.secs + (tableL (allNames o)).length + bytN o.secs := by
  have hf := objB_few h
  have hx := objB_fixN h o.secs.length
  rw [List.take_length] at hx
  have ht := tableL_length (allNames o)
  have ht1 : 1 ≤ (tableL (allNames o)).length := by rw [tableL_names (objB_names h)]; unfold tabOf; rw [List.length_cons]; omega
  have h1 : (headO o).length = 10 := by
    unfold headO putHead
    have hb : headerB (o.secs.length : Int) (o.syms.length : Int) (fixN o.secs : Int) ((tableL (allNames o)).length : Int) = true := by
      unfold headerB
      simp only [Bool.and_eq_true, withinB_iff]
      omega
    rw [if_pos hb]
    simp [leBytes_length]
  have h2 := flat_eq (m := 6) (l := o.secs) (f := secHead (tableL (allNames o))) fun s hs => by
    unfold secHead
    rw [List.length_append, place_two h (List.mem_append_left _ (List.mem_map.2 ⟨s, hs, rfl⟩))]
    rfl
  have h3 := flat_eq (m := 6) (l := o.syms) (f := symHead (tableL (allNames o))) fun s hs => by
    unfold symHead
    have hv := (objB_sym h hs).val
    rw [List.length_append, List.length_append, place_two h (List.mem_append_right _ (List.mem_map.2 ⟨s, hs, rfl⟩)), putNum_two hv.1 (by omega)]
    rfl
  have h4 := flat_fix (m := 0) (l := o.secs) fun s hs y hy => by
    unfold fixHead
    have hv := ((objB_sec h hs).fix y hy).add
    rw [List.length_append, putNum_two (by omega) (by omega)]
    rfl
  have h5 := flat_byt (l := o.secs)
  unfold writeL
  rw [if_pos h]
  unfold wr4 wr3 wr2 wr1
  simp only [List.take_length, List.length_append]
  omega
end Go.Proofs.Ythenijikmjffjaa
