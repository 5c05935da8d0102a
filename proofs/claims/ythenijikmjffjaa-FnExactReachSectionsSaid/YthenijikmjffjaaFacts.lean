/- The head of the translation, read word by word; the closed facts that every statement's frame asks. -/
import Derived.Test.YthenijikmjffjaaBase
namespace Go.Proofs.Ythenijikmjffjaa
open Go.ChangeShapes Go.WideShapes Go.ChangeAt Go.RowKit Go.Joins
set_option linter.unusedSimpArgs false
set_option linter.unusedVariables false
set_option maxRecDepth 100000

theorem and2 {a b : Bool} (ha : a = true) (hb : b = true) : (a && b) = true := by rw [ha, hb]; rfl
/-- Words, a blank between. -/
def joinSp : List (List Nat) → List Nat
  | [] => []
  | [w] => w
  | w :: ws => w ++ 32 :: joinSp ws
def noBlank (w : List Nat) : Bool := w.all fun n => decide (n < 128) && decide (n ≠ 32)
theorem char_ne_blank {n : Nat} (h1 : n < 128) (h2 : n ≠ 32) : Char.ofNat n ≠ Char.ofNat 32 := by
  intro e
  have e2 : (Char.ofNat n).toNat = (Char.ofNat 32).toNat := by rw [e]
  have f : ∀ m, m < 128 → (Char.ofNat m).toNat = m := by
    intro m hm
    have hv : m.isValidChar := Or.inl (by omega)
    simp [Char.ofNat, hv, Char.toNat, Char.ofNatAux]
  rw [f n h1, f 32 (by omega)] at e2
  exact h2 e2
theorem signs_cons {c : Char} {r : List Char} (h : c ≠ Char.ofNat 32) : wordsSigns (c :: r) = match wordsSigns r with
    | w :: ws => (c :: w) :: ws
    | [] => [[c]] := by
  rw [wordsSigns] <;> first | rfl | exact h | (intro e; exact h e)
theorem signs_word : ∀ (w : List Nat) (r : List Char), noBlank w = true → wordsSigns (w.map Char.ofNat ++ Char.ofNat 32 :: r) = w.map Char.ofNat :: wordsSigns r
  | [], r, _ => rfl
  | n :: w, r, h => by
    simp only [noBlank, List.all_cons, Bool.and_eq_true, decide_eq_true_eq] at h
    have ih := signs_word w r h.2
    rw [List.map_cons, List.cons_append, signs_cons (char_ne_blank h.1.1 h.1.2), ih]
theorem signs_last : ∀ (w : List Nat), noBlank w = true → wordsSigns (w.map Char.ofNat) = [w.map Char.ofNat]
  | [], _ => rfl
  | n :: w, h => by
    simp only [noBlank, List.all_cons, Bool.and_eq_true, decide_eq_true_eq] at h
    have ih := signs_last w h.2
    rw [List.map_cons, signs_cons (char_ne_blank h.1.1 h.1.2), ih]
theorem signs_join : ∀ (ws : List (List Nat)), ws ≠ [] → ws.all noBlank = true → wordsSigns ((joinSp ws).map Char.ofNat) = ws.map (·.map Char.ofNat)
  | [], h, _ => absurd rfl h
  | [w], _, h => by
    simp only [List.all_cons, List.all_nil, Bool.and_true] at h
    exact signs_last w h
  | w :: w2 :: ws, _, h => by
    rw [List.all_cons, Bool.and_eq_true] at h
    have ih := signs_join (w2 :: ws) (by simp) h.2
    show wordsSigns ((w ++ 32 :: joinSp (w2 :: ws)).map Char.ofNat) = _
    rw [List.map_append, List.map_cons, signs_word w _ h.1, ih]
    rfl

/-- The head of the translation. -/
def headWords : List (List Nat) := [[104, 97, 114, 110, 101, 115, 115], [49, 56, 50, 54, 49, 48, 57, 53, 54, 97, 99, 50, 98, 55, 101, 53, 99, 49, 102, 100, 55, 55, 53, 55, 101, 101, 102, 102, 55, 51, 100, 48, 51, 53, 52, 53, 51, 50, 48, 50, 50, 100, 48, 52, 56, 54, 52, 49, 52, 98, 102, 57, 101, 53, 100, 53, 100, 52, 102, 102, 48, 56, 101, 57], [99, 117, 116], [97, 116], [108, 111, 111, 112, 46, 101, 120, 97, 109, 112, 108, 101, 47, 111, 98, 106, 101, 99, 116, 108, 105, 110, 107, 101, 114, 47, 108, 97, 119, 115, 46, 70, 110, 79, 98, 106, 101, 99, 116, 76, 101, 110, 103, 116, 104], [108, 111, 111, 112, 46, 101, 120, 97, 109, 112, 108, 101, 47, 111, 98, 106, 101, 99, 116, 108, 105, 110, 107, 101, 114, 47, 108, 97, 119, 115, 46, 70, 110, 69, 120, 97, 99, 116, 79, 98, 106, 101, 99, 116, 76, 101, 110, 103, 116, 104], [108, 111, 111, 112, 46, 101, 120, 97, 109, 112, 108, 101, 47, 111, 98, 106, 101, 99, 116, 108, 105, 110, 107, 101, 114, 47, 108, 97, 119, 115, 46, 70, 110, 72, 105, 100, 101, 78, 97, 109, 101, 115], [108, 111, 111, 112, 46, 101, 120, 97, 109, 112, 108, 101, 47, 111, 98, 106, 101, 99, 116, 108, 105, 110, 107, 101, 114, 47, 108, 97, 119, 115, 46, 70, 110, 69, 120, 97, 99, 116, 72, 105, 100, 101, 78, 97, 109, 101, 115], [108, 111, 111, 112, 46, 101, 120, 97, 109, 112, 108, 101, 47, 111, 98, 106, 101, 99, 116, 108, 105, 110, 107, 101, 114, 47, 108, 97, 119, 115, 46, 70, 110, 69, 120, 97, 99, 116, 83, 116, 114, 105, 112, 76, 111, 99, 97, 108, 115], [108, 111, 111, 112, 46, 101, 120, 97, 109, 112, 108, 101, 47, 111, 98, 106, 101, 99, 116, 108, 105, 110, 107, 101, 114, 47, 108, 97, 119, 115, 46, 70, 110, 69, 120, 97, 99, 116, 83, 116, 114, 105, 112, 87, 97, 110, 116, 101, 100], [108, 111, 111, 112, 46, 101, 120, 97, 109, 112, 108, 101, 47, 111, 98, 106, 101, 99, 116, 108, 105, 110, 107, 101, 114, 47, 108, 97, 119, 115, 46, 70, 110, 82, 101, 97, 99, 104, 83, 101, 99, 116, 105, 111, 110, 115], [108, 111, 111, 112, 46, 101, 120, 97, 109, 112, 108, 101, 47, 111, 98, 106, 101, 99, 116, 108, 105, 110, 107, 101, 114, 47, 108, 97, 119, 115, 46, 70, 110, 69, 120, 97, 99, 116, 82, 101, 97, 99, 104, 83, 101, 99, 116, 105, 111, 110, 115], [108, 111, 111, 112, 46, 101, 120, 97, 109, 112, 108, 101, 47, 111, 98, 106, 101, 99, 116, 108, 105, 110, 107, 101, 114, 47, 108, 97, 119, 115, 46, 70, 110, 87, 114, 105, 116, 101, 79, 98, 106, 101, 99, 116], [108, 111, 111, 112, 46, 101, 120, 97, 109, 112, 108, 101, 47, 111, 98, 106, 101, 99, 116, 108, 105, 110, 107, 101, 114, 47, 108, 97, 119, 115, 46, 70, 110, 75, 101, 101, 112, 83, 101, 99, 116, 105, 111, 110, 115], [108, 111, 111, 112, 46, 101, 120, 97, 109, 112, 108, 101, 47, 111, 98, 106, 101, 99, 116, 108, 105, 110, 107, 101, 114, 47, 108, 97, 119, 115, 46, 70, 110, 69, 120, 97, 99, 116, 75, 101, 101, 112, 83, 101, 99, 116, 105, 111, 110, 115]]
theorem head_list : Try.prog.initOrder = String.ofList ((joinSp headWords).map Char.ofNat) := by kernel_rfl
theorem head_words : wordsSigns Try.prog.initOrder.toList = headWords.map (·.map Char.ofNat) := by
  rw [head_list, String.toList_ofList]
  exact signs_join headWords (by intro h; cases h) (by kernel_rfl)
theorem head_behind : behindMainWord (wordsSigns Try.prog.initOrder.toList) = (headWords.drop 2).map (·.map Char.ofNat) := by
  rw [head_words]; kernel_rfl
theorem make_of (P : Program) (c : List Char) (rest : List (List Char)) (h : behindMainWord (wordsSigns P.initOrder.toList) = c :: rest) (h1 : (c == "gc".toList || c == "spec".toList) = false) (h2 : (c == "cut".toList) = true) : P.make = some .cut := by
  unfold Program.make
  rw [h]
  simp only [h1, h2, Bool.true_or, if_true, Bool.false_eq_true, if_false]
theorem may_of (P : Program) (c : List Char) (rest : List (List Char)) (h : behindMainWord (wordsSigns P.initOrder.toList) = c :: rest) (h1 : (stripLifts liftWords (c :: rest)).1 = []) (h2 : ((stripLifts liftWords (c :: rest)).2.head? == some "cut".toList) = true)
    (h3 : P.laysLater = false) (h4 : P.bearsReflect = false) (h5 : P.doorFits [] = true) : P.mayEnter = true := by
  unfold Program.mayEnter
  rw [h]
  simp only [h1, h2, h3, h4, h5, Bool.not_false, Bool.or_true, Bool.and_true, List.contains_nil, Bool.and_self, Bool.true_or]
theorem lifts_of (P : Program) (c : List Char) (rest : List (List Char)) (h : behindMainWord (wordsSigns P.initOrder.toList) = c :: rest) (h0 : P.headLifts = []) (h1 : (c == "carried".toList) = false) : P.liftsFinal = false := by
  unfold Program.liftsFinal
  rw [h, h0]
  simp only [List.head?_cons, Option.some_beq_some, h1, Bool.false_and, List.contains_nil, Bool.or_false]
/-- The first word behind the mark, and the rest. -/
def headC : List Char := [99, 117, 116].map Char.ofNat
def headR : List (List Char) := (headWords.drop 3).map (·.map Char.ofNat)
theorem head_split : behindMainWord (wordsSigns Try.prog.initOrder.toList) = headC :: headR := by
  rw [head_behind]; kernel_rfl
theorem c_gc : (headC == "gc".toList || headC == "spec".toList) = false := by kernel_rfl
theorem c_cut : (headC == "cut".toList) = true := by kernel_rfl
theorem c_carried : (headC == "carried".toList) = false := by kernel_rfl
theorem c_lifts : (stripLifts liftWords (headC :: headR)).1 = [] := by kernel_rfl
theorem c_cut2 : ((stripLifts liftWords (headC :: headR)).2.head? == some "cut".toList) = true := by kernel_rfl
theorem p_later : Try.prog.laysLater = false := by kernel_rfl
theorem p_reflect : Try.prog.bearsReflect = false := by kernel_rfl
theorem p_door : Try.prog.doorFits [] = true := by kernel_rfl
theorem head_lifts : Try.prog.headLifts = [] := by
  unfold Program.headLifts
  rw [head_behind]
  kernel_rfl
theorem make_cut : Try.prog.make = some .cut := make_of _ _ _ head_split c_gc c_cut
theorem lifts_final : Try.prog.liftsFinal = false := lifts_of _ _ _ head_split head_lifts c_carried
theorem may_enter : Try.prog.mayEnter = true := may_of _ _ _ head_split c_lifts c_cut2 p_later p_reflect p_door
end Go.Proofs.Ythenijikmjffjaa
