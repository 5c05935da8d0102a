/- Symbols, sections and objects in memory. -/
import Derived.Test.YthenijikmjffjaaSec
namespace Go.Proofs.Ythenijikmjffjaa
open Go.ChangeShapes Go.WideShapes Go.ChangeAt Go.RowKit Go.Joins
set_option linter.unusedSimpArgs false
set_option linter.unusedVariables false
set_option maxRecDepth 100000

/-- A symbol. -/
structure SymD where
  name : ByteArray
  bind : Int
  whr : Int
  val : Int
@[reducible] def symV (s : SymD) : Value := .agg #[.string s.name, .int .i64 s.bind, .int .i64 s.whr, .int .i64 s.val]
/-- An object. -/
structure ObjD where
  secs : List SecD
  syms : List SymD
/-- The cells of a list of things that have as many each. -/
theorem flat_get {α : Type} (f : α → List Value) (k : Nat) (hf : ∀ x, (f x).length = k) : ∀ (l : List α) (i j : Nat) (hi : i < l.length), j < k → (l.flatMap f)[i * k + j]? = (f l[i])[j]?
  | [], i, j, hi, _ => by simp at hi
  | x :: r, 0, j, hi, hj => by
    rw [List.flatMap_cons, List.getElem?_append_left (by rw [hf]; omega)]
    simp
  | x :: r, i + 1, j, hi, hj => by
    rw [List.flatMap_cons, List.getElem?_append_right (by rw [hf, Nat.add_mul]; omega), hf]
    rw [show (i + 1) * k + j - k = i * k + j by rw [Nat.add_mul]; omega]
    simpa using flat_get f k hf r i j (by simpa using hi) hj
theorem flat_length {α : Type} (f : α → List Value) (k : Nat) (hf : ∀ x, (f x).length = k) : ∀ l : List α, (l.flatMap f).length = l.length * k
  | [] => by simp
  | x :: r => by rw [List.flatMap_cons, List.length_append, hf, flat_length f k hf r, List.length_cons, Nat.add_mul]; omega
theorem flat_one {α : Type} (f : α → List Value) (h1 : ∀ x, ∀ u ∈ f x, u.oneCell' = true) (l : List α) : ∀ u ∈ l.flatMap f, u.oneCell' = true := by
  intro u hu
  obtain ⟨x, _, hx⟩ := List.mem_flatMap.1 hu
  exact h1 x u hx
/-- For a walk: a slice of things of k cells. -/
theorem reads_form {α : Type} {f : α → List Value} {k : Nat} (hf : ∀ x, (f x).length = k) {w : World} {v : Value} {l : List α} (h : Reads w k v l.length (l.flatMap f)) :
    ∃ (a : Option Addr) (cap : Nat), v = .slice a l.length cap ∧ l.length ≤ cap ∧ cap ≤ maxLen ∧ (a = none → cap = 0) ∧
      (0 < l.length → ∃ b off, a = some ⟨b, off, none⟩ ∧ ∀ i (hi : i < l.length) j u, (f l[i])[j]? = some u → w.cell? ⟨b, off + i * k + j, none⟩ = some u) := by
  obtain ⟨_, a, cap, rfl, h2, h3, h4, h5⟩ := h
  refine ⟨a, cap, rfl, h2, h3, h4, fun hn => ?_⟩
  obtain ⟨b, off, rfl, hc⟩ := h5 hn
  refine ⟨b, off, rfl, fun i hi j u hu => ?_⟩
  have hj : j < k := by have := (List.getElem?_eq_some_iff.1 hu).1; rwa [hf] at this
  have := hc (i * k + j) u (by rw [flat_get f k hf l i j hi hj]; exact hu)
  rwa [← Nat.add_assoc] at this
/-- A part of a slice. -/
theorem Reads.take {w : World} {k : Nat} {a : Option Addr} {n cap : Nat} {xs : List Value} (h : Reads w k (.slice a n cap) n xs) (m : Nat) (hm : m ≤ n) (c : Nat) (hc : m ≤ c) (hc2 : c ≤ cap) (hc3 : a = none → c = 0) : Reads w k (.slice a m c) m (xs.take (m * k)) := by
  obtain ⟨h1, a', cap', hv, h2, h3, h4, h5⟩ := h
  simp only [Value.slice.injEq] at hv
  obtain ⟨rfl, _, rfl⟩ := hv
  refine ⟨?_, a, c, rfl, hc, by omega, hc3, fun hn => ?_⟩
  · rw [List.length_take, h1]
    have : m * k ≤ n * k := Nat.mul_le_mul_right _ hm
    omega
  · obtain ⟨b, off, e, hcell⟩ := h5 (by omega)
    refine ⟨b, off, e, fun j u hu => hcell j u ?_⟩
    rw [List.getElem?_take] at hu
    split at hu
    · exact hu
    · cases hu

/-- The cells of a section whose bytes and fixups lie at two slices. -/
@[reducible] def secL (s : SecD × Value × Value) : List Value := [.string s.1.name, .int .i64 s.1.kind, .int .i64 s.1.align, s.2.1, .int .i64 s.1.size, s.2.2]
@[reducible] def symL (s : SymD) : List Value := [.string s.name, .int .i64 s.bind, .int .i64 s.whr, .int .i64 s.val]
theorem secL_length (s : SecD × Value × Value) : (secL s).length = 6 := rfl
theorem symL_length (s : SymD) : (symL s).length = 4 := rfl
/-- A slice of symbols. -/
def SymsAt (w : World) (v : Value) (l : List SymD) : Prop := Reads w 4 v l.length (l.flatMap symL)
theorem SymsAt.below {w w' : World} {v : Value} {l : List SymD} {B : Nat} (h : SymsAt w v l) (hB : w.heap.size ≤ B) (hb : Below B w w') : SymsAt w' v l := Reads.below h hB hb
/-- What lies behind the sections of a slice. -/
def SecsIn (w : World) (l : List (SecD × Value × Value)) : Prop := ∀ x ∈ l, BytesAt w x.2.1 x.1.bytes ∧ FixAt w x.2.2 x.1.fix
/-- A slice of sections; where the bytes and the fixups of each lie. -/
def SecsAtL (w : World) (v : Value) (l : List (SecD × Value × Value)) : Prop := Reads w 6 v l.length (l.flatMap secL) ∧ SecsIn w l
theorem SecsIn.below {w w' : World} {l : List (SecD × Value × Value)} {B : Nat} (h : SecsIn w l) (hB : w.heap.size ≤ B) (hb : Below B w w') : SecsIn w' l := fun x hx => ⟨(h x hx).1.below hB hb, (h x hx).2.below hB hb⟩
theorem SecsAtL.below {w w' : World} {v : Value} {l : List (SecD × Value × Value)} {B : Nat} (h : SecsAtL w v l) (hB : w.heap.size ≤ B) (hb : Below B w w') : SecsAtL w' v l := ⟨Reads.below h.1 hB hb, h.2.below hB hb⟩
def SecsAt (w : World) (v : Value) (l : List SecD) : Prop := ∃ ls, l = ls.map (·.1) ∧ SecsAtL w v ls
theorem SecsAt.below {w w' : World} {v : Value} {l : List SecD} {B : Nat} (h : SecsAt w v l) (hB : w.heap.size ≤ B) (hb : Below B w w') : SecsAt w' v l := by
  obtain ⟨ls, h1, h2⟩ := h
  exact ⟨ls, h1, h2.below hB hb⟩
/-- A value that reads as an object. -/
def ObjAt (w : World) (v : Value) (o : ObjD) : Prop := ∃ vs vy, v = .agg #[vs, vy] ∧ SecsAt w vs o.secs ∧ SymsAt w vy o.syms
theorem ObjAt.below {w w' : World} {v : Value} {o : ObjD} {B : Nat} (h : ObjAt w v o) (hB : w.heap.size ≤ B) (hb : Below B w w') : ObjAt w' v o := by
  obtain ⟨vs, vy, h1, h2, h3⟩ := h
  exact ⟨vs, vy, h1, h2.below hB hb, h3.below hB hb⟩
/-- For a walk: a slice of sections. -/
theorem SecsAt.form {w : World} {v : Value} {l : List SecD} (h : SecsAt w v l) :
    ∃ (a : Option Addr) (cap : Nat), v = .slice a l.length cap ∧ l.length ≤ cap ∧ cap ≤ maxLen ∧ (a = none → cap = 0) ∧
      (0 < l.length → ∃ b off, a = some ⟨b, off, none⟩ ∧ ∀ i (hi : i < l.length), ∃ vb vf, BytesAt w vb l[i].bytes ∧ FixAt w vf l[i].fix ∧
        w.cell? ⟨b, off + i * 6, none⟩ = some (.string l[i].name) ∧ w.cell? ⟨b, off + i * 6 + 1, none⟩ = some (.int .i64 l[i].kind) ∧ w.cell? ⟨b, off + i * 6 + 2, none⟩ = some (.int .i64 l[i].align) ∧
        w.cell? ⟨b, off + i * 6 + 3, none⟩ = some vb ∧ w.cell? ⟨b, off + i * 6 + 4, none⟩ = some (.int .i64 l[i].size) ∧ w.cell? ⟨b, off + i * 6 + 5, none⟩ = some vf) := by
  obtain ⟨ls, rfl, h1, h2⟩ := h
  obtain ⟨a, cap, rfl, h3, h4, h5, h6⟩ := reads_form secL_length h1
  refine ⟨a, cap, by rw [List.length_map], by rw [List.length_map]; exact h3, h4, h5, fun hn => ?_⟩
  obtain ⟨b, off, rfl, hc⟩ := h6 (by simpa using hn)
  refine ⟨b, off, rfl, fun i hi => ?_⟩
  have hi' : i < ls.length := by simpa using hi
  have hm := h2 ls[i] (List.getElem_mem hi')
  refine ⟨ls[i].2.1, ls[i].2.2, ?_, ?_, ?_⟩
  · rw [List.getElem_map]; exact hm.1
  · rw [List.getElem_map]; exact hm.2
  · rw [List.getElem_map]
    exact ⟨hc i hi' 0 _ rfl, hc i hi' 1 _ rfl, hc i hi' 2 _ rfl, hc i hi' 3 _ rfl, hc i hi' 4 _ rfl, hc i hi' 5 _ rfl⟩
theorem SymsAt.form {w : World} {v : Value} {l : List SymD} (h : SymsAt w v l) :
    ∃ (a : Option Addr) (cap : Nat), v = .slice a l.length cap ∧ l.length ≤ cap ∧ cap ≤ maxLen ∧ (a = none → cap = 0) ∧
      (0 < l.length → ∃ b off, a = some ⟨b, off, none⟩ ∧ ∀ i (hi : i < l.length),
        w.cell? ⟨b, off + i * 4, none⟩ = some (.string l[i].name) ∧ w.cell? ⟨b, off + i * 4 + 1, none⟩ = some (.int .i64 l[i].bind) ∧ w.cell? ⟨b, off + i * 4 + 2, none⟩ = some (.int .i64 l[i].whr) ∧
        w.cell? ⟨b, off + i * 4 + 3, none⟩ = some (.int .i64 l[i].val)) := by
  obtain ⟨a, cap, rfl, h3, h4, h5, h6⟩ := reads_form symL_length h
  refine ⟨a, cap, rfl, h3, h4, h5, fun hn => ?_⟩
  obtain ⟨b, off, rfl, hc⟩ := h6 hn
  exact ⟨b, off, rfl, fun i hi => ⟨hc i hi 0 _ rfl, hc i hi 1 _ rfl, hc i hi 2 _ rfl, hc i hi 3 _ rfl⟩⟩
end Go.Proofs.Ythenijikmjffjaa
