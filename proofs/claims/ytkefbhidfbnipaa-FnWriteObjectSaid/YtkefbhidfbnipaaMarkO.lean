/- Marks written over what a call owns: bytes, fixups, symbols, sections, objects. -/
import Derived.Test.YtkefbhidfbnipaaMarkS
import Derived.Test.YtkefbhidfbnipaaObjX
namespace Go.Proofs.Ytkefbhidfbnipaa
open Go.ChangeShapes Go.WideShapes Go.ChangeAt Go.RowKit Go.Joins
set_option linter.unusedSimpArgs false
set_option linter.unusedVariables false
set_option maxRecDepth 100000
/-- Only the blocks that are listed may change. -/
structure Other (bs : List Nat) (w w' : World) : Prop where
  os : w'.os = w.os
  tape : w'.tape = w.tape
  output : w'.output = w.output
  size : w.heap.size ≤ w'.heap.size
  block : ∀ g, g < w.heap.size → g ∉ bs → w'.heap[g]? = w.heap[g]?
theorem Other.refl (bs : List Nat) (w : World) : Other bs w w := ⟨rfl, rfl, rfl, Nat.le_refl _, fun _ _ _ => rfl⟩
theorem Other.trans {bs : List Nat} {a b c : World} (h : Other bs a b) (k : Other bs b c) : Other bs a c :=
  ⟨k.os.trans h.os, k.tape.trans h.tape, k.output.trans h.output, Nat.le_trans h.size k.size, fun g hg hn => (k.block g (Nat.lt_of_lt_of_le hg h.size) hn).trans (h.block g hg hn)⟩
theorem Other.mono {bs cs : List Nat} {w w' : World} (h : Other bs w w') (hm : ∀ g ∈ bs, g ∈ cs) : Other cs w w' := ⟨h.os, h.tape, h.output, h.size, fun g hg hn => h.block g hg fun hb => hn (hm g hb)⟩
theorem Other.grown {bs : List Nat} {w w' : World} {row : Option Nat} (h : w.grownBy w' row) (hr : ∀ k, row = some k → k ∈ bs) : Other bs w w' :=
  ⟨h.os, h.tape, h.output, h.size, fun g hg hn => h.block g hg fun e => hn (hr g e.symm)⟩
theorem Other.below {bs : List Nat} {w w' : World} (h : Below w.heap.size w w') : Other bs w w' := ⟨h.os, h.tape, h.output, h.size, fun g hg _ => h.block g hg⟩
theorem Other.setCell {bs : List Nat} {w : World} {p : Addr} (hp : p.block ∈ bs) (u : Value) : Other bs w (w.setCell p u) :=
  ⟨rfl, rfl, rfl, by simp [World.setCell], fun g hg hn => Below.heap_setCell w p u g (fun e => hn (by rw [e]; exact hp))⟩
theorem From.other {B : Nat} {a w w' : World} {bs : List Nat} (h : From B a w) (ho : Other bs w w') (hB : ∀ g ∈ bs, B ≤ g) : From B a w' :=
  h.trans ⟨ho.os, ho.tape, ho.output, ho.size, fun g hg => ho.block g (Nat.lt_of_lt_of_le hg h.le) fun hb => by have := hB g hb; omega⟩
theorem owns_other {w w' : World} {base : Nat} {bs : List Nat} {e : TypeId} {size : Nat} {v : Value} {n : Nat} {xs : List Value} (h : w.ownsRow base e size v n xs) (ho : Other bs w w') (hd : ∀ k, v.ownBlock = some k → k ∉ bs) : w'.ownsRow base e size v n xs := by
  refine ⟨h.1, ?_⟩
  rcases h.2 with h2 | ⟨g, cap, cur, hv, hg, hh, r⟩
  · exact .inl h2
  · exact .inr ⟨g, cap, cur, hv, hg, (ho.block g (Array.getElem?_eq_some_iff.1 hh).1 (hd g (by rw [hv]; rfl))).trans hh, r⟩
theorem grown_set {w w1 : World} {g o : Nat} (h : w.grownBy w1 (some g)) (u : Value) : w.grownBy (w1.setCell ⟨g, o, none⟩ u) (some g) :=
  h.trans ⟨rfl, rfl, rfl, by simp [World.setCell], fun i _ hi => Below.heap_setCell w1 _ _ i (fun e => hi (by rw [e]))⟩
theorem grown_call {w w1 w2 : World} {row : Option Nat} (h : w.grownBy w1 row) (h2 : Below w1.heap.size w1 w2) : w.grownBy w2 row := h.trans ⟨h2.os, h2.tape, h2.output, h2.size, fun i hi _ => h2.block i hi⟩
theorem grown_none (w : World) (row : Option Nat) : w.grownBy w row := ⟨rfl, rfl, rfl, Nat.le_refl _, fun _ _ _ => rfl⟩
/-- A list of rows of as many cells each: one cell is changed. -/
theorem flat_set {α : Type} (f : α → List Value) (K : Nat) (hf : ∀ x, (f x).length = K) (D R : List α) (x x' : α) (j : Nat) (u : Value) (hj : j < K) (hx : f x' = (f x).set j u) :
    ((D ++ x :: R).flatMap f).set (D.length * K + j) u = (D ++ x' :: R).flatMap f := by
  rw [List.flatMap_append, List.flatMap_cons, List.flatMap_append, List.flatMap_cons, List.set_append_right _ _ (by rw [flat_length _ _ hf]; omega), flat_length _ _ hf, show D.length * K + j - D.length * K = j by omega, List.set_append_left _ _ (by rw [hf]; exact hj), hx]
theorem flat_at {α : Type} (f : α → List Value) (K : Nat) (hf : ∀ x, (f x).length = K) (D R : List α) (x : α) (j : Nat) (hj : j < K) :
    ((D ++ x :: R).flatMap f)[D.length * K + j]? = (f x)[j]? := by
  rw [List.flatMap_append, List.flatMap_cons, List.getElem?_append_right (by rw [flat_length _ _ hf]; omega), flat_length _ _ hf, show D.length * K + j - D.length * K = j by omega, List.getElem?_append_left (by rw [hf]; exact hj)]
/-- Fixups that mark. -/
def marksF (k : Nat) : Nat → List FixD
  | 0 => []
  | n + 1 => ((k : Int), ((k : Int) + 1), ((k : Int) + 1 + 1), ((k : Int) + 1 + 1 + 1)) :: marksF (k + 4) n
theorem marksF_length : ∀ (n k : Nat), (marksF k n).length = n
  | 0, k => rfl
  | n + 1, k => by simp [marksF, marksF_length n (k + 4)]
@[reducible] def fixL (f : FixD) : List Value := [.int .i64 f.1, .int .i64 f.2.1, .int .i64 f.2.2.1, .int .i64 f.2.2.2]
theorem fixL_length (f : FixD) : (fixL f).length = 4 := rfl
theorem fixCells_flat : ∀ l : List FixD, fixCells l = l.flatMap fixL
  | [] => rfl
  | f :: r => by rw [List.flatMap_cons, ← fixCells_flat r]; rfl
theorem fix_four (D R : List FixD) (x : FixD) (a b c d : Int) :
    (((((D ++ x :: R).flatMap fixL).set (D.length * 4) (.int .i64 a)).set (D.length * 4 + 1) (.int .i64 b)).set (D.length * 4 + 2) (.int .i64 c)).set (D.length * 4 + 3) (.int .i64 d) = (D ++ (a, b, c, d) :: R).flatMap fixL := by
  obtain ⟨x0, x1, x2, x3⟩ := x
  have e0 : ((D ++ (x0, x1, x2, x3) :: R).flatMap fixL).set (D.length * 4 + 0) (.int .i64 a) = (D ++ (a, x1, x2, x3) :: R).flatMap fixL := flat_set fixL 4 fixL_length D R _ _ 0 _ (by decide) rfl
  have e1 : ((D ++ (a, x1, x2, x3) :: R).flatMap fixL).set (D.length * 4 + 1) (.int .i64 b) = (D ++ (a, b, x2, x3) :: R).flatMap fixL := flat_set fixL 4 fixL_length D R _ _ 1 _ (by decide) rfl
  have e2 : ((D ++ (a, b, x2, x3) :: R).flatMap fixL).set (D.length * 4 + 2) (.int .i64 c) = (D ++ (a, b, c, x3) :: R).flatMap fixL := flat_set fixL 4 fixL_length D R _ _ 2 _ (by decide) rfl
  have e3 : ((D ++ (a, b, c, x3) :: R).flatMap fixL).set (D.length * 4 + 3) (.int .i64 d) = (D ++ (a, b, c, d) :: R).flatMap fixL := flat_set fixL 4 fixL_length D R _ _ 3 _ (by decide) rfl
  rw [Nat.add_zero] at e0
  rw [e0, e1, e2, e3]
/-- Symbols that mark. -/
def marksY (k : Nat) : Nat → List SymD
  | 0 => []
  | n + 1 => ⟨markB k, (k : Int) + 1, (k : Int) + 1 + 1, (k : Int) + 1 + 1 + 1⟩ :: marksY (k + 4) n
theorem marksY_length : ∀ (n k : Nat), (marksY k n).length = n
  | 0, k => rfl
  | n + 1, k => by simp [marksY, marksY_length n (k + 4)]
theorem sym_four (D R : List SymD) (x : SymD) (a : ByteArray) (b c d : Int) :
    (((((D ++ x :: R).flatMap symL).set (D.length * 4) (.string a)).set (D.length * 4 + 1) (.int .i64 b)).set (D.length * 4 + 2) (.int .i64 c)).set (D.length * 4 + 3) (.int .i64 d) = (D ++ (⟨a, b, c, d⟩ : SymD) :: R).flatMap symL := by
  obtain ⟨x0, x1, x2, x3⟩ := x
  have e0 : ((D ++ (⟨x0, x1, x2, x3⟩ : SymD) :: R).flatMap symL).set (D.length * 4 + 0) (.string a) = (D ++ (⟨a, x1, x2, x3⟩ : SymD) :: R).flatMap symL := flat_set symL 4 symL_length D R _ _ 0 _ (by decide) rfl
  have e1 : ((D ++ (⟨a, x1, x2, x3⟩ : SymD) :: R).flatMap symL).set (D.length * 4 + 1) (.int .i64 b) = (D ++ (⟨a, b, x2, x3⟩ : SymD) :: R).flatMap symL := flat_set symL 4 symL_length D R _ _ 1 _ (by decide) rfl
  have e2 : ((D ++ (⟨a, b, x2, x3⟩ : SymD) :: R).flatMap symL).set (D.length * 4 + 2) (.int .i64 c) = (D ++ (⟨a, b, c, x3⟩ : SymD) :: R).flatMap symL := flat_set symL 4 symL_length D R _ _ 2 _ (by decide) rfl
  have e3 : ((D ++ (⟨a, b, c, x3⟩ : SymD) :: R).flatMap symL).set (D.length * 4 + 3) (.int .i64 d) = (D ++ (⟨a, b, c, d⟩ : SymD) :: R).flatMap symL := flat_set symL 4 symL_length D R _ _ 3 _ (by decide) rfl
  rw [Nat.add_zero] at e0
  rw [e0, e1, e2, e3]
/-- Sections that mark. -/
def secStep (s : SecD) : Nat := 4 + s.bytes.length + 4 * s.fix.length
def secSteps : List SecD → Nat
  | [] => 0
  | s :: r => secStep s + secSteps r
def markSecD (k : Nat) (s : SecD) : SecD := ⟨markB k, (k : Int) + 1, (k : Int) + 1 + 1, marks (k + 3) s.bytes.length, ((k + 3 + s.bytes.length : Nat) : Int), marksF (k + 3 + s.bytes.length + 1) s.fix.length⟩
def markSecsD : Nat → List SecD → List SecD
  | _, [] => []
  | k, s :: r => markSecD k s :: markSecsD (k + secStep s) r
def markE : Nat → List (SecD × Value × Value) → List (SecD × Value × Value)
  | _, [] => []
  | k, x :: r => (markSecD k x.1, x.2) :: markE (k + secStep x.1) r
theorem markE_fst : ∀ (ls : List (SecD × Value × Value)) (k : Nat), (markE k ls).map (·.1) = markSecsD k (ls.map (·.1))
  | [], k => rfl
  | x :: r, k => by simp [markE, markSecsD, markE_fst r]
theorem markE_length : ∀ (ls : List (SecD × Value × Value)) (k : Nat), (markE k ls).length = ls.length
  | [], k => rfl
  | x :: r, k => by simp [markE, markE_length r]
theorem markE_blks : ∀ (ls : List (SecD × Value × Value)) (k : Nat), blksOf (markE k ls) = blksOf ls
  | [], k => rfl
  | x :: r, k => by have := markE_blks r (k + secStep x.1); simp only [blksOf, markE, List.flatMap_cons] at this ⊢; rw [this]
theorem nodup_parts {V D B F R : List Nat} (h : (V ++ (D ++ ((B ++ F) ++ R))).Nodup) :
    (∀ k ∈ B, k ∉ V ∧ k ∉ D ∧ k ∉ F ∧ k ∉ R) ∧ (∀ k ∈ F, k ∉ V ∧ k ∉ D ∧ k ∉ B ∧ k ∉ R) ∧ (∀ k ∈ V, k ∉ D ∧ k ∉ B ∧ k ∉ F ∧ k ∉ R) := by
  simp only [List.nodup_append, List.mem_append] at h
  refine ⟨fun k hk => ?_, fun k hk => ?_, fun k hk => ?_⟩ <;> grind
theorem blks_mid (D R : List (SecD × Value × Value)) (x : SecD × Value × Value) : blksOf (D ++ x :: R) = blksOf D ++ ((x.2.1.ownBlock.toList ++ x.2.2.ownBlock.toList) ++ blksOf R) := by
  simp [blksOf]
theorem blks_in {ls : List (SecD × Value × Value)} {y : SecD × Value × Value} (hy : y ∈ ls) {k : Nat} (hk : y.2.1.ownBlock = some k ∨ y.2.2.ownBlock = some k) : k ∈ blksOf ls := by
  refine List.mem_flatMap.2 ⟨y, hy, ?_⟩
  rw [List.mem_append, Option.mem_toList, Option.mem_toList]
  exact hk
/-- One section is another: what it keeps in its row has changed, or one of its parts. -/
theorem OwnSecs.swap {w w' : World} {base : Nat} {v : Value} {D R : List (SecD × Value × Value)} {x x' : SecD × Value × Value} (h : OwnSecs w base v (D ++ x :: R)) (h2 : x'.2 = x.2)
    {bs : List Nat} (ho : Other bs w w') (hD : ∀ k ∈ blksOf D, k ∉ bs) (hR : ∀ k ∈ blksOf R, k ∉ bs)
    (hrow : w'.ownsRow base 52 6 v (D ++ x :: R).length ((D ++ x' :: R).flatMap secL)) (hb : OwnB w' base x.2.1 x'.1.bytes) (hf : OwnF w' base x.2.2 x'.1.fix) : OwnSecs w' base v (D ++ x' :: R) := by
  refine ⟨by have := hrow; rw [List.length_append, List.length_cons] at this ⊢; exact this, fun y hy => ?_, ?_⟩
  · rcases List.mem_append.1 hy with hy | hy
    · have := h.each y (List.mem_append_left _ hy)
      exact ⟨owns_other this.1 ho fun k hk => hD k (blks_in hy (.inl hk)), owns_other this.2 ho fun k hk => hD k (blks_in hy (.inr hk))⟩
    · rcases List.mem_cons.1 hy with rfl | hy
      · rw [h2]; exact ⟨hb, hf⟩
      · have := h.each y (List.mem_append_right _ (List.mem_cons_of_mem _ hy))
        exact ⟨owns_other this.1 ho fun k hk => hR k (blks_in hy (.inl hk)), owns_other this.2 ho fun k hk => hR k (blks_in hy (.inr hk))⟩
  · have := h.nodup
    rw [blks_mid] at this ⊢
    rw [h2]
    exact this
theorem OwnSecs.parts {w : World} {base : Nat} {v : Value} {D R : List (SecD × Value × Value)} {x : SecD × Value × Value} (h : OwnSecs w base v (D ++ x :: R)) :
    (∀ k ∈ x.2.1.ownBlock.toList, k ∉ v.ownBlock.toList ∧ k ∉ blksOf D ∧ k ∉ x.2.2.ownBlock.toList ∧ k ∉ blksOf R) ∧ (∀ k ∈ x.2.2.ownBlock.toList, k ∉ v.ownBlock.toList ∧ k ∉ blksOf D ∧ k ∉ x.2.1.ownBlock.toList ∧ k ∉ blksOf R) ∧
      (∀ k ∈ v.ownBlock.toList, k ∉ blksOf D ∧ k ∉ x.2.1.ownBlock.toList ∧ k ∉ x.2.2.ownBlock.toList ∧ k ∉ blksOf R) := by
  have := h.nodup
  rw [blks_mid] at this
  exact nodup_parts this
/-- A cell of the row of one section is written. -/
theorem OwnSecs.put {w : World} {base g n cap : Nat} {D R : List (SecD × Value × Value)} {x : SecD × Value × Value} (h : OwnSecs w base (.slice (some ⟨g, 0, none⟩) n cap) (D ++ x :: R)) (hn : n = (D ++ x :: R).length) (x' : SecD × Value × Value) (j : Nat) (u : Value) (hj : j < 6)
    (hx : secL x' = (secL x).set j u) (h2 : x'.2 = x.2) (hb : x'.1.bytes = x.1.bytes) (hf : x'.1.fix = x.1.fix) : OwnSecs (w.setCell ⟨g, D.length * 6 + j, none⟩ u) base (.slice (some ⟨g, 0, none⟩) n cap) (D ++ x' :: R) := by
  subst hn
  obtain ⟨p1, p2, p3⟩ := h.parts
  have hg : ∀ k, k ∈ (Value.slice (some ⟨g, 0, none⟩) (D ++ x :: R).length cap).ownBlock.toList ↔ k = g := fun k => by simp [Value.ownBlock, eq_comm]
  have ho : Other [g] w (w.setCell ⟨g, D.length * 6 + j, none⟩ u) := Other.setCell (by simp) u
  have p4 := p3 g ((hg g).2 rfl)
  have hm := h.each x (by simp)
  refine h.swap h2 ho (fun k hk e => ?_) (fun k hk e => ?_) ?_ ?_ ?_
  · obtain rfl := List.mem_singleton.1 e; exact p4.1 hk
  · obtain rfl := List.mem_singleton.1 e; exact p4.2.2.2 hk
  · rw [← flat_set secL 6 secL_length D R x x' j u hj hx]
    exact (h.row.stored (D.length * 6 + j) u).1
  · rw [hb]; exact owns_other hm.1 ho fun k hk e => by obtain rfl := List.mem_singleton.1 e; exact p4.2.1 (by simpa using hk)
  · rw [hf]; exact owns_other hm.2 ho fun k hk e => by obtain rfl := List.mem_singleton.1 e; exact p4.2.2.1 (by simpa using hk)
/-- The bytes of one section are written over. -/
theorem OwnSecs.bytes {w w' : World} {base : Nat} {v : Value} {D R : List (SecD × Value × Value)} {x : SecD × Value × Value} (h : OwnSecs w base v (D ++ x :: R)) (b : List UInt8) (hl : b.length = x.1.bytes.length)
    (hg : w.grownBy w' x.2.1.ownBlock) (hb : OwnB w' base x.2.1 b) : OwnSecs w' base v (D ++ ({ x.1 with bytes := b }, x.2) :: R) := by
  obtain ⟨p1, p2, p3⟩ := h.parts
  have ho : Other x.2.1.ownBlock.toList w w' := Other.grown hg fun k hk => by simpa using hk
  have hm := h.each x (by simp)
  refine h.swap rfl ho (fun k hk e => (p1 k e).2.1 hk) (fun k hk e => (p1 k e).2.2.2 hk) ?_ hb ?_
  · have h1 := owns_other h.row ho fun k hk e => (p1 k e).1 (by simpa using hk)
    have e : (D ++ ({ x.1 with bytes := b }, x.2) :: R).flatMap secL = (D ++ x :: R).flatMap secL := by simp
    rw [e]; exact h1
  · exact owns_other hm.2 ho fun k hk e => (p1 k e).2.2.1 (by simpa using hk)
/-- The fixups of one section are written over. -/
theorem OwnSecs.fixups {w w' : World} {base : Nat} {v : Value} {D R : List (SecD × Value × Value)} {x : SecD × Value × Value} (h : OwnSecs w base v (D ++ x :: R)) (f : List FixD)
    (hg : w.grownBy w' x.2.2.ownBlock) (hf : OwnF w' base x.2.2 f) : OwnSecs w' base v (D ++ ({ x.1 with fix := f }, x.2) :: R) := by
  obtain ⟨p1, p2, p3⟩ := h.parts
  have ho : Other x.2.2.ownBlock.toList w w' := Other.grown hg fun k hk => by simpa using hk
  have hm := h.each x (by simp)
  refine h.swap rfl ho (fun k hk e => (p2 k e).2.1 hk) (fun k hk e => (p2 k e).2.2.2 hk) ?_ ?_ hf
  · have h1 := owns_other h.row ho fun k hk e => (p2 k e).1 (by simpa using hk)
    have e : (D ++ ({ x.1 with fix := f }, x.2) :: R).flatMap secL = (D ++ x :: R).flatMap secL := by simp
    rw [e]; exact h1
  · exact owns_other hm.1 ho fun k hk e => (p2 k e).2.2.1 (by simpa using hk)
theorem OwnSecs.cell {w : World} {base g n cap : Nat} {D R : List (SecD × Value × Value)} {x : SecD × Value × Value} (h : OwnSecs w base (.slice (some ⟨g, 0, none⟩) n cap) (D ++ x :: R)) (hn : n = (D ++ x :: R).length) (j : Nat) (u : Value) (hu : (secL x)[j]? = some u) :
    w.cell? ⟨g, D.length * 6 + j, none⟩ = some u := by
  subst hn
  have hj : j < 6 := by have := (List.getElem?_eq_some_iff.1 hu).1; rw [secL_length] at this; exact this
  have h1 := h.row.cellAt (D.length * 6 + j) (by rw [List.length_append, List.length_cons]; omega)
  rw [flat_at secL 6 secL_length _ _ _ _ hj, hu] at h1
  exact h1
theorem steps_len : ∀ l : List SecD, 4 * l.length ≤ secSteps l
  | [] => Nat.le_refl _
  | s :: r => by have := steps_len r; unfold secSteps secStep; rw [List.length_cons]; omega
/-- An object of the call's own, and the blocks that it lies in. -/
def OwnObjB (w : World) (base : Nat) (bs : List Nat) (v : Value) (o : ObjD) : Prop := ∃ vs vy ls, v = .agg #[vs, vy] ∧ o.secs = ls.map (·.1) ∧ OwnSecs w base vs ls ∧ OwnSyms w base vy o.syms ∧
  (∀ k, vy.ownBlock = some k → k ∉ vs.ownBlock.toList ++ blksOf ls) ∧ bs = (vs.ownBlock.toList ++ blksOf ls) ++ vy.ownBlock.toList
theorem OwnObj.blocks {w : World} {base : Nat} {v : Value} {o : ObjD} (h : OwnObj w base v o) : ∃ bs, OwnObjB w base bs v o := by
  obtain ⟨vs, vy, ls, h1, h2, h3, h4, h5⟩ := h
  exact ⟨_, vs, vy, ls, h1, h2, h3, h4, h5, rfl⟩
theorem OwnObjB.obj {w : World} {base : Nat} {bs : List Nat} {v : Value} {o : ObjD} (h : OwnObjB w base bs v o) : OwnObj w base v o := by
  obtain ⟨vs, vy, ls, h1, h2, h3, h4, h5, -⟩ := h
  exact ⟨vs, vy, ls, h1, h2, h3, h4, h5⟩
theorem OwnObjB.lt {w : World} {base : Nat} {bs : List Nat} {v : Value} {o : ObjD} (h : OwnObjB w base bs v o) : ∀ k ∈ bs, base ≤ k ∧ k < w.heap.size := by
  obtain ⟨vs, vy, ls, h1, h2, h3, h4, h5, rfl⟩ := h
  intro k hk
  rcases List.mem_append.1 hk with hk | hk
  · exact h3.lt k hk
  · exact World.ownsRow.lt h4 k (by simpa using hk)
theorem OwnSecs.other {w w' : World} {base : Nat} {cs : List Nat} {v : Value} {ls : List (SecD × Value × Value)} (h : OwnSecs w base v ls) (ho : Other cs w w') (hd : ∀ k ∈ v.ownBlock.toList ++ blksOf ls, k ∉ cs) : OwnSecs w' base v ls :=
  ⟨owns_other h.row ho fun k hk => hd k (List.mem_append_left _ (by simpa using hk)), fun y hy => ⟨owns_other (h.each y hy).1 ho fun k hk => hd k (List.mem_append_right _ (blks_in hy (.inl hk))), owns_other (h.each y hy).2 ho fun k hk => hd k (List.mem_append_right _ (blks_in hy (.inr hk)))⟩, h.nodup⟩
theorem OwnObjB.other {w w' : World} {base : Nat} {bs cs : List Nat} {v : Value} {o : ObjD} (h : OwnObjB w base bs v o) (ho : Other cs w w') (hd : ∀ k ∈ bs, k ∉ cs) : OwnObjB w' base bs v o := by
  obtain ⟨vs, vy, ls, h1, h2, h3, h4, h5, rfl⟩ := h
  exact ⟨vs, vy, ls, h1, h2, h3.other ho fun k hk => hd k (List.mem_append_left _ hk), owns_other h4 ho fun k hk => hd k (List.mem_append_right _ (by simpa using hk)), h5, rfl⟩
theorem OwnObjB.call {w w' : World} {base : Nat} {bs : List Nat} {v : Value} {o : ObjD} (h : OwnObjB w base bs v o) (hb : Below w.heap.size w w') : OwnObjB w' base bs v o :=
  h.other (Other.below (bs := []) hb) fun k hk => by simp
theorem OwnObjB.agg {w : World} {base : Nat} {bs : List Nat} {v : Value} {o : ObjD} (h : OwnObjB w base bs v o) : ∃ sa sc ya yc, v = .agg #[.slice sa o.secs.length sc, .slice ya o.syms.length yc] := by
  obtain ⟨vs, vy, ls, rfl, h2, h3, h4, h5, rfl⟩ := h
  obtain ⟨sa, sc, rfl⟩ := owns_form h3.row
  obtain ⟨ya, yc, rfl⟩ := owns_form h4
  exact ⟨sa, sc, ya, yc, by rw [h2, List.length_map]⟩
theorem Blk.otherB {w w' : World} {g : Nat} {c : Array Value} {t : TypeId} {cs : List Nat} (h : Blk w g c t) (ho : Other cs w w') (hd : g ∉ cs) : Blk w' g c t := (ho.block g h.lt hd).trans h
def markObjD (k : Nat) (o : ObjD) : ObjD := ⟨markSecsD k o.secs, marksY (k + secSteps o.secs) o.syms.length⟩
def objSteps (o : ObjD) : Nat := secSteps o.secs + 4 * o.syms.length
theorem secSteps_few : ∀ l : List SecD, (secSteps l : Int) ≤ 4 * ((l.length : Int) + secsCost l)
  | [] => by simp [secSteps, secsCost]
  | s :: r => by
    have := secSteps_few r
    have h0 : secCost s = secCost s := rfl
    unfold secSteps secsCost secStep
    rw [List.length_cons]
    unfold secCost
    omega
theorem steps_few {o : ObjD} (h : objCost o ≤ 1048576) : 1 + objSteps o ≤ 268435456 := by
  have h1 := secSteps_few o.secs
  have h2 := symsCost_nonneg o.syms
  have h3 := secsCost_nonneg o.secs
  unfold objCost at h
  unfold objSteps
  omega
end Go.Proofs.Ytkefbhidfbnipaa
