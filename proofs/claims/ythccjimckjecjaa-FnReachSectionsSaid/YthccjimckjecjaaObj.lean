/- Symbols, sections and objects in memory. Sections, symbols and objects: in memory of a call's own. -/
import Derived.Test.YthccjimckjecjaaSec
namespace Go.Proofs.Ythccjimckjecjaa
/-! Obj -/
open Go.ChangeShapes Go.WideShapes Go.ChangeAt Go.RowKit Go.Joins
set_option linter.unusedSimpArgs false
set_option linter.unusedVariables false
set_option maxRecDepth 100000

/-- A symbol. -/
structure SymD where
  name : ByteArray
  bind : Int
  whr : Int
  val : Int
@[reducible] def symV (s : SymD) : Value := .agg #[.string s.name, .int .i64 s.bind, .int .i64 s.whr, .int .i64 s.val]
/-- An object. -/
structure ObjD where
  secs : List SecD
  syms : List SymD
/-- The cells of a list of things that have as many each. -/
theorem flat_get {α : Type} (f : α → List Value) (k : Nat) (hf : ∀ x, (f x).length = k) : ∀ (l : List α) (i j : Nat) (hi : i < l.length), j < k → (l.flatMap f)[i * k + j]? = (f l[i])[j]?
  | [], i, j, hi, _ => by simp at hi
  | x :: r, 0, j, hi, hj => by
    rw [List.flatMap_cons, List.getElem?_append_left (by rw [hf]; omega)]
    simp
  | x :: r, i + 1, j, hi, hj => by
    rw [List.flatMap_cons, List.getElem?_append_right (by rw [hf, Nat.add_mul]; omega), hf]
    rw [show (i + 1) * k + j - k = i * k + j by rw [Nat.add_mul]; omega]
    simpa using flat_get f k hf r i j (by simpa using hi) hj
theorem flat_length {α : Type} (f : α → List Value) (k : Nat) (hf : ∀ x, (f x).length = k) : ∀ l : List α, (l.flatMap f).length = l.length * k
  | [] => by simp
  | x :: r => by rw [List.flatMap_cons, List.length_append, hf, flat_length f k hf r, List.length_cons, Nat.add_mul]; omega
theorem flat_one {α : Type} (f : α → List Value) (h1 : ∀ x, ∀ u ∈ f x, u.oneCell' = true) (l : List α) : ∀ u ∈ l.flatMap f, u.oneCell' = true := by
  intro u hu
  obtain ⟨x, _, hx⟩ := List.mem_flatMap.1 hu
  exact h1 x u hx
/-- For a walk: a slice of things of k cells. -/
theorem reads_form {α : Type} {f : α → List Value} {k : Nat} (hf : ∀ x, (f x).length = k) {w : World} {v : Value} {l : List α} (h : Reads w k v l.length (l.flatMap f)) :
    ∃ (a : Option Addr) (cap : Nat), v = .slice a l.length cap ∧ l.length ≤ cap ∧ cap ≤ maxLen ∧ (a = none → cap = 0) ∧
      (0 < l.length → ∃ b off, a = some ⟨b, off, none⟩ ∧ ∀ i (hi : i < l.length) j u, (f l[i])[j]? = some u → w.cell? ⟨b, off + i * k + j, none⟩ = some u) := by
  obtain ⟨_, a, cap, rfl, h2, h3, h4, h5⟩ := h
  refine ⟨a, cap, rfl, h2, h3, h4, fun hn => ?_⟩
  obtain ⟨b, off, rfl, hc⟩ := h5 hn
  refine ⟨b, off, rfl, fun i hi j u hu => ?_⟩
  have hj : j < k := by have := (List.getElem?_eq_some_iff.1 hu).1; rwa [hf] at this
  have := hc (i * k + j) u (by rw [flat_get f k hf l i j hi hj]; exact hu)
  rwa [← Nat.add_assoc] at this
/-- A part of a slice. -/
theorem Reads.take {w : World} {k : Nat} {a : Option Addr} {n cap : Nat} {xs : List Value} (h : Reads w k (.slice a n cap) n xs) (m : Nat) (hm : m ≤ n) (c : Nat) (hc : m ≤ c) (hc2 : c ≤ cap) (hc3 : a = none → c = 0) : Reads w k (.slice a m c) m (xs.take (m * k)) := by
  obtain ⟨h1, a', cap', hv, h2, h3, h4, h5⟩ := h
  simp only [Value.slice.injEq] at hv
  obtain ⟨rfl, _, rfl⟩ := hv
  refine ⟨?_, a, c, rfl, hc, by omega, hc3, fun hn => ?_⟩
  · rw [List.length_take, h1]
    have : m * k ≤ n * k := Nat.mul_le_mul_right _ hm
    omega
  · obtain ⟨b, off, e, hcell⟩ := h5 (by omega)
    refine ⟨b, off, e, fun j u hu => hcell j u ?_⟩
    rw [List.getElem?_take] at hu
    split at hu
    · exact hu
    · cases hu

/-- The cells of a section whose bytes and fixups lie at two slices. -/
@[reducible] def secL (s : SecD × Value × Value) : List Value := [.string s.1.name, .int .i64 s.1.kind, .int .i64 s.1.align, s.2.1, .int .i64 s.1.size, s.2.2]
@[reducible] def symL (s : SymD) : List Value := [.string s.name, .int .i64 s.bind, .int .i64 s.whr, .int .i64 s.val]
theorem secL_length (s : SecD × Value × Value) : (secL s).length = 6 := rfl
theorem symL_length (s : SymD) : (symL s).length = 4 := rfl
/-- A slice of symbols. -/
def SymsAt (w : World) (v : Value) (l : List SymD) : Prop := Reads w 4 v l.length (l.flatMap symL)
theorem SymsAt.below {w w' : World} {v : Value} {l : List SymD} {B : Nat} (h : SymsAt w v l) (hB : w.heap.size ≤ B) (hb : Below B w w') : SymsAt w' v l := Reads.below h hB hb
/-- What lies behind the sections of a slice. -/
def SecsIn (w : World) (l : List (SecD × Value × Value)) : Prop := ∀ x ∈ l, BytesAt w x.2.1 x.1.bytes ∧ FixAt w x.2.2 x.1.fix
/-- A slice of sections; where the bytes and the fixups of each lie. -/
def SecsAtL (w : World) (v : Value) (l : List (SecD × Value × Value)) : Prop := Reads w 6 v l.length (l.flatMap secL) ∧ SecsIn w l
theorem SecsIn.below {w w' : World} {l : List (SecD × Value × Value)} {B : Nat} (h : SecsIn w l) (hB : w.heap.size ≤ B) (hb : Below B w w') : SecsIn w' l := fun x hx => ⟨(h x hx).1.below hB hb, (h x hx).2.below hB hb⟩
theorem SecsAtL.below {w w' : World} {v : Value} {l : List (SecD × Value × Value)} {B : Nat} (h : SecsAtL w v l) (hB : w.heap.size ≤ B) (hb : Below B w w') : SecsAtL w' v l := ⟨Reads.below h.1 hB hb, h.2.below hB hb⟩
def SecsAt (w : World) (v : Value) (l : List SecD) : Prop := ∃ ls, l = ls.map (·.1) ∧ SecsAtL w v ls
theorem SecsAt.below {w w' : World} {v : Value} {l : List SecD} {B : Nat} (h : SecsAt w v l) (hB : w.heap.size ≤ B) (hb : Below B w w') : SecsAt w' v l := by
  obtain ⟨ls, h1, h2⟩ := h
  exact ⟨ls, h1, h2.below hB hb⟩
/-- A value that reads as an object. -/
def ObjAt (w : World) (v : Value) (o : ObjD) : Prop := ∃ vs vy, v = .agg #[vs, vy] ∧ SecsAt w vs o.secs ∧ SymsAt w vy o.syms
theorem ObjAt.below {w w' : World} {v : Value} {o : ObjD} {B : Nat} (h : ObjAt w v o) (hB : w.heap.size ≤ B) (hb : Below B w w') : ObjAt w' v o := by
  obtain ⟨vs, vy, h1, h2, h3⟩ := h
  exact ⟨vs, vy, h1, h2.below hB hb, h3.below hB hb⟩
/-- For a walk: a slice of sections. -/
theorem SecsAt.form {w : World} {v : Value} {l : List SecD} (h : SecsAt w v l) :
    ∃ (a : Option Addr) (cap : Nat), v = .slice a l.length cap ∧ l.length ≤ cap ∧ cap ≤ maxLen ∧ (a = none → cap = 0) ∧
      (0 < l.length → ∃ b off, a = some ⟨b, off, none⟩ ∧ ∀ i (hi : i < l.length), ∃ vb vf, BytesAt w vb l[i].bytes ∧ FixAt w vf l[i].fix ∧
        w.cell? ⟨b, off + i * 6, none⟩ = some (.string l[i].name) ∧ w.cell? ⟨b, off + i * 6 + 1, none⟩ = some (.int .i64 l[i].kind) ∧ w.cell? ⟨b, off + i * 6 + 2, none⟩ = some (.int .i64 l[i].align) ∧
        w.cell? ⟨b, off + i * 6 + 3, none⟩ = some vb ∧ w.cell? ⟨b, off + i * 6 + 4, none⟩ = some (.int .i64 l[i].size) ∧ w.cell? ⟨b, off + i * 6 + 5, none⟩ = some vf) := by
  obtain ⟨ls, rfl, h1, h2⟩ := h
  obtain ⟨a, cap, rfl, h3, h4, h5, h6⟩ := reads_form secL_length h1
  refine ⟨a, cap, by rw [List.length_map], by rw [List.length_map]; exact h3, h4, h5, fun hn => ?_⟩
  obtain ⟨b, off, rfl, hc⟩ := h6 (by simpa using hn)
  refine ⟨b, off, rfl, fun i hi => ?_⟩
  have hi' : i < ls.length := by simpa using hi
  have hm := h2 ls[i] (List.getElem_mem hi')
  refine ⟨ls[i].2.1, ls[i].2.2, ?_, ?_, ?_⟩
  · rw [List.getElem_map]; exact hm.1
  · rw [List.getElem_map]; exact hm.2
  · rw [List.getElem_map]
    exact ⟨hc i hi' 0 _ rfl, hc i hi' 1 _ rfl, hc i hi' 2 _ rfl, hc i hi' 3 _ rfl, hc i hi' 4 _ rfl, hc i hi' 5 _ rfl⟩
theorem SymsAt.form {w : World} {v : Value} {l : List SymD} (h : SymsAt w v l) :
    ∃ (a : Option Addr) (cap : Nat), v = .slice a l.length cap ∧ l.length ≤ cap ∧ cap ≤ maxLen ∧ (a = none → cap = 0) ∧
      (0 < l.length → ∃ b off, a = some ⟨b, off, none⟩ ∧ ∀ i (hi : i < l.length),
        w.cell? ⟨b, off + i * 4, none⟩ = some (.string l[i].name) ∧ w.cell? ⟨b, off + i * 4 + 1, none⟩ = some (.int .i64 l[i].bind) ∧ w.cell? ⟨b, off + i * 4 + 2, none⟩ = some (.int .i64 l[i].whr) ∧
        w.cell? ⟨b, off + i * 4 + 3, none⟩ = some (.int .i64 l[i].val)) := by
  obtain ⟨a, cap, rfl, h3, h4, h5, h6⟩ := reads_form symL_length h
  refine ⟨a, cap, rfl, h3, h4, h5, fun hn => ?_⟩
  obtain ⟨b, off, rfl, hc⟩ := h6 hn
  exact ⟨b, off, rfl, fun i hi => ⟨hc i hi 0 _ rfl, hc i hi 1 _ rfl, hc i hi 2 _ rfl, hc i hi 3 _ rfl⟩⟩
/-! ObjW -/
open Go.ChangeShapes Go.WideShapes Go.ChangeAt Go.RowKit Go.Joins
set_option linter.unusedSimpArgs false
set_option linter.unusedVariables false
set_option maxRecDepth 100000

theorem toList_madeK (z : Array Value) (K : Nat) (hK : z.size = K) (hz : 0 < K) (m : Nat) : (madeCells z (m * K)).toList = (List.replicate m ()).flatMap fun _ => z.toList := by
  subst hK
  have hf : ∀ x : Unit, ((fun _ : Unit => z.toList) x).length = z.size := fun _ => by simp
  apply List.ext_getElem?
  intro i
  by_cases hi : i < m * z.size
  · have h1 : i / z.size < m := by rw [Nat.div_lt_iff_lt_mul hz]; exact hi
    have h2 : i % z.size < z.size := Nat.mod_lt _ hz
    have h3 := flat_get (fun _ : Unit => z.toList) z.size hf (List.replicate m ()) (i / z.size) (i % z.size) (by simpa using h1) h2
    rw [show i / z.size * z.size + i % z.size = i by rw [Nat.mul_comm]; exact Nat.div_add_mod i z.size] at h3
    rw [h3]
    simp [madeCells, hi, h2]
  · rw [List.getElem?_eq_none (by simp [madeCells]; omega), List.getElem?_eq_none (by rw [flat_length _ z.size hf]; simp; omega)]
theorem set_six (a b c d e f z0 z1 z2 z3 z4 z5 : Value) (R : List Value) : ∀ (A : List Value),
    ((((((A ++ z0 :: z1 :: z2 :: z3 :: z4 :: z5 :: R).set A.length a).set (A.length + 1) b).set (A.length + 2) c).set (A.length + 3) d).set (A.length + 4) e).set (A.length + 5) f = A ++ a :: b :: c :: d :: e :: f :: R
  | [] => rfl
  | x :: r => by
    have ih := set_six a b c d e f z0 z1 z2 z3 z4 z5 R r
    simp only [List.length_cons, List.cons_append, Nat.add_right_comm _ 1, List.set_cons_succ]
    rw [ih]
theorem set_quad (a b c d z0 z1 z2 z3 : Value) (R : List Value) : ∀ (A : List Value),
    ((((A ++ z0 :: z1 :: z2 :: z3 :: R).set A.length a).set (A.length + 1) b).set (A.length + 2) c).set (A.length + 3) d = A ++ a :: b :: c :: d :: R
  | [] => rfl
  | x :: r => by
    have ih := set_quad a b c d z0 z1 z2 z3 R r
    simp only [List.length_cons, List.cons_append, Nat.add_right_comm _ 1, List.set_cons_succ]
    rw [ih]
theorem info_sec : (Try.prog.info? 69).map (fun i => (i.zero, i.size, i.bytes)) = some (some (.agg #[.string ⟨#[]⟩, .int .i64 0, .int .i64 0, .slice none 0 0, .int .i64 0, .slice none 0 0]), 6, 88) := by kernel_rfl
theorem info_sym : (Try.prog.info? 78).map (fun i => (i.zero, i.size, i.bytes)) = some (some (.agg #[.string ⟨#[]⟩, .int .i64 0, .int .i64 0, .int .i64 0]), 4, 40) := by kernel_rfl

/-- The blocks of what lies behind sections. -/
def blksOf (ls : List (SecD × Value × Value)) : List Nat := ls.flatMap fun x => x.2.1.ownBlock.toList ++ x.2.2.ownBlock.toList
theorem blksOf_append (l k : List (SecD × Value × Value)) : blksOf (l ++ k) = blksOf l ++ blksOf k := by simp [blksOf]
/-- Sections that the call owns, no two parts of them in one block. -/
structure OwnSecs (w : World) (base : Nat) (v : Value) (ls : List (SecD × Value × Value)) : Prop where
  row : w.ownsRow base 69 6 v ls.length (ls.flatMap secL)
  each : ∀ x ∈ ls, OwnB w base x.2.1 x.1.bytes ∧ OwnF w base x.2.2 x.1.fix
  nodup : (v.ownBlock.toList ++ blksOf ls).Nodup
/-- Symbols that the call owns. -/
def OwnSyms (w : World) (base : Nat) (v : Value) (l : List SymD) : Prop := w.ownsRow base 78 4 v l.length (l.flatMap symL)
theorem OwnSyms.reads {w : World} {base : Nat} {v : Value} {l : List SymD} (h : OwnSyms w base v l) : SymsAt w v l := reads_of_owns h
theorem OwnSecs.reads {w : World} {base : Nat} {v : Value} {ls : List (SecD × Value × Value)} (h : OwnSecs w base v ls) : SecsAtL w v ls := ⟨reads_of_owns h.row, fun x hx => ⟨(h.each x hx).1.reads, (h.each x hx).2.reads⟩⟩
theorem OwnSecs.at {w : World} {base : Nat} {v : Value} {ls : List (SecD × Value × Value)} (h : OwnSecs w base v ls) : SecsAt w v (ls.map (·.1)) := ⟨ls, rfl, h.reads⟩
theorem OwnSecs.call {w w' : World} {base : Nat} {v : Value} {ls : List (SecD × Value × Value)} (h : OwnSecs w base v ls) (hb : Below w.heap.size w w') : OwnSecs w' base v ls :=
  ⟨owns_call h.row hb, fun x hx => ⟨owns_call (h.each x hx).1 hb, owns_call (h.each x hx).2 hb⟩, h.nodup⟩
theorem OwnSecs.mono {w : World} {base base' : Nat} {v : Value} {ls : List (SecD × Value × Value)} (h : OwnSecs w base v ls) (hb : base' ≤ base) : OwnSecs w base' v ls :=
  ⟨owns_mono h.row hb, fun x hx => ⟨owns_mono (h.each x hx).1 hb, owns_mono (h.each x hx).2 hb⟩, h.nodup⟩
theorem OwnSecs.setBelow {w : World} {base : Nat} {v : Value} {ls : List (SecD × Value × Value)} (h : OwnSecs w base v ls) {a : Addr} (ha : a.block < base) (u : Value) : OwnSecs (w.setCell a u) base v ls :=
  ⟨ownsRow_setCell_below h.row ha u, fun x hx => ⟨ownsRow_setCell_below (h.each x hx).1 ha u, ownsRow_setCell_below (h.each x hx).2 ha u⟩, h.nodup⟩
theorem OwnSecs.lt {w : World} {base : Nat} {v : Value} {ls : List (SecD × Value × Value)} (h : OwnSecs w base v ls) : ∀ k ∈ v.ownBlock.toList ++ blksOf ls, base ≤ k ∧ k < w.heap.size := by
  intro k hk
  rcases List.mem_append.1 hk with hk | hk
  · exact h.row.lt k (by simpa using hk)
  · obtain ⟨x, hx, hk⟩ := List.mem_flatMap.1 hk
    rcases List.mem_append.1 hk with hk | hk
    · exact (h.each x hx).1.lt k (by simpa using hk)
    · exact (h.each x hx).2.lt k (by simpa using hk)
theorem blks_snoc {ls : List (SecD × Value × Value)} {x : SecD × Value × Value} {B m : Nat} (hn : (blksOf ls).Nodup) (hlt : ∀ k ∈ blksOf ls, k < B) (hb : ∀ k, x.2.1.ownBlock = some k → B ≤ k ∧ k < m) (hf : ∀ k, x.2.2.ownBlock = some k → m ≤ k) (hm : B ≤ m) : (blksOf (ls ++ [x])).Nodup := by
  rw [blksOf_append]
  refine List.nodup_append.2 ⟨hn, ?_, fun a ha c hc e => ?_⟩
  · simp only [blksOf, List.flatMap_cons, List.flatMap_nil, List.append_nil]
    refine List.nodup_append.2 ⟨?_, ?_, fun a ha c hc e => ?_⟩
    · cases x.2.1.ownBlock <;> simp
    · cases x.2.2.ownBlock <;> simp
    · have h1 := hb a (by simpa using ha)
      have h2 := hf c (by simpa using hc)
      omega
  · have h0 := hlt a ha
    simp only [blksOf, List.flatMap_cons, List.flatMap_nil, List.append_nil, List.mem_append] at hc
    rcases hc with hc | hc
    · have h1 := hb c (by simpa using hc)
      omega
    · have h2 := hf c (by simpa using hc)
      omega
/-- An object of a call's own: no two parts of it in one block. -/
def OwnObj (w : World) (base : Nat) (v : Value) (o : ObjD) : Prop := ∃ vs vy ls, v = .agg #[vs, vy] ∧ o.secs = ls.map (·.1) ∧ OwnSecs w base vs ls ∧ OwnSyms w base vy o.syms ∧ ∀ k, vy.ownBlock = some k → k ∉ vs.ownBlock.toList ++ blksOf ls
theorem OwnObj.reads {w : World} {base : Nat} {v : Value} {o : ObjD} (h : OwnObj w base v o) : ObjAt w v o := by
  obtain ⟨vs, vy, ls, rfl, h1, h2, h3, _⟩ := h
  exact ⟨vs, vy, rfl, ⟨ls, h1, h2.reads⟩, h3.reads⟩
theorem OwnObj.call {w w' : World} {base : Nat} {v : Value} {o : ObjD} (h : OwnObj w base v o) (hb : Below w.heap.size w w') : OwnObj w' base v o := by
  obtain ⟨vs, vy, ls, rfl, h1, h2, h3, h4⟩ := h
  exact ⟨vs, vy, ls, rfl, h1, h2.call hb, owns_call h3 hb, h4⟩

/-- The value of an object, spelled out. -/
theorem ObjAt.agg {w : World} {v : Value} {o : ObjD} (h : ObjAt w v o) : ∃ ra rc rb rd, v = .agg #[.slice ra o.secs.length rc, .slice rb o.syms.length rd] := by
  obtain ⟨vs, vy, rfl, hs, hy⟩ := h
  obtain ⟨ra, rc, rfl, -⟩ := hs.form
  obtain ⟨rb, rd, rfl, -⟩ := hy.form
  exact ⟨ra, rc, rb, rd, rfl⟩
/-- What a function ends in that hands back sections of its own. -/
def RetSecs (w : World) (l : List SecD) (e : Ending) (w' : World) : Prop := ∃ r ls, e = .returned r ∧ l = ls.map (·.1) ∧ OwnSecs w' w.heap.size r ls ∧ Below w.heap.size w w'
set_option maxHeartbeats 1000000 in
theorem toSectionS_any (w : World) (v : Value) (l : List SecD) (h : SecsAt w v l) (hl : l.length ≤ 1048576) (hb : ∀ s ∈ l, s.bytes.length ≤ 1073741824 ∧ s.fix.length ≤ 1073741824) :
    Calls Try.prog 68 #[v] w (RetSecs w l) := by
  obtain ⟨a, cap, rfl, hcap, hmax, hnone, hcell⟩ := h.form
  obtain ⟨i0, hi, hz0, hz1, hz2⟩ := info_parts info_sec
  have HH := Lib.hid hcell
  have HB := Lib.hid hb
  clear h hcell hnone hb
  go_enter Try.func68, Try.ntmps68
  go_wp2_with (at_make; refine wpList_make_full _ rfl _ _ 23 rfl w.heap.size 69 i0 _ 6 Try.underlying23 hi hz0 hz1 _ _ _ _ l.length rfl rfl rfl rfl ?c1 ?c2 ?c3 ?_)
  case c1 => rw [hz2]; omega
  case c2 => unfold maxLen; omega
  case c3 => exact Nat.le_refl _
  intro w1 hown hgr
  have F1 := (From.start w).grown hgr (fun k h => by cases h)
  have HO1 : Hid (w1.ownsRow w.heap.size 69 6 (.slice (some ⟨w.heap.size, 0, none⟩) l.length l.length) l.length (([] : List (SecD × Value × Value)).flatMap secL ++ (List.replicate (l.length - 0) ()).flatMap fun _ => [.string ⟨#[]⟩, .int .i64 0, .int .i64 0, .slice none 0 0, .int .i64 0, .slice none 0 0])) := Lib.hid (by
    have := hown
    rw [toList_madeK _ 6 rfl (by decide)] at this
    simpa using this)
  have HZ1 : w.heap.size < w1.heap.size := hown.lt _ rfl |>.2
  clear hgr hown
  go_wp2_with fail
  go_loopw [4] (fun i wr => ∃ (k : Nat) (ls : List (SecD × Value × Value)), k ≤ l.length ∧ i = .int .i64 k ∧ Hid (l.take k = ls.map (·.1)) ∧
      Hid (wr.ownsRow w.heap.size 69 6 (.slice (some ⟨w.heap.size, 0, none⟩) l.length l.length) l.length (ls.flatMap secL ++ (List.replicate (l.length - k) ()).flatMap fun _ => [.string ⟨#[]⟩, .int .i64 0, .int .i64 0, .slice none 0 0, .int .i64 0, .slice none 0 0])) ∧
      Hid (∀ x ∈ ls, OwnB wr (w.heap.size + 1) x.2.1 x.1.bytes ∧ OwnF wr (w.heap.size + 1) x.2.2 x.1.fix) ∧ Hid (blksOf ls).Nodup ∧ Hid (From w.heap.size w wr)) (fun i _ => l.length - (intOf i).toNat)
  case atStart => exact ⟨0, [], Nat.zero_le _, rfl, by show _ = _; simp, HO1, (fun x hx => by cases hx), by show List.Nodup _; simp [blksOf], F1⟩
  case round =>
    clear HO1 F1
    obtain ⟨k, ls, hk, rfl, HL, HO, HE, HN, HF⟩ := hrel
    by_cases hlt : k < l.length
    · obtain ⟨b, off, rfl, hc⟩ := HH.out (by omega)
      obtain ⟨vb, vf, hb, hf, c0, c1, c2, c3, c4, c5⟩ := hc k hlt
      have hbl : b < w.heap.size := World.block_lt_of_cell? w _ c0
      have g0 := (HF.out.below.cell (p := ⟨b, off + k * 6, none⟩) hbl).trans c0
      have g1 := (HF.out.below.cell (p := ⟨b, off + k * 6 + 1, none⟩) hbl).trans c1
      have g2 := (HF.out.below.cell (p := ⟨b, off + k * 6 + 2, none⟩) hbl).trans c2
      have g3 := (HF.out.below.cell (p := ⟨b, off + k * 6 + 3, none⟩) hbl).trans c3
      have g4 := (HF.out.below.cell (p := ⟨b, off + k * 6 + 4, none⟩) hbl).trans c4
      have g5 := (HF.out.below.cell (p := ⟨b, off + k * 6 + 5, none⟩) hbl).trans c5
      have HS : Hid (SecAt wr (secV l[k] vb vf) l[k]) := ⟨vb, vf, rfl, hb.below (Nat.le_refl _) HF.out.below, hf.below (Nat.le_refl _) HF.out.below⟩
      have HT : Hid (l.take (k + 1) = ls.map (·.1) ++ [l[k]]) := by show _ = _; rw [List.take_succ_eq_append_getElem hlt, HL.out]
      have HBk := HB.out l[k] (List.getElem_mem hlt)
      have hlen : ls.length = k := by have := congrArg List.length HL.out; simp at this; omega
      clear hc c0 c1 c2 c3 c4 c5 hb hf HL
      generalize l[k] = x at *
      go_wp2_with fail
      refine (toSection_own _ (secV x vb vf) x HS.out HBk.1 HBk.2).mono ?_
      rintro e w2 ⟨vb2, vf2, m, rfl, ob, hm1, of, hm2, h2⟩
      obtain ⟨ra, rc, rfl⟩ := owns_form ob
      obtain ⟨rb, rd, rfl⟩ := owns_form of
      have zr : w.heap.size < wr.heap.size := (HO.out.lt _ rfl).2
      have HF2 := Lib.hid (HF.out.call h2)
      have hown2 := owns_call HO.out h2
      have HO2 := Lib.hid hown2
      have hcells : ∀ j, j < 6 → ∃ u, w2.cell? ⟨w.heap.size, k * 6 + j, none⟩ = some u := fun j hj =>
        ⟨_, (hown2.cellAt (k * 6 + j) (by omega)).trans (List.getElem?_eq_getElem (by rw [hown2.1]; omega))⟩
      obtain ⟨u0, d0⟩ := hcells 0 (by omega)
      rw [Nat.add_zero] at d0
      obtain ⟨u1, d1⟩ := hcells 1 (by omega)
      obtain ⟨u2, d2⟩ := hcells 2 (by omega)
      obtain ⟨u3, d3⟩ := hcells 3 (by omega)
      obtain ⟨u4, d4⟩ := hcells 4 (by omega)
      obtain ⟨u5, d5⟩ := hcells 5 (by omega)
      have f0 := hown2.frozenAt (k * 6)
      have f1 := hown2.frozenAt (k * 6 + 1)
      have f2 := hown2.frozenAt (k * 6 + 2)
      have f3 := hown2.frozenAt (k * 6 + 3)
      have f4 := hown2.frozenAt (k * 6 + 4)
      have f5 := hown2.frozenAt (k * 6 + 5)
      have HN2 : Hid (blksOf (ls ++ [(x, .slice ra x.bytes.length rc, .slice rb x.fix.length rd)])).Nodup :=
        blks_snoc HN.out (fun q hq => by
          obtain ⟨y, hy, hq⟩ := List.mem_flatMap.1 hq
          rcases List.mem_append.1 hq with hq | hq
          · exact ((HE.out y hy).1.lt q (by simpa using hq)).2
          · exact ((HE.out y hy).2.lt q (by simpa using hq)).2) (fun q hq => ⟨(ob.lt q hq).1, hm1 q hq⟩) (fun q hq => (of.lt q hq).1) hm2
      have HE2 : Hid (∀ y ∈ ls ++ [(x, .slice ra x.bytes.length rc, .slice rb x.fix.length rd)], OwnB w2 (w.heap.size + 1) y.2.1 y.1.bytes ∧ OwnF w2 (w.heap.size + 1) y.2.2 y.1.fix) := fun y hy => by
        rcases List.mem_append.1 hy with hy | hy
        · exact ⟨owns_call (HE.out y hy).1 h2, owns_call (HE.out y hy).2 h2⟩
        · obtain rfl := List.mem_singleton.1 hy
          exact ⟨owns_mono ob (by omega), owns_mono of (by omega)⟩
      clear g0 g1 g2 g3 g4 g5 HF HO h2 hown2 hcells ob of hm1 HE HN
      go_wp2_with fail
      go_roundw
      case rel =>
        refine ⟨k + 1, ls ++ [(x, .slice ra x.bytes.length rc, .slice rb x.fix.length rd)], by omega, by go_num, ?_, ?_, ?_, HN2, ?_⟩
        · show _ = _; rw [HT.out]; simp
        · show World.ownsRow _ _ _ _ _ _ _
          have h6 := ((((((HO2.out.stored (k * 6) (.string x.name)).1.stored (k * 6 + 1) (.int .i64 x.kind)).1.stored (k * 6 + 2) (.int .i64 x.align)).1.stored (k * 6 + 3) (.slice ra x.bytes.length rc)).1.stored (k * 6 + 4) (.int .i64 x.size)).1.stored (k * 6 + 5) (.slice rb x.fix.length rd)).1
          rw [show l.length - k = (l.length - (k + 1)) + 1 by omega, List.replicate_succ, List.flatMap_cons] at h6
          have hA : (ls.flatMap secL).length = k * 6 := by rw [flat_length _ _ secL_length, hlen]
          have := set_six (.string x.name) (.int .i64 x.kind) (.int .i64 x.align) (.slice ra x.bytes.length rc) (.int .i64 x.size) (.slice rb x.fix.length rd) (.string ⟨#[]⟩) (.int .i64 0) (.int .i64 0) (.slice none 0 0) (.int .i64 0) (.slice none 0 0) ((List.replicate (l.length - (k + 1)) ()).flatMap fun _ => [.string ⟨#[]⟩, .int .i64 0, .int .i64 0, .slice none 0 0, .int .i64 0, .slice none 0 0]) (ls.flatMap secL)
          rw [hA] at this
          simp only [List.cons_append, List.nil_append] at h6
          rw [this] at h6
          rw [List.flatMap_append, List.append_assoc]
          exact h6
        · intro y hy
          obtain ⟨h7, h8⟩ := HE2.out y hy
          have q : w.heap.size < w.heap.size + 1 := Nat.lt_succ_self _
          exact ⟨ownsRow_setCell_below (ownsRow_setCell_below (ownsRow_setCell_below (ownsRow_setCell_below (ownsRow_setCell_below (ownsRow_setCell_below h7 q _) q _) q _) q _) q _) q _,
            ownsRow_setCell_below (ownsRow_setCell_below (ownsRow_setCell_below (ownsRow_setCell_below (ownsRow_setCell_below (ownsRow_setCell_below h8 q _) q _) q _) q _) q _) q _⟩
        · exact ((((((HF2.out.setCell (Nat.le_refl _) _).setCell (Nat.le_refl _) _).setCell (Nat.le_refl _) _).setCell (Nat.le_refl _) _).setCell (Nat.le_refl _) _).setCell (Nat.le_refl _) _)
      case measure => simp [intOf]; try omega
    · obtain rfl : k = l.length := by omega
      go_wp2_with fail
      go_ret
      have hlen : ls.length = l.length := by have := congrArg List.length HL.out; simp at this; omega
      refine ⟨_, ls, rfl, by rw [← HL.out, List.take_length], ⟨?_, fun x hx => ⟨owns_mono (HE.out x hx).1 (Nat.le_succ _), owns_mono (HE.out x hx).2 (Nat.le_succ _)⟩, ?_⟩, HF.out.below⟩
      · have := HO.out
        rw [Nat.sub_self, List.replicate_zero, List.flatMap_nil, List.append_nil] at this
        rw [hlen]
        exact this
      · refine List.nodup_append.2 ⟨by simp [Value.ownBlock], HN.out, fun a ha c hc e => ?_⟩
        simp [Value.ownBlock] at ha
        obtain ⟨y, hy, hq⟩ := List.mem_flatMap.1 hc
        rcases List.mem_append.1 hq with hq | hq
        · have := ((HE.out y hy).1.lt c (by simpa using hq)).1; omega
        · have := ((HE.out y hy).2.lt c (by simpa using hq)).1; omega
end Go.Proofs.Ythccjimckjecjaa
