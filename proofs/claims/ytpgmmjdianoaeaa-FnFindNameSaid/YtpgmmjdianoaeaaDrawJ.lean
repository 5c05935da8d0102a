/- What the statements draw: lists of objects. -/
import Derived.Test.YtpgmmjdianoaeaaDrawO
import Derived.Test.YtpgmmjdianoaeaaMarkO
import Derived.Test.YtpgmmjdianoaeaaNamesG
import Derived.Test.YtpgmmjdianoaeaaOpen
namespace Go.Proofs.Ytpgmmjdianoaeaa
open Go.ChangeShapes Go.WideShapes Go.ChangeAt Go.RowKit Go.Joins
set_option linter.unusedSimpArgs false
set_option linter.unusedVariables false
set_option maxRecDepth 100000
theorem info_objJ : (Try.prog.info? 29).map (fun i => (i.zero, i.size, i.bytes)) = some (some (.agg #[.slice none 0 0, .slice none 0 0]), 2, 48) := by kernel_rfl
/-- An object, what its two slices are, and the blocks that it lies in. -/
abbrev EntJ := ObjD × Value × Value × List Nat
@[reducible] def objJ (x : EntJ) : List Value := [x.2.1, x.2.2.1]
theorem objJ_length (x : EntJ) : (objJ x).length = 2 := rfl
structure SmO (o : ObjD) : Prop where
  sn : ∀ s ∈ o.secs, s.name.size ≤ 9
  yn : ∀ s ∈ o.syms, s.name.size ≤ 9
  la : o.secs.length ≤ 9
  lb : o.syms.length ≤ 13
/-- Objects of the call's own, no two in one block. -/
structure OL (u : World) (base : Nat) (v : Value) (xs : List EntJ) : Prop where
  row : u.ownsRow base 29 2 v xs.length (xs.flatMap objJ)
  each : ∀ x ∈ xs, OwnObjB u base x.2.2.2 (.agg #[x.2.1, x.2.2.1]) x.1
  out : ∀ x ∈ xs, ∀ k, v.ownBlock = some k → k ∉ x.2.2.2
  dis : xs.Pairwise fun x y => ∀ k ∈ x.2.2.2, k ∉ y.2.2.2
  small : ∀ x ∈ xs, SmO x.1
theorem OL.other {u u' : World} {base : Nat} {v : Value} {xs : List EntJ} {cs : List Nat} (h : OL u base v xs) (ho : Other cs u u') (h1 : ∀ k, v.ownBlock = some k → k ∉ cs) (h2 : ∀ x ∈ xs, ∀ k ∈ x.2.2.2, k ∉ cs) : OL u' base v xs :=
  ⟨owns_other h.row ho h1, fun x hx => (h.each x hx).other ho (h2 x hx), h.out, h.dis, h.small⟩
theorem OL.call {u u' : World} {base : Nat} {v : Value} {xs : List EntJ} (h : OL u base v xs) (hb : Below u.heap.size u u') : OL u' base v xs :=
  h.other (Other.below (bs := []) hb) (fun _ _ hm => by cases hm) (fun _ _ _ _ hm => by cases hm)
theorem OL.lt {u : World} {base : Nat} {v : Value} {xs : List EntJ} (h : OL u base v xs) : ∀ k, (v.ownBlock = some k ∨ ∃ x ∈ xs, k ∈ x.2.2.2) → base ≤ k ∧ k < u.heap.size := by
  rintro k (hk | ⟨x, hx, hk⟩)
  · exact World.ownsRow.lt h.row k hk
  · exact (h.each x hx).lt k hk
theorem OL.drawn {u u' : World} {base g : Nat} {v : Value} {xs : List EntJ} (h : OL u base v xs) (hg : u.grownBy u' (some g)) (hb : g < base) : OL u' base v xs :=
  h.other (Other.grown (bs := [g]) hg (fun k hk => by simpa [eq_comm] using hk)) (fun k hk hm => by obtain rfl := List.mem_singleton.1 hm; have := (h.lt _ (.inl hk)).1; omega) (fun x hx k hk hm => by obtain rfl := List.mem_singleton.1 hm; have := (h.lt _ (.inr ⟨x, hx, hk⟩)).1; omega)
theorem OL.alloc {u : World} {base : Nat} {v : Value} {xs : List EntJ} (h : OL u base v xs) (o : Obj) : OL (u.alloc o) base v xs := h.call ((From.start u).alloc o).below
theorem OL.nil (u : World) {base : Nat} {v : Value} (h : u.ownsRow base 29 2 v 0 []) : OL u base v [] := ⟨h, (fun x hx => by cases hx), (fun x hx => by cases hx), List.Pairwise.nil, fun x hx => by cases hx⟩
theorem OL.objs {u : World} {base : Nat} {v : Value} {xs : List EntJ} (h : OL u base v xs) : ObjsAt u v (xs.map (·.1)) := by
  refine ⟨xs.map fun x => (x.1, x.2.1, x.2.2.1), by simp [List.map_map], ?_, fun x hx => ?_⟩
  · have h1 := reads_of_owns h.row
    rw [List.length_map, List.flatMap_map]
    exact h1
  · obtain ⟨y, hy, rfl⟩ := List.mem_map.1 hx
    obtain ⟨vs, vy, ls, e, h2, h3, h4, -⟩ := h.each y hy
    simp only [Value.agg.injEq, Array.mk.injEq, List.cons.injEq, and_true] at e
    obtain ⟨e1, e2⟩ := e
    dsimp only
    rw [e1, e2]
    exact ⟨by rw [h2]; exact h3.at, OwnSyms.reads h4⟩
theorem OL.snoc {u u' : World} {base : Nat} {v v' : Value} {xs : List EntJ} {x : EntJ} (h : OL u base v xs) (hx : OwnObjB u base x.2.2.2 (.agg #[x.2.1, x.2.2.1]) x.1) (hxo : ∀ k, v.ownBlock = some k → k ∉ x.2.2.2) (hxd : ∀ y ∈ xs, ∀ k ∈ y.2.2.2, k ∉ x.2.2.2) (hs : SmO x.1)
    (hgr : u.grownBy u' v.ownBlock) (hrow : u'.ownsRow base 29 2 v' (xs.length + 1) (xs.flatMap objJ ++ objJ x)) (hpl : v'.ownBlock = v.ownBlock ∨ v'.ownBlock = some u.heap.size) : OL u' base v' (xs ++ [x]) := by
  have ho : Other v.ownBlock.toList u u' := Other.grown hgr fun k hk => by simpa using hk
  have hall : ∀ y, y ∈ xs ∨ y = x → OwnObjB u base y.2.2.2 (.agg #[y.2.1, y.2.2.1]) y.1 ∧ (∀ k, v.ownBlock = some k → k ∉ y.2.2.2) ∧ SmO y.1 := by
    rintro y (hy | rfl)
    · exact ⟨h.each y hy, h.out y hy, h.small y hy⟩
    · exact ⟨hx, hxo, hs⟩
  have hm : ∀ y, y ∈ xs ++ [x] → y ∈ xs ∨ y = x := fun y hy => by simpa using hy
  refine ⟨by rw [List.length_append, List.flatMap_append, List.flatMap_singleton]; exact hrow, fun y hy => ?_, fun y hy k hk hm' => ?_, ?_, fun y hy => (hall y (hm y hy)).2.2⟩
  · have h1 := hall y (hm y hy)
    exact h1.1.other ho fun k hk hk2 => h1.2.1 k (by simpa using hk2) hk
  · have h1 := hall y (hm y hy)
    rcases hpl with hp | hp
    · rw [hp] at hk
      exact h1.2.1 k hk hm'
    · rw [hp] at hk
      simp only [Option.some.injEq] at hk
      have := (h1.1.lt k hm').2
      omega
  · rw [List.pairwise_append]
    exact ⟨h.dis, List.pairwise_singleton _ _, fun y hy z hz => by obtain rfl := List.mem_singleton.1 hz; exact hxd y hy⟩
theorem splitJ {α : Type} {l : List α} {k : Nat} {x : α} (h : l[k]? = some x) : l = l.take k ++ x :: l.drop (k + 1) ∧ (l.take k).length = k := by
  obtain ⟨hk, rfl⟩ := List.getElem?_eq_some_iff.1 h
  refine ⟨?_, by rw [List.length_take]; omega⟩
  rw [← List.drop_eq_getElem_cons hk, List.take_append_drop]
theorem setJ {α : Type} {l : List α} {k : Nat} {x y : α} (h : l[k]? = some x) : l.set k y = l.take k ++ y :: l.drop (k + 1) := by
  obtain ⟨h1, h2⟩ := splitJ h
  conv => lhs; rw [h1]
  rw [List.set_append_right _ _ (by rw [h2]; exact Nat.le_refl _), h2, Nat.sub_self, List.set_cons_zero]
theorem flatJ {l : List SymD} {j f : Nat} {s s' : SymD} (h : l[j]? = some s) (hf : f < 4) (z : Value) (hs : symL s' = (symL s).set f z) : (l.flatMap symL).set (j * 4 + f) z = (l.set j s').flatMap symL := by
  obtain ⟨h1, h2⟩ := splitJ h
  rw [setJ h]
  have := flat_set symL 4 symL_length (l.take j) (l.drop (j + 1)) s s' f z hf hs
  rw [h2] at this
  rw [← this, ← h1]
theorem symsJ_cells {u : World} {base g n c : Nat} {l : List SymD} (h : u.ownsRow base 39 4 (.slice (some ⟨g, 0, none⟩) n c) n (l.flatMap symL)) (hn : l.length = n) {k : Nat} {x : SymD} (hx : l[k]? = some x) :
    u.cell? ⟨g, k * 4, none⟩ = some (.string x.name) ∧ u.cell? ⟨g, k * 4 + 1, none⟩ = some (.int .i64 x.bind) ∧ u.cell? ⟨g, k * 4 + 2, none⟩ = some (.int .i64 x.whr) ∧ u.cell? ⟨g, k * 4 + 3, none⟩ = some (.int .i64 x.val) := by
  obtain ⟨hs1, hs2⟩ := splitJ hx
  have hkn : k < n := by obtain ⟨hk, -⟩ := List.getElem?_eq_some_iff.1 hx; omega
  have h1 : ∀ j, j < 4 → u.cell? ⟨g, k * 4 + j, none⟩ = (symL x)[j]? := fun j hj => by
    rw [h.cellAt (k * 4 + j) (by omega)]
    have := flat_at symL 4 (fun x => symL_length x) (l.take k) (l.drop (k + 1)) x j hj
    rw [hs2, ← hs1] at this
    exact this
  exact ⟨h1 0 (by decide), h1 1 (by decide), h1 2 (by decide), h1 3 (by decide)⟩
/-- A symbol of an object of the call's own is written. -/
theorem OwnObjB.setSym {u : World} {base g n c j f : Nat} {bs : List Nat} {vs z : Value} {o : ObjD} {s s' : SymD} (h : OwnObjB u base bs (.agg #[vs, .slice (some ⟨g, 0, none⟩) n c]) o) (hs : o.syms[j]? = some s) (hf : f < 4) (hz : symL s' = (symL s).set f z) :
    OwnObjB (u.setCell ⟨g, j * 4 + f, none⟩ z) base bs (.agg #[vs, .slice (some ⟨g, 0, none⟩) n c]) ⟨o.secs, o.syms.set j s'⟩ ∧ g ∈ bs := by
  obtain ⟨vs', vy', ls, e, h2, h3, h4, h5, rfl⟩ := h
  simp only [Value.agg.injEq, Array.mk.injEq, List.cons.injEq, and_true] at e
  obtain ⟨rfl, rfl⟩ := e
  have hg : (Value.slice (some ⟨g, 0, none⟩) n c).ownBlock = some g := rfl
  refine ⟨⟨_, _, ls, rfl, h2, ?_, ?_, h5, rfl⟩, by rw [hg]; simp⟩
  · refine h3.other (cs := [g]) (Other.setCell (by simp) z) fun k hk hm => ?_
    obtain rfl := List.mem_singleton.1 hm
    exact h5 _ hg hk
  · obtain ⟨a, c', e1⟩ := owns_form h4
    simp only [Value.slice.injEq] at e1
    obtain ⟨-, rfl, -⟩ := e1
    have hst := (World.ownsRow.stored h4 (j * 4 + f) z).1
    rw [flatJ hs hf z hz] at hst
    show World.ownsRow _ _ _ _ _ _ _
    rw [show (o.syms.set j s').length = o.syms.length by rw [List.length_set]]
    exact hst
theorem SmO.setSym {o : ObjD} {j : Nat} {s' : SymD} (h : SmO o) (hs : s'.name.size ≤ 9) : SmO ⟨o.secs, o.syms.set j s'⟩ :=
  ⟨h.sn, fun y hy => by rcases List.mem_or_eq_of_mem_set hy with hy | rfl; exact h.yn y hy; exact hs, h.la, by rw [List.length_set]; exact h.lb⟩
theorem OL.setSym {u : World} {base g n c j f i : Nat} {v z : Value} {xs : List EntJ} {o : ObjD} {vs : Value} {bs : List Nat} {s s' : SymD} (h : OL u base v xs) (hx : xs[i]? = some (o, vs, .slice (some ⟨g, 0, none⟩) n c, bs)) (hs : o.syms[j]? = some s) (hf : f < 4) (hz : symL s' = (symL s).set f z) (hn : s'.name.size ≤ 9) :
    OL (u.setCell ⟨g, j * 4 + f, none⟩ z) base v (xs.set i (⟨o.secs, o.syms.set j s'⟩, vs, .slice (some ⟨g, 0, none⟩) n c, bs)) ∧ g ∈ bs := by
  obtain ⟨e1, e2⟩ := splitJ hx
  rw [setJ hx]
  generalize xs.take i = D at *
  generalize xs.drop (i + 1) = R at *
  subst e1
  have h1 := h.each (o, vs, .slice (some ⟨g, 0, none⟩) n c, bs) (by simp)
  obtain ⟨h2, hg⟩ := OwnObjB.setSym h1 hs hf hz
  have ho : Other [g] u (u.setCell ⟨g, j * 4 + f, none⟩ z) := Other.setCell (by simp) z
  have hd := h.dis
  rw [List.pairwise_append] at hd
  obtain ⟨d1, d2, d3⟩ := hd
  rw [List.pairwise_cons] at d2
  have hrow : u.ownsRow base 29 2 v (D ++ (o, vs, .slice (some ⟨g, 0, none⟩) n c, bs) :: R).length ((D ++ (o, vs, .slice (some ⟨g, 0, none⟩) n c, bs) :: R).flatMap objJ) := h.row
  refine ⟨⟨?_, fun y hy => ?_, fun y hy => ?_, ?_, fun y hy => ?_⟩, hg⟩
  · have h9 := owns_other hrow ho fun k hk hm => by
      obtain rfl := List.mem_singleton.1 hm
      exact h.out _ (by simp) _ hk hg
    simpa [List.flatMap_append, List.flatMap_cons] using h9
  · rcases List.mem_append.1 hy with hy2 | hy2
    · exact (h.each y (by simp [hy2])).other ho fun k hk hm => by
        obtain rfl := List.mem_singleton.1 hm
        exact d3 y hy2 _ (List.mem_cons_self ..) _ hk hg
    · rcases List.mem_cons.1 hy2 with rfl | hy3
      · exact h2
      · exact (h.each y (by simp [hy3])).other ho fun k hk hm => by
          obtain rfl := List.mem_singleton.1 hm
          exact d2.1 y hy3 _ hg hk
  · rcases List.mem_append.1 hy with hy2 | hy2
    · exact h.out y (by simp [hy2])
    · rcases List.mem_cons.1 hy2 with rfl | hy3
      · exact h.out (o, vs, .slice (some ⟨g, 0, none⟩) n c, bs) (by simp)
      · exact h.out y (by simp [hy3])
  · rw [List.pairwise_append, List.pairwise_cons]
    exact ⟨d1, ⟨d2.1, d2.2⟩, fun a ha b hb => by
      rcases List.mem_cons.1 hb with rfl | hb
      · exact d3 a ha (o, vs, .slice (some ⟨g, 0, none⟩) n c, bs) (List.mem_cons_self ..)
      · exact d3 a ha b (List.mem_cons_of_mem _ hb)⟩
  · rcases List.mem_append.1 hy with hy2 | hy2
    · exact h.small y (by simp [hy2])
    · rcases List.mem_cons.1 hy2 with rfl | hy3
      · exact (h.small (o, vs, .slice (some ⟨g, 0, none⟩) n c, bs) (by simp)).setSym hn
      · exact h.small y (by simp [hy3])
theorem SomeObj.ownB {base : Nat} {w : World} {v : Value} (h : SomeObj base w v) : ∃ (o : ObjD) (vs vy : Value) (bs : List Nat), v = .agg #[vs, vy] ∧ OwnObjB w base bs v o ∧ SmO o := by
  obtain ⟨o, vs, vy, ls, rfl, h1, h2, h3, h4, h5, h6, h7, h8⟩ := h
  refine ⟨o, vs, vy, _, rfl, ⟨vs, vy, ls, rfl, h1, h2, h3, h4, rfl⟩, ⟨fun s hs => ?_, h6, by rw [h1, List.length_map]; exact h7, h8⟩⟩
  rw [h1] at hs
  obtain ⟨x, hx, rfl⟩ := List.mem_map.1 hs
  exact (h5 x hx).1
theorem OwnObjB.mono {w : World} {base base' : Nat} {bs : List Nat} {v : Value} {o : ObjD} (h : OwnObjB w base bs v o) (hb : base' ≤ base) : OwnObjB w base' bs v o := by
  obtain ⟨vs, vy, ls, h1, h2, h3, h4, h5, h6⟩ := h
  exact ⟨vs, vy, ls, h1, h2, h3.mono hb, owns_mono h4 hb, h5, h6⟩
/-- Objects that were drawn. -/
def SomeObjs (base : Nat) (w : World) (v : Value) : Prop := ∃ xs : List EntJ, OL w base v xs ∧ xs.length ≤ 9
theorem gvn_small {o : ObjD} (h : SmO o) : ∀ s ∈ namesL gvnB o, s.size ≤ 9 := by
  intro s hs
  unfold namesL at hs
  split at hs
  · have h1 : s ∈ namesOfL gvnB o.syms := by
      exact mem_sortB _ _ hs
    unfold namesOfL at h1
    obtain ⟨y, hy, rfl⟩ := List.mem_map.1 h1
    exact h.yn y (List.mem_filter.1 hy).1
  · cases hs
theorem OL.zeros {u : World} {b0 gr : Nat} (hown : u.ownsRow b0 29 2 (.slice (some ⟨gr, 0, none⟩) 5 5) 5 (madeCells #[Value.slice none 0 0, Value.slice none 0 0] 10).toList) :
    OL u b0 (.slice (some ⟨gr, 0, none⟩) 5 5) (List.replicate 5 ((⟨[], []⟩ : ObjD), Value.slice none 0 0, Value.slice none 0 0, ([] : List Nat))) := by
  refine ⟨?_, fun x hx => ?_, fun x hx k _ hm => ?_, ?_, fun x hx => ?_⟩
  · have e9 := toList_madeK #[Value.slice none 0 0, Value.slice none 0 0] 2 rfl (by decide) 5
    have h9 : u.ownsRow b0 29 2 (.slice (some ⟨gr, 0, none⟩) 5 5) 5 (madeCells #[Value.slice none 0 0, Value.slice none 0 0] (5 * 2)).toList := hown
    rw [e9] at h9
    exact h9
  · obtain rfl := List.eq_of_mem_replicate hx
    exact ⟨_, _, [], rfl, rfl, ⟨World.ownsRow_nil _ _ _ _, (fun x hx => by cases hx), by simp [blksOf, Value.ownBlock]⟩, World.ownsRow_nil _ _ _ _, (fun k hk => by simp [Value.ownBlock] at hk), by simp [blksOf, Value.ownBlock]⟩
  · obtain rfl := List.eq_of_mem_replicate hx
    cases hm
  · rw [List.pairwise_replicate]
    right
    intro k hk
    cases hk
  · obtain rfl := List.eq_of_mem_replicate hx
    exact ⟨(fun s hs => by cases hs), (fun s hs => by cases hs), Nat.zero_le _, Nat.zero_le _⟩
theorem OL.cells {u : World} {base gr n c i : Nat} {xs : List EntJ} {x : EntJ} (h : OL u base (.slice (some ⟨gr, 0, none⟩) n c) xs) (hn : xs.length = n) (hx : xs[i]? = some x) : u.cell? ⟨gr, i * 2, none⟩ = some x.2.1 ∧ u.cell? ⟨gr, i * 2 + 1, none⟩ = some x.2.2.1 := by
  obtain ⟨hs1, hs2⟩ := splitJ hx
  have hkn : i < n := by obtain ⟨hk, -⟩ := List.getElem?_eq_some_iff.1 hx; omega
  have hr := h.row
  rw [hn] at hr
  have h1 : ∀ j, j < 2 → u.cell? ⟨gr, i * 2 + j, none⟩ = (objJ x)[j]? := fun j hj => by
    rw [hr.cellAt (i * 2 + j) (by omega)]
    have := flat_at objJ 2 (fun x => objJ_length x) (xs.take i) (xs.drop (i + 1)) x j hj
    rw [hs2, ← hs1] at this
    exact this
  exact ⟨h1 0 (by decide), h1 1 (by decide)⟩
theorem SmO.len {o : ObjD} (h : SmO o) : (∀ s ∈ o.secs, s.name.size ≤ maxLen) ∧ ∀ s ∈ o.syms, s.name.size ≤ maxLen :=
  ⟨fun s hs => by have := h.sn s hs; unfold maxLen; omega, fun s hs => by have := h.yn s hs; unfold maxLen; omega⟩
theorem OwnObjB.symRow {u : World} {base n c : Nat} {bs : List Nat} {vs : Value} {ya : Option Addr} {o : ObjD} (h : OwnObjB u base bs (.agg #[vs, .slice ya n c]) o) (hn : o.syms.length = n) : u.ownsRow base 39 4 (.slice ya n c) n (o.syms.flatMap symL) ∧ ∀ k, (Value.slice ya n c).ownBlock = some k → k ∈ bs := by
  obtain ⟨vs', vy', ls, e, h2, h3, h4, h5, rfl⟩ := h
  simp only [Value.agg.injEq, Array.mk.injEq, List.cons.injEq, and_true] at e
  obtain ⟨rfl, rfl⟩ := e
  subst hn
  exact ⟨h4, fun k hk => by rw [hk]; simp⟩
theorem row_someJ {w : World} {base n : Nat} {e : TypeId} {size : Nat} {v : Value} {xs : List Value} (h : w.ownsRow base e size v n xs) (hn : v ≠ .slice none 0 0) : ∃ g c, v = .slice (some ⟨g, 0, none⟩) n c := by
  rcases h.2 with ⟨h1, _⟩ | ⟨g, cap, cur, h1, _⟩
  · exact absurd h1 hn
  · exact ⟨g, cap, h1⟩
set_option maxHeartbeats 4000000 in
theorem l20Objects_any (w : World) (g p : Nat) (h : RdAt w g p) (hp : p ≤ 1070000000) (n : Int) (h0 : 0 ≤ n) (hn : n ≤ 500) :
    Calls Try.prog 13 #[.pointer (some ⟨g, 0, none⟩), .int .i64 n] w (DrawE (SomeObjs w.heap.size) 200000 w g p) := by
  obtain ⟨j0, hj0, ja0, ja1, ja2⟩ := info_parts info_objJ
  obtain ⟨t0, ht0, ta0, ta1, ta2⟩ := info_parts info_str
  have zg := h.lt
  have HR := Lib.hid h
  clear h
  obtain ⟨b0, hb0⟩ : ∃ b, w.heap.size = b := ⟨_, rfl⟩
  rw [hb0] at zg ⊢
  have HB0 := Lib.hid hb0
  go_enter Try.func13, Try.ntmps13
  go_wp2_with fail
  have HD0 : Hid (Drawn g p w (w.alloc (.cells #[] 29))) := (Drawn.start HR.out).alloc _
  have HL0 : Hid (OL (w.alloc (.cells #[] 29)) b0 (.slice (some ⟨b0, 0, none⟩) 0 0) []) := OL.nil _ (by
    rw [← hb0]
    exact World.ownsRow_lit w #[] (e := 29) (size := 2) (base := w.heap.size) 0 (Nat.le_refl _) (Nat.zero_le _) rfl)
  try rw [hb0]
  generalize w.alloc (.cells #[] 29) = w1 at *
  clear hb0
  refine (pick_in w1 _ g _ (Drawn.start HD0.out.rd) (by omega) 4 (by decide) (by decide)).mono ?_
  rintro e w2 ⟨k0, rfl, hk0, hk1, hD⟩
  obtain ⟨K0, rfl⟩ := Int.eq_ofNat_of_zero_le hk0
  have HL1 := Lib.hid (HL0.out.drawn hD.grow zg)
  have HD1 := Lib.hid (HD0.out.next hD)
  clear hD HL0 HD0 hk0
  go_wp2_with fail
  go_loopw [5, 6] (fun out i wr => ∃ (k q : Nat) (xs : List EntJ), i = .int .i64 (k : Int) ∧ xs.length + k ≤ 3 ∧ q ≤ p + 1 + 21000 * xs.length ∧ Hid (OL wr b0 out xs) ∧ Hid (Drawn g q w wr)) (fun _ i _ => (intOf i).toNat)
  case atStart => exact ⟨K0, _, [], rfl, by simp; omega, (by simp : p + 1 ≤ p + 1 + 21000 * 0), HL1, HD1⟩
  case round =>
    clear HL1 HD1
    obtain ⟨wo, rfl⟩ : ∃ wo, wo = wr := ⟨_, rfl⟩
    obtain ⟨k, q0, xs, rfl, hak, hq, HL, HD⟩ := hrel
    obtain ⟨nx, hnx⟩ : ∃ m, xs.length = m := ⟨_, rfl⟩
    have HNX := Lib.hid hnx
    have hrow := HL.out.row
    rw [hnx] at hak hq hrow
    obtain ⟨oa, oc, rfl⟩ := owns_form hrow
    have HRW := Lib.hid hrow
    clear hnx hrow
    by_cases hk : 0 < k
    · have hkz : (0 : Int) < (k : Int) := by omega
      go_wp2_with fail
      refine (l20Object_any wo g q0 HD.out.rd (by omega) 0 (by decide) (by decide)).mono ?_
      rintro e w3 ⟨v3, q3, rfl, hO, hq3, hD⟩
      have HLT : Hid (∀ k, ((Value.slice oa nx oc).ownBlock = some k ∨ ∃ x ∈ xs, k ∈ x.2.2.2) → k < wo.heap.size) := fun k hk => (HL.out.lt k hk).2
      have HL3 := Lib.hid (HL.out.drawn hD.grow zg)
      have HD3 := Lib.hid (HD.out.next hD)
      obtain ⟨o, vs, vy, bs, rfl, hB, hS⟩ := hO.ownB
      obtain ⟨sa, sc, ya, yc, hv⟩ := hB.agg
      simp only [Value.agg.injEq, Array.mk.injEq, List.cons.injEq, and_true] at hv
      obtain ⟨rfl, rfl⟩ := hv
      obtain ⟨n1, hn1⟩ : ∃ m, o.secs.length = m := ⟨_, rfl⟩
      obtain ⟨n2, hn2⟩ : ∃ m, o.syms.length = m := ⟨_, rfl⟩
      have hn2b : n2 ≤ 13 := by rw [← hn2]; exact hS.lb
      rw [hn1, hn2] at hB
      have HBB := Lib.hid hB
      have HSM := Lib.hid hS
      have HN2 := Lib.hid hn2
      have HLE : Hid (wo.heap.size ≤ w3.heap.size) := hD.grow.size
      have HGW : Hid (g < wo.heap.size) := HD.out.rd.lt
      have HBO : Hid (b0 ≤ wo.heap.size) := by show _ ≤ _; have := HD.out.grow.size; have := HB0.out; omega
      rw [hn1, hn2]
      clear hB hS hn1 hn2 hO hD HL HD
      go_wp2_with fail
      obtain ⟨Y, hY⟩ : ∃ Y, w3.heap.size = Y := ⟨_, rfl⟩
      have HY4 := Lib.hid (Blk.newAt w3 #[.slice sa n1 sc, .slice ya n2 yc] 29 Y hY.symm)
      have HL4 := Lib.hid (HL3.out.alloc (.cells #[.slice sa n1 sc, .slice ya n2 yc] 29))
      have HD4 := Lib.hid (HD3.out.alloc (.cells #[.slice sa n1 sc, .slice ya n2 yc] 29))
      have HB4 := Lib.hid (HBB.out.call ((From.start w3).alloc (.cells #[.slice sa n1 sc, .slice ya n2 yc] 29)).below)
      have HRW9 : Hid (g < wo.heap.size) := HGW.out
      have HGY : Hid (g < Y) := by show _ < _; have := HGW.out; have := HLE.out; omega
      have HBY : Hid (∀ k ∈ bs, wo.heap.size ≤ k ∧ k < Y) := fun k hk => by rw [← hY]; exact HBB.out.lt k hk
      rw [hY]
      generalize w3.alloc (.cells #[.slice sa n1 sc, .slice ya n2 yc] 29) = w4 at *
      clear HL3 HD3 HBB hY
      go_loopw [8] (fun i wr => ∃ (j q : Nat) (o : ObjD), j ≤ n2 ∧ i = .int .i64 (j : Int) ∧ q ≤ q3 + j ∧ Hid (o.syms.length = n2) ∧ Hid (OwnObjB wr wo.heap.size bs (.agg #[.slice sa n1 sc, .slice ya n2 yc]) o) ∧ Hid (SmO o) ∧ Hid (Blk wr Y #[.slice sa n1 sc, .slice ya n2 yc] 29) ∧ Hid (OL wr b0 (.slice oa nx oc) xs) ∧ Hid (Drawn g q w wr)) (fun i _ => n2 - (intOf i).toNat)
      case atStart => exact ⟨0, q3, o, Nat.zero_le _, rfl, Nat.le_refl _, HN2, HB4, HSM, HY4, HL4, HD4⟩
      case round =>
        clear HN2 HB4 HSM HY4 HL4 HD4
        clear o
        obtain ⟨j, q, o, hj, rfl, hqj, HN2, HB, HSM, HY, HL, HD⟩ := hrel
        have cY := HY.out.cell
        have zY := HY.out.lt
        go_upto_region 7 with fail
        go_cut [34] from 25 to 57 (fun c wx => ∃ (b : Bool) (q' : Nat), c = .bool b ∧ (b = true → j < n2) ∧ q' ≤ q + 1 ∧ Hid (OwnObjB wx wo.heap.size bs (.agg #[.slice sa n1 sc, .slice ya n2 yc]) o) ∧ Hid (Blk wx Y #[.slice sa n1 sc, .slice ya n2 yc] 29) ∧ Hid (OL wx b0 (.slice oa nx oc) xs) ∧ Hid (Drawn g q' w wx))
        case first =>
          by_cases hlt : j < n2
          · have i1 : (j : Int) < (n2 : Int) := by omega
            go_wp2_with fail
            refine (pick_in wr _ g _ (Drawn.start HD.out.rd) (by omega) 2 (by decide) (by decide)).mono ?_
            rintro e w5 ⟨x, rfl, hx0, hx1, hD⟩
            have HB5 := Lib.hid (HB.out.other (cs := [g]) (Other.grown hD.grow (fun k hk => by simpa [eq_comm] using hk)) (fun k hk hm => by obtain rfl := List.mem_singleton.1 hm; have := (HBY.out _ hk).1; have := HRW9.out; omega))
            have HY5 := Lib.hid (HY.out.drawn hD (by have := HGY.out; omega))
            have HL5 := Lib.hid (HL.out.drawn hD.grow zg)
            have HD5 := Lib.hid (HD.out.next hD)
            clear hD cY zY HB HY HL HD
            by_cases hx : x = 0
            · subst hx
              go_wp2_with fail
              go_meet
              case rel => exact ⟨true, _, rfl, fun _ => hlt, Nat.le_refl _, HB5, HY5, HL5, HD5⟩
            · have e1 : (x == 0) = false := by rw [beq_eq_false_iff_ne]; exact hx
              go_wp2_with fail
              go_meet
              case rel => exact ⟨false, _, rfl, (fun h => by cases h), Nat.le_refl _, HB5, HY5, HL5, HD5⟩
          · have i1 : ¬ (j : Int) < (n2 : Int) := by omega
            go_wp2_with fail
            go_meet
            case rel => exact ⟨false, q, rfl, (fun h => by cases h), Nat.le_succ _, HB, HY, HL, HD⟩
        case rest =>
          clear cY zY HB HY HL HD
          obtain ⟨b, q', rfl, hb, hq', HB, HY, HL, HD⟩ := hcut
          have cY := HY.out.cell
          have zY := HY.out.lt
          cases b with
          | false =>
            clear hb
            have hrow : wc.ownsRow b0 29 2 (.slice oa nx oc) nx (xs.flatMap objJ) := by have h9 := HL.out.row; rw [HNX.out] at h9; exact h9
            have HRW := Lib.hid hrow
            clear hrow
            go_wp2_with (at_builtin; go_loud (refine wpList_append_own rfl (.tmp 58) (.tmp 60) 23 23 rfl b0 29 j0 _ 2 48 Try.underlying23 hj0 ja0 ja1 ja2 rfl (by decide) _ _ _ rfl (World.ownsRow.alloc HRW.out _) _ 1 [_, _] rfl (src_new Try.underlying23 _ [_, _] 2 1 1 _ rfl ?c0) ?c1 ?c2 ?c3 ?_))
            case c0 =>
              intro u hu
              simp only [List.mem_cons, List.not_mem_nil, or_false] at hu
              rcases hu with rfl | rfl <;> rfl
            case c1 => unfold maxLen; omega
            case c2 => omega
            case c3 => have h9 := (HD.out.grow.size); have := HB0.out; first | omega | (simp; omega)
            intro v' w6 hown hgr hpl
            have hb6 := ((From.start wc).alloc (.cells #[.slice sa n1 sc, .slice ya n2 yc] 29)).below
            have h6 : OL w6 b0 v' (xs ++ [(o, .slice sa n1 sc, .slice ya n2 yc, bs)]) := (HL.out.alloc (.cells #[.slice sa n1 sc, .slice ya n2 yc] 29)).snoc (x := (o, .slice sa n1 sc, .slice ya n2 yc, bs)) ((HB.out.call hb6).mono HBO.out) (fun k hk hm => by
                have := HLT.out k (.inl hk); have := (HBY.out k hm).1; omega) (fun y hy k hk hm => by
                have := HLT.out k (.inr ⟨y, hy, hk⟩); have := (HBY.out k hm).1; omega) HSM.out hgr (by rw [HNX.out]; exact hown) (by simpa using hpl)
            have HL6 := Lib.hid h6
            have HD6 := Lib.hid ((HD.out.alloc (.cells #[.slice sa n1 sc, .slice ya n2 yc] 29)).grownRow hgr (fun k hk => by rw [HB0.out]; exact (World.ownsRow.lt HRW.out k hk).1) (by rw [HB0.out]; exact zg))
            obtain ⟨xs', hxs'⟩ : ∃ l, xs ++ [(o, Value.slice sa n1 sc, Value.slice ya n2 yc, bs)] = l := ⟨_, rfl⟩
            have hxl : xs'.length = nx + 1 := by rw [← hxs', List.length_append, HNX.out]; rfl
            rw [hxs'] at HL6
            have HXL := Lib.hid hxl
            clear hown hgr hpl h6 hb6 hxs' hxl cY zY HB HY HL HD
            go_wp2_with fail
            go_roundw
            case rel => exact ⟨k - 1, q', xs', by congr 1; omega, by rw [HXL.out]; omega, by rw [HXL.out]; omega, HL6, HD6⟩
            case measure => simp [intOf]; try omega
          | true =>
            have hlt := hb rfl
            clear hb
            have i1 : (j : Int) < (n2 : Int) := by omega
            have i3 : (0 : Int) ≤ (j : Int) := by omega
            obtain ⟨hrow, hbl⟩ := HB.out.symRow HN2.out
            obtain ⟨gy, gc, hv⟩ := row_someJ hrow (by intro e; simp only [Value.slice.injEq] at e; omega)
            simp only [Value.slice.injEq] at hv
            obtain ⟨rfl, -, rfl⟩ := hv
            have hgy := HBY.out gy (hbl gy rfl)
            obtain ⟨y, hy⟩ : ∃ y, o.syms[j]? = some y := ⟨_, List.getElem?_eq_getElem (by rw [HN2.out]; exact hlt)⟩
            obtain ⟨nm, bd, wh, vl⟩ := y
            obtain ⟨g0, g1, g2, g3⟩ := symsJ_cells hrow HN2.out hy
            have fq := World.ownsRow.frozenAt hrow (j * 4 + 1)
            have hst := HB.out.setSym (f := 1) (z := .int .i64 2) hy (by decide) (s' := ⟨nm, 2, wh, vl⟩) rfl
            have hos : Other [gy] wc (wc.setCell ⟨gy, j * 4 + 1, none⟩ (.int .i64 2)) := Other.setCell (by simp) _
            have hnm : nm.size ≤ 9 := HSM.out.yn _ (List.mem_of_getElem? hy)
            have HB9 := Lib.hid hst.1
            have HY9 := Lib.hid (HY.out.otherB hos (by simp; omega))
            have HL9 := Lib.hid (HL.out.other hos (fun k hk hm => by obtain rfl := List.mem_singleton.1 hm; have := HLT.out _ (.inl hk); omega) (fun x hx k hk hm => by obtain rfl := List.mem_singleton.1 hm; have := HLT.out _ (.inr ⟨x, hx, hk⟩); omega))
            have HD9 := Lib.hid (HD.out.set (k := gy) (by rw [HB0.out]; have := HBO.out; omega) (by rw [HB0.out]; exact zg) (j * 4 + 1) (.int .i64 2))
            have HS9 := Lib.hid (HSM.out.setSym (j := j) (s' := ⟨nm, 2, wh, vl⟩) hnm)
            have HN9 : Hid ((o.syms.set j ⟨nm, 2, wh, vl⟩).length = n2) := by show _ = _; rw [List.length_set, HN2.out]
            dsimp only at g1 g2
            clear hst hos hbl hrow hy g0 g3 hnm hgy
            by_cases m1 : wh = -1
            · have e1 : (wh != -1) = false := by simpa using m1
              clear m1
              go_wp2_with fail
              go_roundw
              case rel => exact ⟨j + 1, q', o, by omega, by go_num, by omega, HN2, HB, HSM, HY, HL, HD⟩
              case measure => simp [intOf]; try omega
            have e1 : (wh != -1) = true := by simpa using m1
            clear m1
            by_cases m2 : bd = 1
            · subst m2
              clear HB HY HL HD HN2 HSM
              go_wp2_with fail
              go_roundw
              case rel => exact ⟨j + 1, q', _, by omega, by go_num, by omega, HN9, HB9, HS9, HY9, HL9, HD9⟩
              case measure => simp [intOf]; try omega
            · have e2 : (bd == 1) = false := by rw [beq_eq_false_iff_ne]; exact m2
              clear m2
              go_wp2_with fail
              go_roundw
              case rel => exact ⟨j + 1, q', o, by omega, by go_num, by omega, HN2, HB, HSM, HY, HL, HD⟩
              case measure => simp [intOf]; try omega
    · obtain rfl : k = 0 := by omega
      go_wp2_with fail
      refine (pick_in wo _ g _ (Drawn.start HD.out.rd) (by omega) 2 (by decide) (by decide)).mono ?_
      rintro e w3 ⟨x, rfl, hx0, hx1, hD⟩
      have HL3 := Lib.hid (HL.out.drawn hD.grow zg)
      have HD3 := Lib.hid (HD.out.next hD)
      clear hD HL HD HRW
      go_upto_if 64 with fail
      obtain ⟨bx, hbx⟩ : ∃ b, (x == 0) = b := ⟨_, rfl⟩
      rw [hbx]
      clear hbx hx0 hx1
      go_cut [] (fun wx => ∃ (q : Nat) (xs' : List EntJ), q ≤ q0 + 200 ∧ Hid (xs'.length = nx) ∧ Hid (OL wx b0 (.slice oa nx oc) xs') ∧ Hid (Drawn g q w wx))
      case first =>
        cases bx
        case true =>
          obtain ⟨b2, hb2⟩ : ∃ b, w3.heap.size = b := ⟨_, rfl⟩
          have HLT2 : Hid (∀ x ∈ xs, ∀ k ∈ x.2.2.2, k < b2) := fun x hx k hk => by rw [← hb2]; exact (HL3.out.lt k (.inr ⟨x, hx, hk⟩)).2
          have HLO2 : Hid (∀ k, (Value.slice oa nx oc).ownBlock = some k → k < b2) := fun k hk => by rw [← hb2]; exact (HL3.out.lt k (.inl hk)).2
          have HB2 : Hid (b0 ≤ b2) := by show _ ≤ _; have := HD3.out.grow.size; have := HB0.out; omega
          have HG4 : Hid (OwnS (w3.alloc (.cells #[] 9)) b2 (.slice (some ⟨b2, 0, none⟩) 0 0) []) := by
            show OwnS _ _ _ _
            have h9 := World.ownsRow_lit w3 #[] (e := 9) (size := 1) (base := w3.heap.size) 0 (Nat.le_refl _) (Nat.zero_le _) rfl
            rw [hb2] at h9
            exact h9
          have HL4 := Lib.hid (HL3.out.alloc (.cells #[] 9))
          have HD4 := Lib.hid (HD3.out.alloc (.cells #[] 9))
          have BS4 : Hid (b2 ≤ (w3.alloc (.cells #[] 9)).heap.size) := by show _ ≤ _; simp [hb2]
          go_wp2_with fail
          try rw [hb2]
          generalize w3.alloc (.cells #[] 9) = w4 at *
          clear hb2 HL3 HD3
          go_loopw [9, 10] (fun gv i wr => ∃ (k : Nat) (G : List ByteArray), k ≤ nx ∧ i = .int .i64 (k : Int) ∧ G.length ≤ 13 * k ∧ Hid (∀ s ∈ G, s.size ≤ 9) ∧ Hid (OwnS wr b2 gv G) ∧ Hid (OL wr b0 (.slice oa nx oc) xs) ∧ Hid (Drawn g (q0 + 1) w wr) ∧ Hid (b2 ≤ wr.heap.size)) (fun _ i _ => nx - (intOf i).toNat)
          case atStart => exact ⟨0, [], Nat.zero_le _, rfl, Nat.zero_le _, (fun s hs => by cases hs), HG4, HL4, HD4, BS4⟩
          case round =>
            clear HG4 HL4 HD4 BS4
            obtain ⟨wo, rfl⟩ : ∃ wo, wo = wr := ⟨_, rfl⟩
            obtain ⟨k, G, hk, rfl, hGl, HGS, HG, HL, HD, BS⟩ := hrel
            obtain ⟨nG, hnG⟩ : ∃ m, G.length = m := ⟨_, rfl⟩
            have hGR : wo.ownsRow b2 9 1 u9 nG (svs G) := by have h9 := HG.out; unfold OwnS at h9; rw [hnG] at h9; exact h9
            have HGN := Lib.hid hnG
            rw [hnG] at hGl
            obtain ⟨ga, gc, rfl⟩ := owns_form hGR
            have HGR := Lib.hid hGR
            clear hnG hGR
            by_cases hlt : k < nx
            · have i1 : (k : Int) < (nx : Int) := by omega
              have i3 : (0 : Int) ≤ (k : Int) := by omega
              obtain ⟨x, hx⟩ : ∃ x, xs[k]? = some x := ⟨_, List.getElem?_eq_getElem (by rw [HNX.out]; exact hlt)⟩
              obtain ⟨o, vs, vy, bs⟩ := x
              have hrow : wo.ownsRow b0 29 2 (.slice oa nx oc) nx (xs.flatMap objJ) := by have h9 := HL.out.row; rw [HNX.out] at h9; exact h9
              obtain ⟨gr, gcap, hv⟩ := row_someJ hrow (by intro e; simp only [Value.slice.injEq] at e; omega)
              simp only [Value.slice.injEq] at hv
              obtain ⟨rfl, -, rfl⟩ := hv
              have hE := HL.out.each _ (List.mem_of_getElem? hx)
              have hS := HL.out.small _ (List.mem_of_getElem? hx)
              dsimp only at hE hS
              obtain ⟨sa, sc, ya, yc, hv⟩ := hE.agg
              simp only [Value.agg.injEq, Array.mk.injEq, List.cons.injEq, and_true] at hv
              obtain ⟨rfl, rfl⟩ := hv
              obtain ⟨n1, hn1⟩ : ∃ m, o.secs.length = m := ⟨_, rfl⟩
              obtain ⟨n2, hn2⟩ : ∃ m, o.syms.length = m := ⟨_, rfl⟩
              have hn2b : n2 ≤ 13 := by rw [← hn2]; exact hS.lb
              rw [hn1, hn2] at hE hx
              have HN2 := Lib.hid hn2
              have HE := Lib.hid hE
              have HSM := Lib.hid hS
              have HX := Lib.hid hx
              obtain ⟨c0, c1⟩ := HL.out.cells HNX.out hx
              dsimp only at c0 c1
              clear hE hS hn1 hn2 hx hrow
              go_wp2_with fail
              refine (s_NamesGiven wo _ o HE.out.obj.reads HSM.out.len).mono ?_
              rintro e w5 ⟨r, rfl, hr, k5⟩
              obtain ⟨NG, hNG⟩ : ∃ l, namesL gvnB o = l := ⟨_, rfl⟩
              have hNl : NG.length ≤ 13 := by rw [← hNG]; have := namesL_length gvnB o; have := HN2.out; omega
              have HNS : Hid (∀ s ∈ NG, s.size ≤ 9) := by show ∀ s ∈ NG, _; rw [← hNG]; exact gvn_small HSM.out
              rw [hNG] at hr
              obtain ⟨nN, hnN⟩ : ∃ m, NG.length = m := ⟨_, rfl⟩
              have hr2 := reads_of_owns hr
              have HNN := Lib.hid hnN
              obtain ⟨ra, rc, rfl⟩ : ∃ ra rc, r = .slice ra nN rc := by rw [← hnN]; exact owns_form hr
              rw [hnN] at hr2 hNl
              have HR5 := Lib.hid hr2
              have HL5 := Lib.hid (HL.out.call k5)
              have HD5 := Lib.hid (HD.out.below k5)
              have HG5 := Lib.hid (owns_call HGR.out k5)
              have BS5 : Hid (b2 ≤ w5.heap.size) := Nat.le_trans BS.out k5.size
              clear hNG hr hr2 hnN k5 HL HD HG HGR c0 c1
              go_wp2_with (at_builtin; go_loud (refine wpList_append_src rfl (.tmp 72) (.tmp 77) 50 50 rfl b2 9 t0 (.string ⟨#[]⟩) 1 16 Try.underlying50 ht0 ta0 ta1 ta2 rfl (by decide) _ _ _ rfl HG5.out _ nN (svs NG) rfl (src_reads Try.underlying50 HR5.out (svs_one _)) ?c1 ?c2 ?c3 ?_))
              case c1 => unfold maxLen; omega
              case c2 => omega
              case c3 => exact BS5.out
              intro v' w6 hown hgr
              have HG6 : Hid (OwnS w6 b2 v' (G ++ NG)) := by
                show World.ownsRow _ _ _ _ _ _ _
                rw [List.length_append, HGN.out, HNN.out]
                unfold svs at hown ⊢
                rw [List.map_append]
                exact hown
              have HL6 := Lib.hid (HL5.out.other (Other.grown (bs := (Value.slice ga nG gc).ownBlock.toList) hgr (fun k hk => by simpa using hk)) (fun k hk hm => by have := (World.ownsRow.lt HG5.out k (by simpa using hm)).1; have := HLO2.out k hk; omega) (fun x hx k hk hm => by have := (World.ownsRow.lt HG5.out k (by simpa using hm)).1; have := HLT2.out x hx k hk; omega))
              have HD6 := Lib.hid (HD5.out.grownRow hgr (fun k hk => by rw [HB0.out]; have := (World.ownsRow.lt HG5.out k hk).1; have := HB2.out; omega) (by rw [HB0.out]; exact zg))
              have BS6 : Hid (b2 ≤ w6.heap.size) := Nat.le_trans BS5.out hgr.size
              have HGS6 : Hid (∀ s ∈ G ++ NG, s.size ≤ 9) := fun s hs => by rcases List.mem_append.1 hs with hs | hs; exact HGS.out s hs; exact HNS.out s hs
              have hl6 : (G ++ NG).length ≤ 13 * (k + 1) := by rw [List.length_append, HGN.out, HNN.out]; omega
              have HL66 := Lib.hid hl6
              clear hown hgr hl6 HG5 HL5 HD5 HR5
              go_wp2_with fail
              go_roundw
              case rel => exact ⟨k + 1, G ++ NG, by omega, by go_num, HL66.out, HGS6, HG6, HL6, HD6, BS6⟩
              case measure => simp [intOf]; try omega
            · obtain rfl : nx = k := by omega
              go_wp2_with fail
              go_loopw [11] (fun i wr => ∃ (k q : Nat) (xs' : List EntJ), k ≤ nx ∧ i = .int .i64 (k : Int) ∧ q ≤ q0 + 1 + 13 * k ∧ Hid (xs'.length = nx) ∧ Hid (∀ x ∈ xs', ∀ k ∈ x.2.2.2, k < b2) ∧ Hid (OwnS wr b2 (.slice ga nG gc) G) ∧ Hid (OL wr b0 (.slice oa nx oc) xs') ∧ Hid (Drawn g q w wr)) (fun i _ => nx - (intOf i).toNat)
              case atStart => exact ⟨0, q0 + 1, xs, Nat.zero_le _, rfl, by omega, HNX, HLT2, HG, HL, HD⟩
              case round =>
                clear HG HL HD HNX HLT2 HGR BS
                obtain ⟨wo, rfl⟩ : ∃ wo, wo = wr := ⟨_, rfl⟩
                obtain ⟨k, q1, xs1, hk1, rfl, hq1, HNX, HLT2, HG, HL, HD⟩ := hrel
                by_cases hlt : k < nx
                · have i1 : (k : Int) < (nx : Int) := by omega
                  have i3 : (0 : Int) ≤ (k : Int) := by omega
                  go_wp2_with fail
                  go_loopw [12] (fun i wr => ∃ (j q : Nat) (xs' : List EntJ), j ≤ 13 ∧ i = .int .i64 (j : Int) ∧ q ≤ q1 + j ∧ Hid (xs'.length = nx) ∧ Hid (∀ x ∈ xs', ∀ k ∈ x.2.2.2, k < b2) ∧ Hid (OwnS wr b2 (.slice ga nG gc) G) ∧ Hid (OL wr b0 (.slice oa nx oc) xs') ∧ Hid (Drawn g q w wr)) (fun i _ => 13 - (intOf i).toNat)
                  case atStart => exact ⟨0, q1, xs1, by omega, rfl, Nat.le_refl _, HNX, HLT2, HG, HL, HD⟩
                  case round =>
                    clear HG HL HD HNX HLT2
                    obtain ⟨wo, rfl⟩ : ∃ wo, wo = wr := ⟨_, rfl⟩
                    obtain ⟨j, q2, xs, hj, rfl, hq2, HNX, HLT2, HG, HL, HD⟩ := hrel
                    obtain ⟨x, hx⟩ : ∃ x, xs[k]? = some x := ⟨_, List.getElem?_eq_getElem (by rw [HNX.out]; exact hlt)⟩
                    obtain ⟨o, vs, vy, bs⟩ := x
                    have hrow : wo.ownsRow b0 29 2 (.slice oa nx oc) nx (xs.flatMap objJ) := by have h9 := HL.out.row; rw [HNX.out] at h9; exact h9
                    obtain ⟨gr, gcap, hv⟩ := row_someJ hrow (by intro e; simp only [Value.slice.injEq] at e; omega)
                    simp only [Value.slice.injEq] at hv
                    obtain ⟨rfl, -, rfl⟩ := hv
                    have hE := HL.out.each _ (List.mem_of_getElem? hx)
                    have hS := HL.out.small _ (List.mem_of_getElem? hx)
                    dsimp only at hE hS
                    obtain ⟨sa, sc, ya, yc, hv⟩ := hE.agg
                    simp only [Value.agg.injEq, Array.mk.injEq, List.cons.injEq, and_true] at hv
                    obtain ⟨rfl, rfl⟩ := hv
                    obtain ⟨n1, hn1⟩ : ∃ m, o.secs.length = m := ⟨_, rfl⟩
                    obtain ⟨n2, hn2⟩ : ∃ m, o.syms.length = m := ⟨_, rfl⟩
                    have hn2b : n2 ≤ 13 := by rw [← hn2]; exact hS.lb
                    rw [hn1, hn2] at hE hx
                    have HN2 := Lib.hid hn2
                    have HE := Lib.hid hE
                    have HSM := Lib.hid hS
                    have HX := Lib.hid hx
                    obtain ⟨c0, c1⟩ := HL.out.cells HNX.out hx
                    dsimp only at c0 c1
                    clear hE hS hn1 hn2 hx hrow
                    obtain ⟨bq, hbq⟩ : ∃ b : Bool, decide (j < n2 ∧ 0 < nG) = b := ⟨_, rfl⟩
                    have HBQ := Lib.hid hbq
                    clear hbq
                    go_upto_region 22 with fail
                    go_cut [97] from 85 to 150 (fun c wx => c = .bool bq ∧ wx = wo)
                    case first =>
                      by_cases h1 : j < n2
                      · have i4 : (j : Int) < (n2 : Int) := by omega
                        by_cases h2 : 0 < nG
                        · have i5 : (0 : Int) < (nG : Int) := by omega
                          have e1 : bq = true := by rw [← HBQ.out]; simp [h1, h2]
                          subst e1
                          go_wp2_with fail
                          go_meet
                          case rel => exact ⟨rfl, rfl⟩
                        · have i5 : ¬ (0 : Int) < (nG : Int) := by omega
                          have e1 : bq = false := by rw [← HBQ.out]; simp [h2]
                          subst e1
                          go_wp2_with fail
                          go_meet
                          case rel => exact ⟨rfl, rfl⟩
                      · have i4 : ¬ (j : Int) < (n2 : Int) := by omega
                        have e1 : bq = false := by rw [← HBQ.out]; simp [h1]
                        subst e1
                        go_wp2_with fail
                        go_meet
                        case rel => exact ⟨rfl, rfl⟩
                    case rest =>
                      obtain ⟨rfl, rfl⟩ := hcut
                      obtain ⟨wo, rfl⟩ : ∃ wo, wo = wc := ⟨_, rfl⟩
                      cases bq with
                      | false =>
                        go_wp2_with fail
                        go_roundw
                        case rel => exact ⟨k + 1, q2, xs, by omega, by go_num, by omega, HNX, HLT2, HG, HL, HD⟩
                        case measure => simp [intOf]; try omega
                      | true =>
                        obtain ⟨hj2, hG0⟩ := of_decide_eq_true HBQ.out
                        have i4 : (j : Int) < (n2 : Int) := by omega
                        have i5 : (0 : Int) ≤ (j : Int) := by omega
                        obtain ⟨hrow, hbl⟩ := HE.out.symRow HN2.out
                        obtain ⟨gy, gc2, hv⟩ := row_someJ hrow (by intro e; simp only [Value.slice.injEq] at e; omega)
                        simp only [Value.slice.injEq] at hv
                        obtain ⟨rfl, -, rfl⟩ := hv
                        have hgy := HLT2.out _ (List.mem_of_getElem? HX.out) gy (hbl gy rfl)
                        have hgy0 : b0 ≤ gy := (World.ownsRow.lt hrow gy rfl).1
                        obtain ⟨y, hy⟩ : ∃ y, o.syms[j]? = some y := ⟨_, List.getElem?_eq_getElem (by rw [HN2.out]; exact hj2)⟩
                        obtain ⟨nm, bd, wh, vl⟩ := y
                        obtain ⟨g0, g1, g2, g3⟩ := symsJ_cells hrow HN2.out hy
                        dsimp only at g0 g1 g2
                        have HY := Lib.hid hy
                        have HRY := Lib.hid hrow
                        have HGB : Hid (gy < b2 ∧ b0 ≤ gy) := ⟨hgy, hgy0⟩
                        clear hy hrow hbl hgy hgy0 g0 g1 g3
                        by_cases m1 : wh = -1
                        case neg =>
                          have e1 : (wh != -1) = true := by simpa using m1
                          clear m1
                          go_wp2_with fail
                          go_roundw
                          case rel => exact ⟨j + 1, q2, xs, by omega, by go_num, by omega, HNX, HLT2, HG, HL, HD⟩
                          case measure => simp [intOf]; try omega
                        have e1 : (wh != -1) = false := by simpa using m1
                        clear m1
                        have hGR : wo.ownsRow b2 9 1 (.slice ga nG gc) nG (svs G) := by have h9 := HG.out; unfold OwnS at h9; rw [HGN.out] at h9; exact h9
                        obtain ⟨gg, ggc, hv⟩ := row_someJ hGR (by intro e; simp only [Value.slice.injEq] at e; omega)
                        simp only [Value.slice.injEq] at hv
                        obtain ⟨rfl, -, rfl⟩ := hv
                        go_wp2_with fail
                        refine (pick_in wo _ g _ (Drawn.start HD.out.rd) (by omega) (nG : Int) (by omega) (by omega)).mono ?_
                        rintro e w5 ⟨x, rfl, hx0, hx1, hD⟩
                        obtain ⟨X, rfl⟩ := Int.eq_ofNat_of_zero_le hx0
                        have hXG : X < nG := by omega
                        have HL5 := Lib.hid (HL.out.drawn hD.grow zg)
                        have HD5 := Lib.hid (HD.out.next hD)
                        have hGR5 := owns_drawn hGR hD.grow (by have := HB2.out; omega)
                        have HG5 : Hid (OwnS w5 b2 (.slice (some ⟨gg, 0, none⟩) nG gc) G) := owns_drawn HG.out hD.grow (by have := HB2.out; omega)
                        have HRY5 := Lib.hid (owns_drawn HRY.out hD.grow zg)
                        obtain ⟨nm2, hnm2⟩ : ∃ s, G[X]? = some s := ⟨_, List.getElem?_eq_getElem (by rw [HGN.out]; exact hXG)⟩
                        have hns := HGS.out nm2 (List.mem_of_getElem? hnm2)
                        have cX : w5.cell? ⟨gg, X, none⟩ = some (.string nm2) := by
                          rw [World.ownsRow.cellAt hGR5 X (by omega)]
                          unfold svs
                          rw [List.getElem?_map, hnm2]; rfl
                        obtain ⟨c0, c1⟩ := HL5.out.cells HNX.out HX.out
                        dsimp only at c0 c1
                        have i6 : (0 : Int) ≤ (X : Int) := by omega
                        have HST := Lib.hid (HL5.out.setSym (f := 0) (z := .string nm2) HX.out HY.out (by decide) (s' := ⟨nm2, bd, wh, vl⟩) rfl hns)
                        clear hD hGR hGR5 hnm2 hns HL HD HG HRY g2
                        go_wp2_with fail
                        go_loopw [14, 15] (fun f i wr => ∃ (b : Bool) (m : Nat), f = .bool b ∧ i = .int .i64 (m : Int) ∧ m ≤ n2 ∧ wr = w5) (fun _ i _ => n2 - (intOf i).toNat)
                        case atStart => exact ⟨true, 0, rfl, rfl, Nat.zero_le _, rfl⟩
                        case round =>
                          obtain ⟨b, m, rfl, rfl, hm, rfl⟩ := hrel
                          by_cases hlm : m < n2
                          · have i7 : (m : Int) < (n2 : Int) := by omega
                            have i8 : (0 : Int) ≤ (m : Int) := by omega
                            obtain ⟨y2, hy2⟩ : ∃ y, o.syms[m]? = some y := ⟨_, List.getElem?_eq_getElem (by rw [HN2.out]; exact hlm)⟩
                            obtain ⟨nm3, bd3, wh3, vl3⟩ := y2
                            have g5 := (symsJ_cells HRY5.out HN2.out hy2).1
                            dsimp only at g5
                            clear hy2
                            cases b with
                            | false =>
                              go_wp2_with fail
                              go_roundw
                              case rel => exact ⟨false, m + 1, rfl, by go_num, by omega, by first | rfl | trivial⟩
                              case measure => simp [intOf]; try omega
                            | true =>
                              by_cases hq : nm3.toList = nm2.toList
                              · have hq2 : (nm3.toList == nm2.toList) = true := by rw [hq]; simp
                                go_wp2_with fail
                                go_roundw
                                case rel => exact ⟨false, m + 1, rfl, by go_num, by omega, by first | rfl | trivial⟩
                                case measure => simp [intOf]; try omega
                              · have hq2 : (nm3.toList == nm2.toList) = false := by simpa using hq
                                go_wp2_with fail
                                go_roundw
                                case rel => exact ⟨true, m + 1, rfl, by go_num, by omega, by first | rfl | trivial⟩
                                case measure => simp [intOf]; try omega
                          · obtain rfl : n2 = m := by omega
                            cases b with
                            | false =>
                              go_wp2_with fail
                              go_roundw
                              case rel => exact ⟨j + 1, q2 + 1, xs, by omega, by go_num, by omega, HNX, HLT2, HG5, HL5, HD5⟩
                              case measure => simp [intOf]; try omega
                            | true =>
                              have fq := World.ownsRow.frozenAt HRY5.out (j * 4)
                              have cq := (symsJ_cells HRY5.out HN2.out HY.out).1
                              dsimp only at cq
                              have hos : Other [gy] wr (wr.setCell ⟨gy, j * 4, none⟩ (.string nm2)) := Other.setCell (by simp) _
                              have HG9 : Hid (OwnS (wr.setCell ⟨gy, j * 4, none⟩ (.string nm2)) b2 (.slice (some ⟨gg, 0, none⟩) nG gc) G) := owns_other HG5.out hos (fun k hk hm => by
                                obtain rfl := List.mem_singleton.1 hm
                                have := (World.ownsRow.lt HG5.out _ hk).1
                                have := HGB.out.1
                                omega)
                              have HD9 := Lib.hid (HD5.out.set (k := gy) (by rw [HB0.out]; exact HGB.out.2) (by rw [HB0.out]; exact zg) (j * 4) (.string nm2))
                              have HL9 := Lib.hid HST.out.1
                              have HLT9 : Hid (∀ x ∈ xs.set k (⟨o.secs, o.syms.set j ⟨nm2, bd, wh, vl⟩⟩, Value.slice sa n1 sc, .slice (some ⟨gy, 0, none⟩) n2 yc, bs), ∀ k ∈ x.2.2.2, k < b2) := fun x hx => by
                                rcases List.mem_or_eq_of_mem_set hx with hx | rfl
                                · exact HLT2.out x hx
                                · have h9 := HLT2.out _ (List.mem_of_getElem? HX.out)
                                  exact h9
                              have HN9 : Hid ((xs.set k (⟨o.secs, o.syms.set j ⟨nm2, bd, wh, vl⟩⟩, Value.slice sa n1 sc, .slice (some ⟨gy, 0, none⟩) n2 yc, bs)).length = nx) := by show _ = _; rw [List.length_set, HNX.out]
                              clear hos HG5 HL5 HD5 HST HNX HLT2
                              go_wp2_with fail
                              go_roundw
                              case rel => exact ⟨j + 1, q2 + 1, _, by omega, by go_num, by omega, HN9, HLT9, HG9, HL9, HD9⟩
                              case measure => simp [intOf]; try omega
                · obtain rfl : nx = k := by omega
                  go_wp2_with fail
                  go_meet
                  case rel => exact ⟨q1, xs1, by omega, HNX, HL, HD⟩
        case false =>
          go_wp2_with fail
          go_meet
          case rel => exact ⟨q0 + 1, xs, by omega, HNX, HL3, HD3⟩
      case rest =>
        clear HL3 HD3 HNX
        clear xs
        obtain ⟨q, xs, hq4, HNX, HL, HD⟩ := hcut
        go_wp2_with fail
        refine (odd_any wc g q HD.out.rd (by omega) n h0 (by omega)).mono ?_
        rintro e w5 ⟨_, q5, rfl, ⟨b5, rfl⟩, hq5, hD⟩
        have HL5 := Lib.hid (HL.out.drawn hD.grow zg)
        have HD5 := Lib.hid (HD.out.next hD)
        clear hD HL HD
        go_upto_if 153 with fail
        go_cut [5] (fun s wx => ∃ (q : Nat) (xs' : List EntJ), q ≤ q0 + 20201 ∧ xs'.length ≤ 4 ∧ Hid (OL wx b0 s xs') ∧ Hid (Drawn g q w wx))
        case first =>
          cases b5
          case true =>
            go_wp2_with fail
            refine (l20Object_any w5 g q5 HD5.out.rd (by omega) 1 (by decide) (by decide)).mono ?_
            rintro e w6 ⟨_, q6, rfl, hO, hq6, hD⟩
            have HLT : Hid (∀ k, ((Value.slice oa nx oc).ownBlock = some k ∨ ∃ x ∈ xs, k ∈ x.2.2.2) → k < w5.heap.size) := fun k hk => (HL5.out.lt k hk).2
            have HL6 := Lib.hid (HL5.out.drawn hD.grow zg)
            have HD6 := Lib.hid (HD5.out.next hD)
            obtain ⟨o, vs, vy, bs, rfl, hB, hS⟩ := hO.ownB
            obtain ⟨sa, sc, ya, yc, hv⟩ := hB.agg
            simp only [Value.agg.injEq, Array.mk.injEq, List.cons.injEq, and_true] at hv
            obtain ⟨rfl, rfl⟩ := hv
            obtain ⟨n1, hn1⟩ : ∃ m, o.secs.length = m := ⟨_, rfl⟩
            obtain ⟨n2, hn2⟩ : ∃ m, o.syms.length = m := ⟨_, rfl⟩
            rw [hn1, hn2] at hB
            have HBB := Lib.hid hB
            have HSM := Lib.hid hS
            have HBO : Hid (b0 ≤ w5.heap.size) := by show _ ≤ _; have := HD5.out.grow.size; have := HB0.out; omega
            have hrow : w6.ownsRow b0 29 2 (.slice oa nx oc) nx (xs.flatMap objJ) := by have h9 := HL6.out.row; rw [HNX.out] at h9; exact h9
            have HRW := Lib.hid hrow
            have BS6 : Hid (b0 ≤ w6.heap.size) := by show _ ≤ _; have := HD6.out.grow.size; have := HB0.out; omega
            have hnx9 : nx ≤ 3 := by omega
            rw [hn1, hn2]
            clear hB hS hn1 hn2 hO hD HL5 HD5 hrow
            go_wp2_with (at_builtin; go_loud (refine wpList_append_own rfl (.tmp 154) (.tmp 157) 23 23 rfl b0 29 j0 _ 2 48 Try.underlying23 hj0 ja0 ja1 ja2 rfl (by decide) _ _ _ rfl (World.ownsRow.alloc HRW.out _) _ 1 [_, _] rfl (src_new Try.underlying23 _ [_, _] 2 1 1 _ rfl ?c0) ?c1 ?c2 ?c3 ?_))
            case c0 =>
              intro u hu
              simp only [List.mem_cons, List.not_mem_nil, or_false] at hu
              rcases hu with rfl | rfl <;> rfl
            case c1 => unfold maxLen; omega
            case c2 => omega
            case c3 => have h9 := BS6.out; first | omega | (simp; omega)
            intro v' w7 hown hgr hpl
            have hb6 := ((From.start w6).alloc (.cells #[.slice sa n1 sc, .slice ya n2 yc] 29)).below
            have h6 : OL w7 b0 v' (xs ++ [(o, .slice sa n1 sc, .slice ya n2 yc, bs)]) := (HL6.out.alloc (.cells #[.slice sa n1 sc, .slice ya n2 yc] 29)).snoc (x := (o, .slice sa n1 sc, .slice ya n2 yc, bs)) ((HBB.out.call hb6).mono HBO.out) (fun k hk hm => by
                have := HLT.out k (.inl hk); have := (HBB.out.lt k hm).1; omega) (fun y hy k hk hm => by
                have := HLT.out k (.inr ⟨y, hy, hk⟩); have := (HBB.out.lt k hm).1; omega) HSM.out hgr (by rw [HNX.out]; exact hown) (by simpa using hpl)
            have HL7 := Lib.hid h6
            have HD7 := Lib.hid ((HD6.out.alloc (.cells #[.slice sa n1 sc, .slice ya n2 yc] 29)).grownRow hgr (fun k hk => by rw [HB0.out]; exact (World.ownsRow.lt HRW.out k hk).1) (by rw [HB0.out]; exact zg))
            have hxl : (xs ++ [(o, Value.slice sa n1 sc, Value.slice ya n2 yc, bs)]).length ≤ 4 := by rw [List.length_append, HNX.out]; show nx + 1 ≤ 4; omega
            have HXL := Lib.hid hxl
            clear hown hgr hpl h6 hb6 hxl HL6 HD6 HRW
            go_wp2_with fail
            go_meet
            case rel => exact ⟨q6, _, by omega, HXL.out, HL7, HD7⟩
          case false =>
            have hnx9 : xs.length ≤ 4 := by rw [HNX.out]; omega
            go_wp2_with fail
            go_meet
            case rel => exact ⟨q5, xs, by omega, hnx9, HL5, HD5⟩
        case rest =>
          clear HL5 HD5
          obtain ⟨q7, xs7, hq7, hx7, HL, HD⟩ := hcut
          obtain ⟨la, lc, rfl⟩ := owns_form HL.out.row
          go_wp2_with fail
          refine (odd_any wc g q7 HD.out.rd (by omega) (2 * n) (by omega) (by omega)).mono ?_
          rintro e w8 ⟨_, q8, rfl, ⟨b8, rfl⟩, hq8, hD⟩
          have HL8 := Lib.hid (HL.out.drawn hD.grow zg)
          have HD8 := Lib.hid (HD.out.next hD)
          clear hD HL HD
          cases b8
          case true =>
            go_wp2_with (at_make; refine wpList_make_full _ rfl _ _ 23 rfl b0 29 j0 _ 2 Try.underlying23 hj0 ja0 ja1 _ _ _ _ 5 rfl rfl rfl rfl ?c1 ?c2 ?c3 ?_)
            case c1 => rw [ja2]; omega
            case c2 => unfold maxLen; omega
            case c3 => have := HD8.out.grow.size; have := HB0.out; omega
            intro w9 hown hgr
            have hL9 := OL.zeros hown
            have HL9 := Lib.hid hL9
            have HD9 := Lib.hid (HD8.out.grownRow hgr (fun k hk => by cases hk) (by rw [HB0.out]; exact zg))
            clear hown hgr hL9 HL8 HD8
            go_wp2_with fail
            go_ret
            exact ⟨_, q8, rfl, ⟨_, HL9.out, by rw [List.length_replicate]; decide⟩, by omega, HD9.out⟩
          case false =>
            go_wp2_with fail
            go_ret
            exact ⟨_, q8, rfl, ⟨xs7, HL8.out, by omega⟩, by omega, HD8.out⟩
end Go.Proofs.Ytpgmmjdianoaeaa
