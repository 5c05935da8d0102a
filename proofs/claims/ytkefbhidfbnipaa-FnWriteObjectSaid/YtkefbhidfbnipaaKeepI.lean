/- Objects with some of their symbols: the program. -/
import Derived.Test.YtkefbhidfbnipaaCopyO
import Derived.Test.YtkefbhidfbnipaaPlainK
import Derived.Test.YtkefbhidfbnipaaIdx
import Derived.Test.YtkefbhidfbnipaaLen
namespace Go.Proofs.Ytkefbhidfbnipaa
open Go.ChangeShapes Go.WideShapes Go.ChangeAt Go.RowKit Go.Joins
set_option linter.unusedSimpArgs false
set_option linter.unusedVariables false
set_option maxRecDepth 100000
theorem below_of_grown {w w' : World} (h : w.grownBy w' none) : Below w.heap.size w w' := ⟨h.os, h.tape, h.output, h.size, fun k hk => h.block k hk (by simp)⟩
theorem OwnObj.mono {w : World} {base base' : Nat} {v : Value} {o : ObjD} (h : OwnObj w base v o) (hb : base' ≤ base) : OwnObj w base' v o := by
  obtain ⟨vs, vy, ls, h1, h2, h3, h4, h5⟩ := h
  exact ⟨vs, vy, ls, h1, h2, h3.mono hb, owns_mono h4 hb, h5⟩
/-- A block of another type holds no part of sections. -/
theorem secs_apart {u : World} {T B : Nat} {c : Array Value} {t : TypeId} {v : Value} {ls : List (SecD × Value × Value)} (h : Blk u T c t) (ho : OwnSecs u B v ls) (h1 : 52 ≠ t) (h2 : 5 ≠ t) (h3 : 59 ≠ t) : ∀ k ∈ v.ownBlock.toList ++ blksOf ls, k ≠ T := by
  rintro k hk rfl
  rcases List.mem_append.1 hk with hk | hk
  · exact blk_apart h ho.row h1 (show v.ownBlock = some k from by simpa using hk).symm
  · obtain ⟨x, hx, hk⟩ := List.mem_flatMap.1 hk
    rcases List.mem_append.1 hk with hk | hk
    · exact blk_apart h (ho.each x hx).1 h2 (show x.2.1.ownBlock = some k from by simpa using hk).symm
    · exact blk_apart h (ho.each x hx).2 h3 (show x.2.2.ownBlock = some k from by simpa using hk).symm
theorem row_apart {u : World} {T B : Nat} {c : Array Value} {t e : TypeId} {size : Nat} {v : Value} {n : Nat} {xs : List Value} (h : Blk u T c t) (ho : u.ownsRow B e size v n xs) (hne : e ≠ t) : ∀ k ∈ v.ownBlock.toList, k ≠ T := by
  rintro k hk rfl
  exact blk_apart h ho hne (show v.ownBlock = some k from by simpa using hk).symm
theorem OwnSecs.storeB {u : World} {T B : Nat} {c : Array Value} {t : TypeId} {v : Value} {ls : List (SecD × Value × Value)} (ho : OwnSecs u B v ls) (h : Blk u T c t) (h1 : 52 ≠ t) (h2 : 5 ≠ t) (h3 : 59 ≠ t) (j : Nat) (x : Value) : OwnSecs (u.setCell ⟨T, j, none⟩ x) B v ls :=
  ho.other (Other.setCell (bs := [T]) (p := ⟨T, j, none⟩) (by simp) x) fun k hk hm => secs_apart h ho h1 h2 h3 k hk (by simpa using hm)
theorem row_storeB {u : World} {T B : Nat} {c : Array Value} {t e : TypeId} {size : Nat} {v : Value} {n : Nat} {xs : List Value} (ho : u.ownsRow B e size v n xs) (h : Blk u T c t) (hne : e ≠ t) (j : Nat) (x : Value) : (u.setCell ⟨T, j, none⟩ x).ownsRow B e size v n xs :=
  owns_other ho (Other.setCell (bs := [T]) (p := ⟨T, j, none⟩) (by simp) x) fun k hk hm => row_apart h ho hne k (by simpa using hk) (by simpa using hm)
/-- Sections lie apart from a row of another type. -/
theorem secs_row_ne {u : World} {B B' size n : Nat} {e : TypeId} {v v' : Value} {xs : List Value} {ls : List (SecD × Value × Value)} (ho : OwnSecs u B v ls) (hr : u.ownsRow B' e size v' n xs) (h1 : 52 ≠ e) (h2 : 5 ≠ e) (h3 : 59 ≠ e) : ∀ k, v'.ownBlock = some k → k ∉ v.ownBlock.toList ++ blksOf ls := by
  intro k hk hm
  rcases List.mem_append.1 hm with hm | hm
  · exact owns_ne ho.row hr h1 k (by simpa using hm) hk
  · obtain ⟨x, hx, hm⟩ := List.mem_flatMap.1 hm
    rcases List.mem_append.1 hm with hm | hm
    · exact owns_ne (ho.each x hx).1 hr h2 k (by simpa using hm) hk
    · exact owns_ne (ho.each x hx).2 hr h3 k (by simpa using hm) hk
/-- Sections outlive what grows in a row of another type. -/
theorem OwnSecs.keptNe {u u' : World} {B B' size n : Nat} {e : TypeId} {v v' : Value} {xs : List Value} {ls : List (SecD × Value × Value)} (ho : OwnSecs u B v ls) (hr : u.ownsRow B' e size v' n xs) (h1 : 52 ≠ e) (h2 : 5 ≠ e) (h3 : 59 ≠ e) (hg : u.grownBy u' v'.ownBlock) : OwnSecs u' B v ls :=
  ho.other (Other.grown (bs := v'.ownBlock.toList) hg fun k hk => by simpa using hk) fun k hk hm => secs_row_ne ho hr h1 h2 h3 k (by simpa using hm) hk
/-- One fixup of one section is written over. -/
theorem OwnSecs.fixAt {w : World} {base g n c j : Nat} {v : Value} {D R : List (SecD × Value × Value)} {x : SecD} {vb : Value} (h : OwnSecs w base v (D ++ (x, vb, .slice (some ⟨g, 0, none⟩) n c) :: R)) (hn : x.fix.length = n) {f f' : FixD} (hf : x.fix[j]? = some f) (i : Nat) (hi : i < 4) (u : Value) (hx : fixL f' = (fixL f).set i u) :
    OwnSecs (w.setCell ⟨g, j * 4 + i, none⟩ u) base v (D ++ (⟨x.name, x.kind, x.align, x.bytes, x.size, x.fix.set j f'⟩, vb, .slice (some ⟨g, 0, none⟩) n c) :: R) ∧ Other [g] w (w.setCell ⟨g, j * 4 + i, none⟩ u) := by
  subst hn
  have hm := (h.each (x, vb, .slice (some ⟨g, 0, none⟩) x.fix.length c) (by simp)).2
  have h1 := World.ownsRow.stored hm (j * 4 + i) u
  refine ⟨h.fixups (x.fix.set j f') h1.2 ?_, Other.setCell (by simp) u⟩
  have h2 := h1.1
  simp only at h2 ⊢
  rw [fixCells_flat, rows_set fixL 4 fixL_length hf i u hi hx, ← fixCells_flat] at h2
  unfold OwnF
  rw [List.length_set]
  exact h2
theorem fix_cell {w : World} {base g n c j : Nat} {l : List FixD} (h : OwnF w base (.slice (some ⟨g, 0, none⟩) n c) l) (hn : l.length = n) {f : FixD} (hf : l[j]? = some f) (i : Nat) (hi : i < 4) : w.cell? ⟨g, j * 4 + i, none⟩ = (fixL f)[i]? := by
  subst hn
  have hj : j < l.length := (List.getElem?_eq_some_iff.1 hf).1
  rw [World.ownsRow.cellAt h (j * 4 + i) (by omega), fixCells_flat, rows_at fixL 4 fixL_length hf i hi]
theorem ints_cell {w : World} {base g n c j : Nat} {l : List Int} (h : OwnI w base (.slice (some ⟨g, 0, none⟩) n c) l) (hn : l.length = n) {f : Int} (hf : l[j]? = some f) : w.cell? ⟨g, j, none⟩ = some (.int .i64 f) := by
  subst hn
  have hj : j < l.length := (List.getElem?_eq_some_iff.1 hf).1
  have := World.ownsRow.cellAt h j (by omega)
  rw [this, ivs_get hf]
@[reducible] def objBox (vs vy : Value) : Array Value := #[vs, vy]
end Go.Proofs.Ytkefbhidfbnipaa
