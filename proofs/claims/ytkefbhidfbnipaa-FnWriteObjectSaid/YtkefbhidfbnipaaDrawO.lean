/- What the statements draw: objects. What the statements on objects draw. -/
import Derived.Test.YtkefbhidfbnipaaDrawY
import Derived.Test.YtkefbhidfbnipaaBytes
namespace Go.Proofs.Ytkefbhidfbnipaa
/-! DrawO -/
open Go.ChangeShapes Go.WideShapes Go.ChangeAt Go.RowKit Go.Joins
set_option linter.unusedSimpArgs false
set_option linter.unusedVariables false
set_option maxRecDepth 100000
@[reducible] def objCells (vs vy : Value) : Array Value := #[vs, vy]
@[reducible] def objZero : Array Value := #[.slice none 0 0, .slice none 0 0]
/-- An object that is being drawn: in block B; what it holds is the call's own. -/
structure ObjSt (g q : Nat) (w0 u : World) (B a b : Nat) (ls : List (SecD × Value × Value)) (ys : List SymD) (vs vy : Value) : Prop where
  rd : Drawn g q w0 u
  top : Blk u w0.heap.size objZero 26
  blk : Blk u B (objCells vs vy) 26
  secs : OwnSecs u (B + 1) vs ls
  syms : OwnSyms u (B + 1) vy ys
  sep : ∀ k, vy.ownBlock = some k → k ∉ vs.ownBlock.toList ++ blksOf ls
  lt : w0.heap.size < B
  sm : SmallSecs ls
  nm : ∀ y ∈ ys, y.name.size ≤ 9
  la : ls.length ≤ a
  lb : ys.length ≤ b
theorem ObjSt.next {g q q' : Nat} {w0 u u' : World} {B a b : Nat} {ls : List (SecD × Value × Value)} {ys : List SymD} {vs vy : Value} (h : ObjSt g q w0 u B a b ls ys vs vy) (hg : g < w0.heap.size) (hD : Drawn g q' u u') : ObjSt g q' w0 u' B a b ls ys vs vy :=
  have h1 := h.lt
  ⟨h.rd.next hD, h.top.drawn hD (by omega), h.blk.drawn hD (by omega), h.secs.drawn hD.grow (by omega), owns_drawn h.syms hD.grow (by omega), h.sep, h.lt, h.sm, h.nm, h.la, h.lb⟩
theorem ObjSt.alloc {g q : Nat} {w0 u : World} {B a b : Nat} {ls : List (SecD × Value × Value)} {ys : List SymD} {vs vy : Value} (h : ObjSt g q w0 u B a b ls ys vs vy) (o : Obj) : ObjSt g q w0 (u.alloc o) B a b ls ys vs vy :=
  ⟨h.rd.alloc o, h.top.alloc o, h.blk.alloc o, h.secs.alloc o, World.ownsRow.alloc h.syms o, h.sep, h.lt, h.sm, h.nm, h.la, h.lb⟩
theorem ObjSt.call {g q : Nat} {w0 u u' : World} {B a b : Nat} {ls : List (SecD × Value × Value)} {ys : List SymD} {vs vy : Value} (h : ObjSt g q w0 u B a b ls ys vs vy) (hb : Below u.heap.size u u') : ObjSt g q w0 u' B a b ls ys vs vy :=
  ⟨h.rd.below hb, h.top.call hb, h.blk.call hb, h.secs.call hb, owns_call h.syms hb, h.sep, h.lt, h.sm, h.nm, h.la, h.lb⟩
theorem ObjSt.drewN {g q : Nat} {w0 u : World} {B a b : Nat} {ls : List (SecD × Value × Value)} {ys : List SymD} {vs vy : Value} (h : ObjSt g q w0 u B a b ls ys vs vy) (n : Nat) : ObjSt g q w0 (u.drewN n) B a b ls ys vs vy :=
  h.call ((From.start u).drewN n).below
theorem ObjSt.more {g q : Nat} {w0 u : World} {B a b a' b' : Nat} {ls : List (SecD × Value × Value)} {ys : List SymD} {vs vy : Value} (h : ObjSt g q w0 u B a b ls ys vs vy) (ha : a ≤ a') (hb : b ≤ b') : ObjSt g q w0 u B a' b' ls ys vs vy :=
  ⟨h.rd, h.top, h.blk, h.secs, h.syms, h.sep, h.lt, h.sm, h.nm, Nat.le_trans h.la ha, Nat.le_trans h.lb hb⟩
theorem ObjSt.cells {g q : Nat} {w0 u : World} {B a b : Nat} {ls : List (SecD × Value × Value)} {ys : List SymD} {vs vy : Value} (h : ObjSt g q w0 u B a b ls ys vs vy) : ∀ o, u.cell? ⟨B, o, none⟩ = (objCells vs vy)[o]? := h.blk.cell
/-- A section more: the sections written. -/
theorem ObjSt.snocSec {g q m : Nat} {w0 u u' : World} {B a b : Nat} {ls : List (SecD × Value × Value)} {ys : List SymD} {vs vy vs' : Value} {x : SecD × Value × Value} (h : ObjSt g q w0 u B a b ls ys vs vy) (hg : g < w0.heap.size)
    (hm : B + 1 ≤ m) (hlt : ∀ k ∈ vs.ownBlock.toList ++ blksOf ls, k < m) (hlt2 : ∀ k, vy.ownBlock = some k → k < m) (h1 : OwnB u m x.2.1 x.1.bytes) (h2 : OwnF u m x.2.2 x.1.fix) (hne : ∀ k, x.2.1.ownBlock = some k → x.2.2.ownBlock ≠ some k)
    (hx : x.1.name.size ≤ 9 ∧ x.1.bytes.length ≤ 49 ∧ x.1.fix.length ≤ 4 ∧ -1 ≤ x.1.size ∧ x.1.size ≤ 49)
    (hgr : u.grownBy u' vs.ownBlock) (hrow : u'.ownsRow (B + 1) 52 6 vs' (ls.length + 1) (ls.flatMap secL ++ secL x)) (hpl : vs'.ownBlock = vs.ownBlock ∨ vs'.ownBlock = some u.heap.size) :
    ObjSt g q w0 (u'.setCell ⟨B, 0, none⟩ vs') B (a + 1) b (ls ++ [x]) ys vs' vy := by
  have h0 := h.lt
  have hv : ∀ k, vs.ownBlock = some k → B + 1 ≤ k := owns_block h.secs.row
  have hB : some B ≠ vs.ownBlock := fun e => by have := hv B e.symm; omega
  have hT : some w0.heap.size ≠ vs.ownBlock := fun e => by have := hv _ e.symm; omega
  have hD : Drawn g q w0 u' := h.rd.grownRow hgr (fun k hk => by have := hv k hk; omega) hg
  have hs := h.secs.snoc hlt hm h1 h2 hne hgr hrow hpl
  have hy : u'.ownsRow (B + 1) 57 4 vy ys.length (ys.flatMap symL) := World.ownsRow.kept h.syms hgr (by
    cases hvy : vy.ownBlock with
    | none => exact .inl rfl
    | some k => exact .inr fun e => h.sep k hvy (List.mem_append.2 (.inl (by rw [← e]; simp))))
  refine ⟨hD.set (by omega) hg 0 vs', (h.top.grown hgr hT).other (p := ⟨B, 0, none⟩) (by show B ≠ _; omega) vs', (h.blk.grown hgr hB).set vs', hs.setBelow (by show B < _; omega) vs', ownsRow_setCell_below hy (by show B < _; omega) vs', fun k hk hm => ?_, h.lt, h.sm.snoc hx, h.nm, by have := h.la; simp; omega, h.lb⟩
  rcases List.mem_append.1 hm with hm | hm
  · have hm' : vs'.ownBlock = some k := by simpa using hm
    rcases hpl with hp | hp
    · rw [hp] at hm'
      exact h.sep k hk (List.mem_append.2 (.inl (by simp [hm'])))
    · rw [hp] at hm'
      simp only [Option.some.injEq] at hm'
      have := (World.ownsRow.lt h.syms k hk).2
      omega
  · rw [blksOf_append] at hm
    rcases List.mem_append.1 hm with hm | hm
    · exact h.sep k hk (List.mem_append.2 (.inr hm))
    · have h3 := hlt2 k hk
      simp only [blksOf, List.flatMap_cons, List.flatMap_nil, List.append_nil, List.mem_append, Option.mem_toList] at hm
      rcases hm with hm | hm
      · have := (World.ownsRow.lt h1 k hm).1; omega
      · have := (World.ownsRow.lt h2 k hm).1; omega
/-- Symbols more: the symbols written. -/
theorem ObjSt.moreSyms {g q c : Nat} {w0 u u' : World} {B a b : Nat} {ls : List (SecD × Value × Value)} {ys zs : List SymD} {vs vy vy' : Value} (h : ObjSt g q w0 u B a b ls ys vs vy) (hg : g < w0.heap.size)
    (hx : ∀ y ∈ zs, y.name.size ≤ 9) (hc : zs.length ≤ c)
    (hgr : u.grownBy u' vy.ownBlock) (hrow : OwnSyms u' (B + 1) vy' (ys ++ zs)) (hpl : vy'.ownBlock = vy.ownBlock ∨ vy'.ownBlock = some u.heap.size) :
    ObjSt g q w0 (u'.setCell ⟨B, 1, none⟩ vy') B a (b + c) ls (ys ++ zs) vs vy' := by
  have h0 := h.lt
  have hv : ∀ k, vy.ownBlock = some k → B + 1 ≤ k := owns_block h.syms
  have hB : some B ≠ vy.ownBlock := fun e => by have := hv B e.symm; omega
  have hT : some w0.heap.size ≠ vy.ownBlock := fun e => by have := hv _ e.symm; omega
  have hD : Drawn g q w0 u' := h.rd.grownRow hgr (fun k hk => by have := hv k hk; omega) hg
  have hother : ∀ o : Option Nat, (∀ k, o = some k → k ∈ vs.ownBlock.toList ++ blksOf ls) → o = none ∨ o ≠ vy.ownBlock := by
    intro o ho
    cases o with
    | none => exact .inl rfl
    | some k => exact .inr fun e => h.sep k e.symm (ho k rfl)
  have hs : OwnSecs u' (B + 1) vs ls := ⟨World.ownsRow.kept h.secs.row hgr (hother _ fun k hk => List.mem_append.2 (.inl (by simp [hk]))), fun y hy =>
    ⟨World.ownsRow.kept (h.secs.each y hy).1 hgr (hother _ fun k hk => List.mem_append.2 (.inr (mem_blks1 hy hk))), World.ownsRow.kept (h.secs.each y hy).2 hgr (hother _ fun k hk => List.mem_append.2 (.inr (mem_blks2 hy hk)))⟩, h.secs.nodup⟩
  refine ⟨hD.set (by omega) hg 1 vy', (h.top.grown hgr hT).other (p := ⟨B, 1, none⟩) (by show B ≠ _; omega) vy', (h.blk.grown hgr hB).set vy', hs.setBelow (by show B < _; omega) vy', ownsRow_setCell_below hrow (by show B < _; omega) vy', fun k hk hm => ?_, h.lt, h.sm, fun y hy => ?_, h.la, by have := h.lb; simp; omega⟩
  · rcases hpl with hp | hp
    · rw [hp] at hk
      exact h.sep k hk hm
    · rw [hp] at hk
      simp only [Option.some.injEq] at hk
      have := (h.secs.lt k hm).2
      omega
  · rcases List.mem_append.1 hy with hy | hy
    · exact h.nm y hy
    · exact hx y hy
/-- Other symbols: written. -/
theorem ObjSt.newSyms {g q c : Nat} {w0 u : World} {B a b : Nat} {ls : List (SecD × Value × Value)} {ys zs : List SymD} {vs vy vy' : Value} (h : ObjSt g q w0 u B a b ls ys vs vy) (hg : g < w0.heap.size)
    (hrow : OwnSyms u (B + 1) vy' zs) (hx : ∀ y ∈ zs, y.name.size ≤ 9) (hc : zs.length ≤ c) (hsep : ∀ k, vy'.ownBlock = some k → k ∉ vs.ownBlock.toList ++ blksOf ls) :
    ObjSt g q w0 (u.setCell ⟨B, 1, none⟩ vy') B a c ls zs vs vy' := by
  have h0 := h.lt
  exact ⟨h.rd.set (by omega) hg 1 vy', h.top.other (p := ⟨B, 1, none⟩) (by show B ≠ _; omega) vy', h.blk.set vy', h.secs.setBelow (by show B < _; omega) vy', ownsRow_setCell_below hrow (by show B < _; omega) vy', hsep, h.lt, h.sm, hx, h.la, hc⟩
/-- A block behind turns. -/
theorem ObjSt.behind {g q D : Nat} {w0 u u' : World} {B a b : Nat} {ls : List (SecD × Value × Value)} {ys : List SymD} {vs vy : Value} (h : ObjSt g q w0 u B a b ls ys vs vy) (hg : g < w0.heap.size)
    (hgr : u.grownBy u' (some D)) (hD : B < D) (hlt : ∀ k ∈ vs.ownBlock.toList ++ blksOf ls, k < D) (hlt2 : ∀ k, vy.ownBlock = some k → k < D) : ObjSt g q w0 u' B a b ls ys vs vy := by
  have h0 := h.lt
  have hother : ∀ o : Option Nat, (∀ k, o = some k → k < D) → o = none ∨ o ≠ some D := by
    intro o ho
    cases o with
    | none => exact .inl rfl
    | some k => exact .inr fun e => by have := ho k rfl; simp only [Option.some.injEq] at e; omega
  exact ⟨h.rd.behind hgr (by omega) (by omega), h.top.grown hgr (fun e => by simp only [Option.some.injEq] at e; omega), h.blk.grown hgr (fun e => by simp only [Option.some.injEq] at e; omega),
    ⟨World.ownsRow.kept h.secs.row hgr (hother _ fun k hk => hlt k (List.mem_append.2 (.inl (by simp [hk])))), fun y hy => ⟨World.ownsRow.kept (h.secs.each y hy).1 hgr (hother _ fun k hk => hlt k (List.mem_append.2 (.inr (mem_blks1 hy hk)))), World.ownsRow.kept (h.secs.each y hy).2 hgr (hother _ fun k hk => hlt k (List.mem_append.2 (.inr (mem_blks2 hy hk))))⟩, h.secs.nodup⟩,
    World.ownsRow.kept h.syms hgr (hother _ hlt2), h.sep, h.lt, h.sm, h.nm, h.la, h.lb⟩
theorem grown_setD (w : World) (D o : Nat) (u : Value) : w.grownBy (w.setCell ⟨D, o, none⟩ u) (some D) :=
  ⟨rfl, rfl, rfl, by simp [World.setCell], fun i _ hi => Below.heap_setCell w _ _ i (fun e => hi (by rw [e]))⟩
/-- Some object of a call's own. -/
def SomeObj (base : Nat) (w : World) (v : Value) : Prop := ∃ (o : ObjD) (vs vy : Value) (ls : List (SecD × Value × Value)), v = .agg #[vs, vy] ∧ o.secs = ls.map (·.1) ∧ OwnSecs w base vs ls ∧ OwnSyms w base vy o.syms ∧ (∀ k, vy.ownBlock = some k → k ∉ vs.ownBlock.toList ++ blksOf ls) ∧ SmallSecs ls ∧ (∀ y ∈ o.syms, y.name.size ≤ 9) ∧ ls.length ≤ 9 ∧ o.syms.length ≤ 13
theorem SomeObj.reads {base : Nat} {w : World} {v : Value} (h : SomeObj base w v) : ∃ o, ObjAt w v o ∧ (∀ s ∈ o.secs, s.name.size ≤ 9) ∧ (∀ s ∈ o.syms, s.name.size ≤ 9) := by
  obtain ⟨o, vs, vy, ls, rfl, h1, h2, h3, h4, h5, h6, _⟩ := h
  refine ⟨o, ⟨vs, vy, rfl, ⟨ls, h1, h2.reads⟩, reads_of_owns h3⟩, fun s hs => ?_, h6⟩
  rw [h1] at hs
  obtain ⟨x, hx, rfl⟩ := List.mem_map.1 hs
  exact (h5 x hx).1
theorem ObjSt.done {g q : Nat} {w0 u : World} {B a b : Nat} {ls : List (SecD × Value × Value)} {ys : List SymD} {vs vy : Value} (h : ObjSt g q w0 u B a b ls ys vs vy) (hg : g < w0.heap.size) (ha : a ≤ 9) (hb : b ≤ 13) (x y : Value) :
    SomeObj w0.heap.size ((u.setCell ⟨w0.heap.size, 0, none⟩ x).setCell ⟨w0.heap.size, 1, none⟩ y) (.agg #[vs, vy]) ∧ Drawn g q w0 ((u.setCell ⟨w0.heap.size, 0, none⟩ x).setCell ⟨w0.heap.size, 1, none⟩ y) := by
  have h1 := h.lt
  have q1 : w0.heap.size < B + 1 := by omega
  exact ⟨⟨⟨ls.map (·.1), ys⟩, vs, vy, ls, rfl, rfl, ((h.secs.setBelow (a := ⟨w0.heap.size, 0, none⟩) q1 x).setBelow (a := ⟨w0.heap.size, 1, none⟩) q1 y).mono (by omega), owns_mono (ownsRow_setCell_below (ownsRow_setCell_below h.syms (a := ⟨w0.heap.size, 0, none⟩) q1 x) (a := ⟨w0.heap.size, 1, none⟩) q1 y) (by omega), h.sep, h.sm, h.nm, by have := h.la; omega, by show ys.length ≤ 13; have := h.lb; omega⟩,
    (h.rd.set (Nat.le_refl _) hg 0 x).set (Nat.le_refl _) hg 1 y⟩
set_option maxHeartbeats 2000000 in
theorem l20Object_any (w : World) (g p : Nat) (h : RdAt w g p) (hp : p ≤ 1071000000) (n : Int) (h0 : 0 ≤ n) (hn : n ≤ 1000) :
    Calls Try.prog 18 #[.pointer (some ⟨g, 0, none⟩), .int .i64 n] w (DrawE (SomeObj w.heap.size) 20000 w g p) := by
  obtain ⟨i0, hi, hz0, hz1, hz2⟩ := info_parts info_sec
  obtain ⟨j0, hj', hy0, hy1, hy2⟩ := info_parts info_sym
  have zg := h.lt
  have HR := Lib.hid h
  clear h
  go_enter Try.func18, Try.ntmps18
  go_wp2_with fail
  have S1 : ObjSt g p w ((w.alloc (.cells objZero 26)).alloc (.cells objZero 26)) (w.heap.size + 1) 0 0 [] [] (.slice none 0 0) (.slice none 0 0) :=
    ⟨((Drawn.start HR.out).alloc _).alloc _, (Blk.new w _ _).alloc _, by have := Blk.new (w.alloc (.cells objZero 26)) objZero 26; simpa using this, ⟨World.ownsRow_nil _ _ _ _, (fun x hx => by cases hx), by simp [blksOf, Value.ownBlock]⟩, World.ownsRow_nil _ _ _ _, (fun k hk => by simp [Value.ownBlock] at hk), by omega, (fun x hx => by cases hx), (fun x hx => by cases hx), Nat.le_refl _, Nat.le_refl _⟩
  have HS1 := Lib.hid S1
  generalize (w.alloc (.cells objZero 26)).alloc (.cells objZero 26) = w1 at HS1 ⊢
  clear S1 HR
  obtain ⟨B, hB⟩ : ∃ B, w.heap.size + 1 = B := ⟨_, rfl⟩
  rw [hB] at HS1
  rw [hB]
  clear hB
  refine (pick_in w1 _ g _ (Drawn.start HS1.out.rd.rd) (by omega) 6 (by decide) (by decide)).mono ?_
  rintro e w2 ⟨many, rfl, hm0, hm1, hD⟩
  have HS2 := Lib.hid (HS1.out.next zg hD)
  clear hD HS1
  go_wp2_with fail
  refine (pick_in w2 _ g _ (Drawn.start HS2.out.rd.rd) (by omega) 4 (by decide) (by decide)).mono ?_
  rintro e w3 ⟨k0, rfl, hk0, hk1, hD⟩
  obtain ⟨K0, rfl⟩ := Int.eq_ofNat_of_zero_le hk0
  have HS3 := Lib.hid (HS2.out.next zg hD)
  clear hD HS2
  go_wp2_with fail
  go_loopw [7] (fun i wr => ∃ (k q a : Nat) (ls : List (SecD × Value × Value)) (sa : Option Addr) (sl sc : Nat), i = .int .i64 k ∧ a + k ≤ 3 ∧ q ≤ p + 2 + 1000 * a ∧ Hid (ObjSt g q w wr B a 0 ls [] (.slice sa sl sc) (.slice none 0 0))) (fun i _ => (intOf i).toNat)
  case atStart => exact ⟨K0, _, 0, _, none, 0, 0, rfl, by omega, (by omega : p + 1 + 1 ≤ p + 2 + 1000 * 0), HS3⟩
  case round =>
    clear HS3
    obtain ⟨k, q0, a, ls, sa, sl, sc, rfl, hak, hq, HS⟩ := hrel
    obtain ⟨sa', sc', hsf⟩ := owns_form HS.out.secs.row
    simp only [Value.slice.injEq] at hsf
    obtain ⟨rfl, rfl, rfl⟩ := hsf
    by_cases hk : 0 < k
    · have hkz : (0 : Int) < (k : Int) := by omega
      go_wp2_with fail
      let SecIn : World → SecD × Value × Value → Nat → Prop := fun u x m => B < m ∧ (∀ k ∈ (Value.slice sa ls.length sc).ownBlock.toList ++ blksOf ls, k < m) ∧ (∀ k, (Value.slice none 0 0).ownBlock = some k → k < m) ∧ OwnB u m x.2.1 x.1.bytes ∧ OwnF u m x.2.2 x.1.fix ∧ (∀ k, x.2.1.ownBlock = some k → x.2.2.ownBlock ≠ some k) ∧ (x.1.name.size ≤ 9 ∧ x.1.bytes.length ≤ 49 ∧ x.1.fix.length ≤ 4 ∧ -1 ≤ x.1.size ∧ x.1.size ≤ 49)
      let SecV : World → Value → Prop := fun u v => ∃ (x : SecD × Value × Value) (m : Nat), v = secV x.1 x.2.1 x.2.2 ∧ SecIn u x m
      let V : Nat → Value → World → Prop := fun i v u => match i with
        | 0 => v = .pointer (some ⟨B, 0, none⟩)
        | 1 => v = .slice sa ls.length sc
        | 2 => v = .pointer (some ⟨g, 0, none⟩)
        | 3 => v = .int .i64 many
        | 4 => SecV u v
        | 5 => ∃ (x : SecD × Value × Value) (m k : Nat), v = .slice (some ⟨k, 0, none⟩) 1 1 ∧ Blk u k #[.string x.1.name, .int .i64 x.1.kind, .int .i64 x.1.align, x.2.1, .int .i64 x.1.size, x.2.2] 52 ∧ SecIn u x m
        | 6 => ∃ q ls' va vl vc, v = .slice va vl vc ∧ q ≤ q0 + 1000 ∧ ObjSt g q w (u.setCell ⟨B, 0, none⟩ v) B (a + 1) 0 ls' [] v (.slice none 0 0) ∧ Blk u B (objCells (.slice sa ls.length sc) (.slice none 0 0)) 26
        | 7 => v = .pointer (some ⟨B, 0, none⟩)
        | _ => True
      let S : Nat → (Nat → Bool) → World → Prop := fun n f u => (f 6 = false → ∃ q, q ≤ q0 + 100 * n ∧ ObjSt g q w u B a 0 ls [] (.slice sa ls.length sc) (.slice none 0 0)) ∧ (f 8 = true → ∃ q ls' va vl vc, q ≤ q0 + 1000 ∧ ObjSt g q w u B (a + 1) 0 ls' [] (.slice va vl vc) (.slice none 0 0))
      refine wp_region_set V S [[], [0], [], [], [2, 3], [4], [1, 5], [], [6, 7]] [[], [0], [], [], [2, 3], [2, 3, 4], [0, 1, 2, 3, 4, 5], [0, 1, 2, 3, 4, 5, 6], [0, 1, 2, 3, 4, 5, 6, 7]] [] (by kernel_rfl) (by kernel_rfl) (by kernel_rfl) (by kernel_rfl) (by kernel_rfl) ⟨fun _ => ⟨q0, Nat.le_refl _, HS.out.drewN 1⟩, fun h => by cases h⟩ ?ho ?hq
      case ho =>
        refine ⟨?_, ?_, ?_, ?_, ?_, ?_, ?_, ?_, ?_, trivial⟩
        · intro n f A u K hfr hn hl hS hv hK
          have hn2 : n < 9 := hn
          obtain ⟨q, hq, H⟩ := hS.1 (hl.2.2 6 (by decide))
          have hN : ∀ u' q', q' ≤ q + 100 → ObjSt g q' w u' B a 0 ls [] (.slice sa ls.length sc) (.slice none 0 0) → S (n + 1) (setl f 0) u' := fun u' q' h1 h2 => ⟨fun _ => ⟨q', by omega, h2⟩, fun h => by rw [setl_ne (by decide), hl.2.2 8 (by decide)] at h; cases h⟩
          have e4 : A.tmps.getD 5 undef = .pointer (some ⟨B, 0, none⟩) := hfr 5 (not_dst (by kernel_rfl))
          have e5 : (A.tmps[5]?).getD undef = .pointer (some ⟨B, 0, none⟩) := by simpa using e4
          refine owe_run rfl (wp_val (v := .pointer (some ⟨B, 0, none⟩)) ?_ (hK _ _ (hN u q (by omega) H) (fun _ _ _ h => h) (fun _ => rfl)))
          first
            | (go_simp; done)
            | (go_simp; rfl)
        · intro n f A u K hfr hn hl hS hv hK
          have hn2 : n < 9 := hn
          obtain ⟨q, hq, H⟩ := hS.1 (hl.2.2 6 (by decide))
          have hN : ∀ u' q', q' ≤ q + 100 → ObjSt g q' w u' B a 0 ls [] (.slice sa ls.length sc) (.slice none 0 0) → S (n + 1) (setl f 1) u' := fun u' q' h1 h2 => ⟨fun _ => ⟨q', by omega, h2⟩, fun h => by rw [setl_ne (by decide), hl.2.2 8 (by decide)] at h; cases h⟩
          have c5 := H.cells 0
          simp at c5
          have eA0 : A.tmps.getD 20 undef = .pointer (some ⟨B, 0, none⟩) := hv.1
          have eB0 : (A.tmps[20]?).getD undef = .pointer (some ⟨B, 0, none⟩) := by simpa using eA0
          refine owe_run rfl (wp_val (v := .slice sa ls.length sc) ?_ (hK _ _ (hN u q (by omega) H) (fun _ _ _ h => h) (fun _ => rfl)))
          first
            | (go_simp; done)
            | (go_simp; rfl)
        · intro n f A u K hfr hn hl hS hv hK
          have hn2 : n < 9 := hn
          obtain ⟨q, hq, H⟩ := hS.1 (hl.2.2 6 (by decide))
          have hN : ∀ u' q', q' ≤ q + 100 → ObjSt g q' w u' B a 0 ls [] (.slice sa ls.length sc) (.slice none 0 0) → S (n + 1) (setl f 2) u' := fun u' q' h1 h2 => ⟨fun _ => ⟨q', by omega, h2⟩, fun h => by rw [setl_ne (by decide), hl.2.2 8 (by decide)] at h; cases h⟩
          have e4 : A.tmps.getD 0 undef = .pointer (some ⟨g, 0, none⟩) := hfr 0 (not_dst (by kernel_rfl))
          refine owe_run rfl (wp_val (v := .pointer (some ⟨g, 0, none⟩)) ?_ (hK _ _ (hN u q (by omega) H) (fun _ _ _ h => h) (fun _ => rfl)))
          first
            | (go_simp; done)
            | (go_simp; rfl)
        · intro n f A u K hfr hn hl hS hv hK
          have hn2 : n < 9 := hn
          obtain ⟨q, hq, H⟩ := hS.1 (hl.2.2 6 (by decide))
          have hN : ∀ u' q', q' ≤ q + 100 → ObjSt g q' w u' B a 0 ls [] (.slice sa ls.length sc) (.slice none 0 0) → S (n + 1) (setl f 3) u' := fun u' q' h1 h2 => ⟨fun _ => ⟨q', by omega, h2⟩, fun h => by rw [setl_ne (by decide), hl.2.2 8 (by decide)] at h; cases h⟩
          have e4 : A.tmps.getD 6 undef = .int .i64 many := hfr 6 (not_dst (by kernel_rfl))
          refine owe_run rfl (wp_val (v := .int .i64 many) ?_ (hK _ _ (hN u q (by omega) H) (fun _ _ _ h => h) (fun _ => rfl)))
          first
            | (go_simp; done)
            | (go_simp; rfl)
        · intro n f A u K hfr hn hl hS hv hK
          have hn2 : n < 9 := hn
          obtain ⟨q, hq, H⟩ := hS.1 (hl.2.2 6 (by decide))
          have hN : ∀ u' q', q' ≤ q + 100 → ObjSt g q' w u' B a 0 ls [] (.slice sa ls.length sc) (.slice none 0 0) → S (n + 1) (setl f 4) u' := fun u' q' h1 h2 => ⟨fun _ => ⟨q', by omega, h2⟩, fun h => by rw [setl_ne (by decide), hl.2.2 8 (by decide)] at h; cases h⟩
          have h0 : A.tmps.getD 22 undef = .pointer (some ⟨g, 0, none⟩) := hv.1
          have h1 : A.tmps.getD 23 undef = .int .i64 many := hv.2.1
          have hlt := H.secs.lt
          have hly := World.ownsRow.lt H.syms
          have hbk := H.blk.lt
          refine owe_run rfl (wp_fn rfl (args3 h0 h1 rfl) (enter_fn Try.func50 (by kernel_rfl) rfl _ _) ((l20Section_any u g q H.rd.rd (by omega) many hm0 (by omega) 0 (by decide) (by decide)).mono ?_))
          rintro e u1 ⟨_, q1, rfl, ⟨s, vb, vf, rfl, ho1, ho2, hne, hn1, hbl, hfl, hz0, hz1⟩, hq1, hD2⟩
          refine ⟨_, rfl, hK _ _ (hN u1 q1 hq1 (H.next zg hD2)) (fun j x hj h => ?_) (fun _ => ⟨(s, vb, vf), u.heap.size, rfl, hbk, fun k hk => (hlt k hk).2, fun k hk => (hly k hk).2, ho1, ho2, hne, hn1, hbl, hfl, hz0, hz1⟩)⟩
          rcases j with _ | _ | _ | _ | _ | _ | _ | _ | _ | j
          all_goals first
            | exact trivial
            | exact h
            | exact absurd hj (by decide)
        · intro n f A u K hfr hn hl hS hv hK
          have hn2 : n < 9 := hn
          obtain ⟨q, hq, H⟩ := hS.1 (hl.2.2 6 (by decide))
          have hN : ∀ u' q', q' ≤ q + 100 → ObjSt g q' w u' B a 0 ls [] (.slice sa ls.length sc) (.slice none 0 0) → S (n + 1) (setl f 5) u' := fun u' q' h1 h2 => ⟨fun _ => ⟨q', by omega, h2⟩, fun h => by rw [setl_ne (by decide), hl.2.2 8 (by decide)] at h; cases h⟩
          obtain ⟨x, m, h0, hm1, hm2, hm3, ho1, ho2, hne, hx⟩ : SecV u (A.tmps.getD 24 undef) := hv.1
          have h0' : (A.tmps[24]?).getD undef = secV x.1 x.2.1 x.2.2 := by simpa using h0
          obtain ⟨ba, bc, hba⟩ := owns_form ho1
          obtain ⟨fa, fc, hfa⟩ := owns_form ho2
          rw [hba, hfa] at h0'
          refine owe_run rfl (wp_val (v := .slice (some ⟨u.heap.size, 0, none⟩) 1 1) (w' := u.alloc (.cells #[.string x.1.name, .int .i64 x.1.kind, .int .i64 x.1.align, x.2.1, .int .i64 x.1.size, x.2.2] 52)) ?_ (hK _ _ (hN _ q (by omega) (H.alloc _)) (fun j y hj h => ?_) (fun _ => ⟨x, m, u.heap.size, rfl, Blk.new u _ _, hm1, hm2, hm3, World.ownsRow.alloc ho1 _, World.ownsRow.alloc ho2 _, hne, hx⟩)))
          · rw [hba, hfa]
            first
              | (go_simp; done)
              | (go_simp; rfl)
          · rcases j with _ | _ | _ | _ | _ | _ | _ | _ | _ | j
            all_goals first
              | exact trivial
              | exact h
              | exact absurd hj (by decide)
        · intro n f A u K hfr hn hl hS hv hK
          have hn2 : n < 9 := hn
          obtain ⟨q, hq, H⟩ := hS.1 hl.1
          obtain ⟨h0, ⟨x, m, kk, h1, hk2, hm1, hm2, hm3, ho1, ho2, hne, hx⟩, -⟩ : A.tmps.getD 21 undef = .slice sa ls.length sc ∧ (∃ (x : SecD × Value × Value) (m k : Nat), A.tmps.getD 25 undef = .slice (some ⟨k, 0, none⟩) 1 1 ∧ Blk u k #[.string x.1.name, .int .i64 x.1.kind, .int .i64 x.1.align, x.2.1, .int .i64 x.1.size, x.2.2] 52 ∧ SecIn u x m) ∧ True := ⟨hv.1, hv.2.1, trivial⟩
          have hfl := H.la
          have hbl := H.blk.lt
          have hone : ∀ y ∈ [Value.string x.1.name, .int .i64 x.1.kind, .int .i64 x.1.align, x.2.1, .int .i64 x.1.size, x.2.2], y.oneCell' = true := by
            intro y hy
            obtain ⟨ba, bc, hba⟩ := owns_form ho1
            obtain ⟨fa, fc, hfa⟩ := owns_form ho2
            simp only [List.mem_cons, List.not_mem_nil, or_false] at hy
            rcases hy with rfl | rfl | rfl | rfl | rfl | rfl
            all_goals first
              | rfl
              | (rw [hba]; rfl)
              | (rw [hfa]; rfl)
          obtain ⟨v', u', hrun, hown, hgr, hpl⟩ := run_append_own u 23 23 23 (B + 1) 52 i0 _ Try.underlying23 hi hz0 (by rw [hz1]; rfl) (by rw [hz1]; decide) _ _ _ (by rw [hz1]; exact H.secs.row) (.slice (some ⟨kk, 0, none⟩) 1 1) 1 (secL x) (by rw [hz1]; exact src_blk Try.underlying23 u kk (secL x) 6 1 1 52 hk2 rfl hone) (by unfold maxLen; omega) (by rw [hz2]; omega) (by omega)
          rw [hz1] at hown
          have H2 := H.snocSec zg hm1 hm2 hm3 ho1 ho2 hne hx hgr hown hpl
          have HB2 : Blk u' B (objCells (.slice sa ls.length sc) (.slice none 0 0)) 26 := H.blk.grown hgr (fun e => by have := owns_block H.secs.row B e.symm; omega)
          obtain ⟨va, vc, hv'⟩ := owns_form hown
          refine owe_run rfl (wp_val (v := v') (w' := u') ?_ (hK _ _ ⟨fun h => (by rw [setl_at] at h; cases h), fun h => (by rw [setl_ne (by decide), hl.2.2 8 (by decide)] at h; cases h)⟩ (fun j x hj h => ?_) (fun _ => ⟨q, ls ++ [x], va, _, vc, hv', (by omega : q ≤ q0 + 1000), H2, HB2⟩)))
          · simp at h0 h1 hrun
            simp [execOp, resolve, invoke, builtin, Act.eval, h0, h1, hrun]
          · rcases j with _ | _ | _ | _ | _ | _ | _ | _ | _ | j
            all_goals first
              | exact trivial
              | exact h
              | exact absurd hj (by decide)
        · intro n f A u K hfr hn hl hS hv hK
          have e4 : A.tmps.getD 5 undef = .pointer (some ⟨B, 0, none⟩) := hfr 5 (not_dst (by kernel_rfl))
          have e5 : (A.tmps[5]?).getD undef = .pointer (some ⟨B, 0, none⟩) := by simpa using e4
          refine owe_run rfl (wp_val (v := .pointer (some ⟨B, 0, none⟩)) ?_ (hK _ _ ⟨fun h => (by rw [setl_ne (by decide), hl.2.1 6 (by decide)] at h; cases h), fun h => (by rw [setl_ne (by decide), hl.2.2 8 (by decide)] at h; cases h)⟩ (fun _ _ _ h => h) (fun _ => rfl)))
          first
            | (go_simp; done)
            | (go_simp; rfl)
        · intro n f A u K hfr hn hl hS hv hK
          obtain ⟨⟨q, ls', va, vl, vc, h0, hq, H2, HB2⟩, h1, -⟩ : (∃ q ls' va vl vc, A.tmps.getD 26 undef = .slice va vl vc ∧ q ≤ q0 + 1000 ∧ ObjSt g q w (u.setCell ⟨B, 0, none⟩ (A.tmps.getD 26 undef)) B (a + 1) 0 ls' [] (A.tmps.getD 26 undef) (.slice none 0 0) ∧ Blk u B (objCells (.slice sa ls.length sc) (.slice none 0 0)) 26) ∧ A.tmps.getD 27 undef = .pointer (some ⟨B, 0, none⟩) ∧ True := ⟨hv.1, hv.2.1, trivial⟩
          rw [h0] at H2
          have h0' : (A.tmps[26]?).getD undef = .slice va vl vc := by simpa using h0
          have h1' : (A.tmps[27]?).getD undef = .pointer (some ⟨B, 0, none⟩) := by simpa using h1
          have c5 := HB2.cell 0
          have f5 := HB2.frozen 0
          simp at c5
          refine owe_run rfl (wp_skp (w' := u.setCell ⟨B, 0, none⟩ (.slice va vl vc)) ?_ (hK undef _ ⟨fun h => (by rw [setl_ne (by decide), hl.2.1 6 (by decide)] at h; cases h), fun _ => ⟨q, ls', _, _, _, by omega, H2⟩⟩ (fun j x hj h => ?_) (fun h => absurd rfl h)))
          · first
              | (go_simp; done)
              | (go_simp; rfl)
          · rcases j with _ | _ | _ | _ | _ | _ | _ | _ | _ | j
            all_goals first
              | exact trivial
              | exact h
              | exact absurd hj (by decide)
      case hq =>
        intro gg u hS hv
        obtain ⟨q, ls', va, vl, vc, hq, H9⟩ := hS.2 rfl
        have H9 := Lib.hid H9
        clear hv hS HS
        simp only [List.map, putG, List.setIfInBounds_toArray, List.set_cons_succ, List.set_cons_zero]
        go_wp2_with fail
        go_roundw
        case rel => exact ⟨k - 1, q, a + 1, ls', va, vl, vc, by go_num, by omega, by omega, H9⟩
        case measure => simp [intOf]; try omega
    · obtain rfl : k = 0 := by omega
      clear hk
      have HS4 := Lib.hid (HS.out.more (a' := 3) (b' := 0) (by omega) (Nat.le_refl _))
      clear HS
      have hq4 : q0 ≤ p + 3010 := by omega
      clear hq hak
      go_wp2_with fail
      go_loopw [8] (fun i wr => ∃ (k q : Nat) (ys : List SymD) (ya : Option Addr) (yl yc : Nat), i = .int .i64 k ∧ (k : Int) ≤ many ∧ q ≤ p + 3010 + 100 * k ∧ Hid (ObjSt g q w wr B 3 k ls ys (.slice sa ls.length sc) (.slice ya yl yc))) (fun i _ => many.toNat - (intOf i).toNat)
      case atStart => exact ⟨0, q0, [], none, 0, 0, rfl, by omega, by omega, HS4⟩
      case round =>
        clear HS4
        obtain ⟨k, q1, ys, ya, yl, yc, rfl, hkm, hq, HS⟩ := hrel
        obtain ⟨ya', yc', hyf⟩ := owns_form HS.out.syms
        simp only [Value.slice.injEq] at hyf
        obtain ⟨rfl, rfl, rfl⟩ := hyf
        by_cases hk : (k : Int) < many
        · have cB := HS.out.cells
          have lsl : ls.length ≤ 100 := by have := HS.out.la; omega
          have lys : ys.length ≤ 5 := by have := HS.out.lb; omega
          have gB : g < B + 1 := by have := HS.out.lt; omega
          go_wp2_with fail
          refine (l20Symbol_any wr g q1 HS.out.rd.rd (by omega) (B + 1) _ ls HS.out.secs gB lsl HS.out.sm 0 (by decide) (by decide)).mono ?_
          rintro e w5 ⟨_, q5, rfl, ⟨s, rfl, hn⟩, hq5, hD⟩
          have HS5 := Lib.hid (HS.out.next zg hD)
          clear hD HS cB
          go_upto_region 11 with fail
          have HS6 := Lib.hid (HS5.out.alloc (.cells (symCells s) 57))
          have HD6 := Lib.hid (Blk.new w5 (symCells s) 57)
          have HVY : Hid (∀ k, (Value.slice ya ys.length yc).ownBlock = some k → k < w5.heap.size) := fun k hk => (World.ownsRow.lt HS5.out.syms k hk).2
          have HVS : Hid (∀ k ∈ (Value.slice sa ls.length sc).ownBlock.toList ++ blksOf ls, k < w5.heap.size) := fun k hk => (HS5.out.secs.lt k hk).2
          have BD : B < w5.heap.size := HS5.out.blk.lt
          generalize w5.alloc (.cells (symCells s) 57) = w6 at HS6 HD6 ⊢
          generalize w5.heap.size = D at *
          clear HS5
          go_wp2_with fail
          go_loopw [10] (fun i wr => ∃ (j : Nat) (s : SymD), j ≤ ys.length ∧ i = .int .i64 j ∧ s.name.size ≤ 9 ∧ Hid (ObjSt g q5 w wr B 3 k ls ys (.slice sa ls.length sc) (.slice ya ys.length yc)) ∧ Hid (Blk wr D (symCells s) 57)) (fun i _ => ys.length - (intOf i).toNat)
          case atStart => exact ⟨0, s, Nat.zero_le _, rfl, hn, HS6, HD6⟩
          case round =>
            clear HS6 HD6 hn
            obtain ⟨j, s, hj, rfl, hn, HS, HD⟩ := hrel
            have cB := HS.out.cells
            have cD := HD.out.cell
            have fD := HD.out.frozen
            by_cases hjl : j < ys.length
            · obtain ⟨ra, rc, hrf, -, -, -, hrc⟩ := SymsAt.form (OwnSyms.reads HS.out.syms)
              simp only [Value.slice.injEq] at hrf
              obtain ⟨rfl, -, rfl⟩ := hrf
              obtain ⟨yb, yo, hya, hyc⟩ := hrc (by omega)
              subst hya
              obtain ⟨c0, c1, c2, c3⟩ := hyc j hjl
              have j1 : (j : Int) < (ys.length : Int) := by omega
              clear hyc hrc
              generalize ys[j] = y at *
              have hz : g ≠ D := by have := HS.out.lt; omega
              cases hc1 : decide (bytesS y.name = bytesS s.name)
              · have e1 := str_ne (of_decide_eq_false hc1)
                clear hc1
                go_wp2_with fail
                go_quiet (fail)
                have HS8 := Lib.hid (HS.out.drewN nq)
                have HD8 := Lib.hid (HD.out.drewN nq)
                clear HS HD cB cD fD c0 c1 c2 c3 e1
                go_wp2_with fail
                go_roundw
                case rel => exact ⟨j + 1, s, by omega, by go_num, hn, HS8, HD8⟩
                case measure => simp [intOf]; try omega
              have e1 := str_eq (of_decide_eq_true hc1)
              clear hc1
              cases hc2 : (s.bind != 0)
              · go_wp2_with fail
                go_quiet (fail)
                have HS8 := Lib.hid (HS.out.drewN nq)
                have HD8 := Lib.hid (HD.out.drewN nq)
                clear HS HD cB cD fD c0 c1 c2 c3 e1 hc2
                go_wp2_with fail
                go_roundw
                case rel => exact ⟨j + 1, s, by omega, by go_num, hn, HS8, HD8⟩
                case measure => simp [intOf]; try omega
              cases hc3 : (y.bind != 0)
              · go_wp2_with fail
                go_quiet (fail)
                have HS8 := Lib.hid (HS.out.drewN nq)
                have HD8 := Lib.hid (HD.out.drewN nq)
                clear HS HD cB cD fD c0 c1 c2 c3 e1 hc2 hc3
                go_wp2_with fail
                go_roundw
                case rel => exact ⟨j + 1, s, by omega, by go_num, hn, HS8, HD8⟩
                case measure => simp [intOf]; try omega
              · go_wp2_with fail
                go_quiet (fail)
                have HS8 := Lib.hid (HS.out.drewN nq)
                have HD8 := Lib.hid (HD.out.drewN nq)
                clear HS HD cB cD fD c0 c1 c2 c3 e1 hc2 hc3
                generalize wr.drewN nq = w8 at *
                have cD := HD8.out.cell
                have fD := HD8.out.frozen
                have k1 : IntKind.u8.wrap (48 + (k : Int)) = 48 + (k : Int) := IntWalk.u8_in _ (by omega)
                have hcc : (((UInt8.ofNat (48 + k)).toNat : Nat) : Int) = 48 + (k : Int) := by rw [UInt8.toNat_ofNat']; omega
                generalize UInt8.ofNat (48 + k) = cc at *
                have hcv : (convert 22 9 (.slice (some ⟨w8.heap.size, 0, none⟩) 1 1)).run Try.prog (w8.alloc (.cells #[.int .u8 (48 + (k : Int))] 5)) = .ok (.string ⟨#[cc]⟩) (w8.alloc (.cells #[.int .u8 (48 + (k : Int))] 5)) :=
                  conv_at _ _ [cc] (by
                    have := reads_of_owns (World.ownsRow_lit w8 #[Value.int .u8 (48 + (k : Int))] (e := 5) (size := 1) 1 (Nat.le_refl _) (by decide) rfl)
                    show Reads _ 1 _ 1 [Value.int .u8 (cc.toNat : Int)]
                    rw [hcc]
                    exact this)
                clear hcc
                obtain ⟨s1, hs1, hr1⟩ := str_sum ⟨#[115]⟩ ⟨#[cc]⟩ (by show 1 + 1 ≤ _; decide)
                have hsz : s1.size ≤ 9 := by rw [hs1, ByteArray.size_append]; show 1 + 1 ≤ 9; decide
                clear hs1
                have zD := HD8.out.lt
                have HX := Lib.hid ((HS8.out.behind zg ((((grown_setD w8 D 0 (.string s1)).trans (grown_setD _ D 1 (.int .i64 1))).trans (grown_setD _ D 2 (.int .i64 (-2)))).trans (grown_setD _ D 3 (.int .i64 (7 * (k : Int))))) BD HVS.out HVY.out).alloc (.cells #[.int .u8 (48 + (k : Int))] 5))
                have HY : Hid (Blk (((((w8.setCell ⟨D, 0, none⟩ (.string s1)).setCell ⟨D, 1, none⟩ (.int .i64 1)).setCell ⟨D, 2, none⟩ (.int .i64 (-2))).setCell ⟨D, 3, none⟩ (.int .i64 (7 * (k : Int)))).alloc (.cells #[.int .u8 (48 + (k : Int))] 5)) D (symCells ⟨s1, 1, -2, 7 * (k : Int)⟩) 57) := by
                  have := ((((HD8.out.set (o := 0) (.string s1)).set (o := 1) (.int .i64 1)).set (o := 2) (.int .i64 (-2))).set (o := 3) (.int .i64 (7 * (k : Int)))).alloc (.cells #[.int .u8 (48 + (k : Int))] 5)
                  show Blk _ _ _ _
                  simpa using this
                go_wp2_with fail
                exact ⟨⟨j + 1, ⟨s1, 1, -2, 7 * (k : Int)⟩, by omega, by go_num, hsz, HX, HY⟩, by simp [intOf]; try omega⟩
            · obtain rfl : j = ys.length := by omega
              clear hjl
              go_wp2_with (at_builtin; refine wpList_append_own rfl (.tmp 77) (.tmp 79) 24 24 rfl (B + 1) 57 j0 _ 4 40 Try.underlying24 hj' hy0 hy1 hy2 rfl (by decide) _ _ _ rfl (World.ownsRow.alloc HS.out.syms _) _ 1 [_, _, _, _] rfl (src_new Try.underlying24 _ [_, _, _, _] 4 1 1 _ rfl ?c0) ?c1 ?c2 ?c3 ?_)
              case c0 =>
                intro u hu
                simp only [List.mem_cons, List.not_mem_nil, or_false] at hu
                rcases hu with rfl | rfl | rfl | rfl <;> rfl
              case c1 => unfold maxLen; omega
              case c2 => omega
              case c3 => have := HS.out.blk.lt; simp; omega
              intro v' w9 hown hgr hpl
              have H9 := (HS.out.alloc _).moreSyms (c := 1) (zs := [s]) zg (fun y hy => by obtain rfl := List.mem_singleton.1 hy; exact hn) (Nat.le_refl _) hgr (by
                unfold OwnSyms
                rw [List.length_append, List.flatMap_append]
                exact hown) (by simpa using hpl)
              have HB9 := Lib.hid ((HS.out.blk.alloc _).grown hgr (fun e => by have := owns_block HS.out.syms B e.symm; omega))
              have c9 := HB9.out.cell
              have f9 := HB9.out.frozen
              obtain ⟨va, vc, hv'⟩ := owns_form hown
              obtain ⟨vl, hvl⟩ : ∃ vl, ys.length + 1 = vl := ⟨_, rfl⟩
              rw [hvl] at hv'
              subst hv'
              have H9 := Lib.hid H9
              clear hvl hown hgr hpl HS HD cB cD fD
              go_wp2_with fail
              go_roundw
              case rel => ((repeat apply Exists.intro); exact ⟨⟨k + 1, q5, ys ++ [s], va, vl, vc, by go_num, by omega, by omega, H9⟩, rfl⟩)
              case measure => simp [intOf]; try omega
        · have ek : (k : Int) = many := by omega
          have HS9 := Lib.hid (HS.out.more (a' := 3) (b' := 5) (Nat.le_refl _) (by omega))
          have hq9 : q1 ≤ p + 3510 := by omega
          clear HS hq
          go_wp2_with fail
          refine (odd_any wr g q1 HS9.out.rd.rd (by omega) n h0 (by omega)).mono ?_
          rintro e w5 ⟨_, q5, rfl, ⟨bo, rfl⟩, hq5, hD⟩
          have HS5 := Lib.hid (HS9.out.next zg hD)
          clear hD HS9
          go_upto_if 84 with fail
          go_cut [] (fun wx => ∃ q ls ys vs vy, q ≤ p + 10000 ∧ Hid (ObjSt g q w wx B 9 13 ls ys vs vy))
          case first =>
            cases bo
            · go_wp2_with fail
              go_meet
              case rel => exact ⟨q5, ls, ys, _, _, by omega, HS5.out.more (by decide) (by decide)⟩
            go_wp2_with fail
            refine (pick_in w5 _ g _ (Drawn.start HS5.out.rd.rd) (by omega) 4 (by decide) (by decide)).mono ?_
            rintro e w6 ⟨z, rfl, hz0', hz1', hD⟩
            have HS := Lib.hid (HS5.out.next zg hD)
            clear hD HS5
            have hz : z = 0 ∨ z = 1 ∨ z = 2 ∨ z = 3 := by omega
            clear hz0' hz1'
            obtain ⟨q0, hq0, hq0'⟩ : ∃ q0, q5 + 1 = q0 ∧ q0 ≤ p + 3600 := ⟨_, rfl, by omega⟩
            rw [hq0] at HS
            clear hq0
            have lsl : ls.length ≤ 100 := by have := HS.out.la; omega
            have lys : ys.length ≤ 5 := HS.out.lb
            have gB : g < B + 1 := by have := HS.out.lt; omega
            rcases hz with rfl | rfl | rfl | rfl
            · obtain ⟨a, ha⟩ : ∃ a, 3 = a := ⟨_, rfl⟩
              obtain ⟨b, hb⟩ : ∃ b, 5 = b := ⟨_, rfl⟩
              have HA : Hid (a ≤ 8 ∧ b ≤ 13) := ⟨by omega, by omega⟩
              have HS' : Hid (ObjSt g q0 w w6 B a b ls ys (.slice sa ls.length sc) (.slice ya ys.length yc)) := by rw [← ha, ← hb]; exact HS
              clear HS ha hb
              have HS := HS'
              clear HS'
              go_wp2_with fail
              let SecIn : World → SecD × Value × Value → Nat → Prop := fun u x m => B < m ∧ (∀ k ∈ (Value.slice sa ls.length sc).ownBlock.toList ++ blksOf ls, k < m) ∧ (∀ k, (Value.slice ya ys.length yc).ownBlock = some k → k < m) ∧ OwnB u m x.2.1 x.1.bytes ∧ OwnF u m x.2.2 x.1.fix ∧ (∀ k, x.2.1.ownBlock = some k → x.2.2.ownBlock ≠ some k) ∧ (x.1.name.size ≤ 9 ∧ x.1.bytes.length ≤ 49 ∧ x.1.fix.length ≤ 4 ∧ -1 ≤ x.1.size ∧ x.1.size ≤ 49)
              let SecV : World → Value → Prop := fun u v => ∃ (x : SecD × Value × Value) (m : Nat), v = secV x.1 x.2.1 x.2.2 ∧ SecIn u x m
              let V : Nat → Value → World → Prop := fun i v u => match i with
                | 0 => v = .pointer (some ⟨B, 0, none⟩)
                | 1 => v = .slice sa ls.length sc
                | 2 => v = .pointer (some ⟨g, 0, none⟩)
                | 3 => v = .int .i64 many
                | 4 => SecV u v
                | 5 => ∃ (x : SecD × Value × Value) (m k : Nat), v = .slice (some ⟨k, 0, none⟩) 1 1 ∧ Blk u k #[.string x.1.name, .int .i64 x.1.kind, .int .i64 x.1.align, x.2.1, .int .i64 x.1.size, x.2.2] 52 ∧ SecIn u x m
                | 6 => ∃ q ls' va vl vc, v = .slice va vl vc ∧ q ≤ q0 + 1000 ∧ ObjSt g q w (u.setCell ⟨B, 0, none⟩ v) B (a + 1) b ls' ys v (Value.slice ya ys.length yc) ∧ Blk u B (objCells (.slice sa ls.length sc) (Value.slice ya ys.length yc)) 26
                | 7 => v = .pointer (some ⟨B, 0, none⟩)
                | _ => True
              let S : Nat → (Nat → Bool) → World → Prop := fun n f u => (f 6 = false → ∃ q, q ≤ q0 + 100 * n ∧ ObjSt g q w u B a b ls ys (.slice sa ls.length sc) (Value.slice ya ys.length yc)) ∧ (f 8 = true → ∃ q ls' va vl vc, q ≤ q0 + 1000 ∧ ObjSt g q w u B (a + 1) b ls' ys (.slice va vl vc) (Value.slice ya ys.length yc))
              refine wp_region_set V S [[], [0], [], [], [2, 3], [4], [1, 5], [], [6, 7]] [[], [0], [], [], [2, 3], [2, 3, 4], [0, 1, 2, 3, 4, 5], [0, 1, 2, 3, 4, 5, 6], [0, 1, 2, 3, 4, 5, 6, 7]] [] (by kernel_rfl) (by kernel_rfl) (by kernel_rfl) (by kernel_rfl) (by kernel_rfl) ⟨fun _ => ⟨q0, Nat.le_refl _, HS.out.drewN 1⟩, fun h => by cases h⟩ ?ho ?hq
              case ho =>
                refine ⟨?_, ?_, ?_, ?_, ?_, ?_, ?_, ?_, ?_, trivial⟩
                · intro n f A u K hfr hn hl hS hv hK
                  have hn2 : n < 9 := hn
                  obtain ⟨q, hq, H⟩ := hS.1 (hl.2.2 6 (by decide))
                  have hN : ∀ u' q', q' ≤ q + 100 → ObjSt g q' w u' B a b ls ys (.slice sa ls.length sc) (Value.slice ya ys.length yc) → S (n + 1) (setl f 0) u' := fun u' q' h1 h2 => ⟨fun _ => ⟨q', by omega, h2⟩, fun h => by rw [setl_ne (by decide), hl.2.2 8 (by decide)] at h; cases h⟩
                  have e4 : A.tmps.getD 5 undef = .pointer (some ⟨B, 0, none⟩) := hfr 5 (not_dst (by kernel_rfl))
                  have e5 : (A.tmps[5]?).getD undef = .pointer (some ⟨B, 0, none⟩) := by simpa using e4
                  refine owe_run rfl (wp_val (v := .pointer (some ⟨B, 0, none⟩)) ?_ (hK _ _ (hN u q (by omega) H) (fun _ _ _ h => h) (fun _ => rfl)))
                  first
                    | (go_simp; done)
                    | (go_simp; rfl)
                · intro n f A u K hfr hn hl hS hv hK
                  have hn2 : n < 9 := hn
                  obtain ⟨q, hq, H⟩ := hS.1 (hl.2.2 6 (by decide))
                  have hN : ∀ u' q', q' ≤ q + 100 → ObjSt g q' w u' B a b ls ys (.slice sa ls.length sc) (Value.slice ya ys.length yc) → S (n + 1) (setl f 1) u' := fun u' q' h1 h2 => ⟨fun _ => ⟨q', by omega, h2⟩, fun h => by rw [setl_ne (by decide), hl.2.2 8 (by decide)] at h; cases h⟩
                  have c5 := H.cells 0
                  simp at c5
                  have eA0 : A.tmps.getD 91 undef = .pointer (some ⟨B, 0, none⟩) := hv.1
                  have eB0 : (A.tmps[91]?).getD undef = .pointer (some ⟨B, 0, none⟩) := by simpa using eA0
                  refine owe_run rfl (wp_val (v := .slice sa ls.length sc) ?_ (hK _ _ (hN u q (by omega) H) (fun _ _ _ h => h) (fun _ => rfl)))
                  first
                    | (go_simp; done)
                    | (go_simp; rfl)
                · intro n f A u K hfr hn hl hS hv hK
                  have hn2 : n < 9 := hn
                  obtain ⟨q, hq, H⟩ := hS.1 (hl.2.2 6 (by decide))
                  have hN : ∀ u' q', q' ≤ q + 100 → ObjSt g q' w u' B a b ls ys (.slice sa ls.length sc) (Value.slice ya ys.length yc) → S (n + 1) (setl f 2) u' := fun u' q' h1 h2 => ⟨fun _ => ⟨q', by omega, h2⟩, fun h => by rw [setl_ne (by decide), hl.2.2 8 (by decide)] at h; cases h⟩
                  have e4 : A.tmps.getD 0 undef = .pointer (some ⟨g, 0, none⟩) := hfr 0 (not_dst (by kernel_rfl))
                  refine owe_run rfl (wp_val (v := .pointer (some ⟨g, 0, none⟩)) ?_ (hK _ _ (hN u q (by omega) H) (fun _ _ _ h => h) (fun _ => rfl)))
                  first
                    | (go_simp; done)
                    | (go_simp; rfl)
                · intro n f A u K hfr hn hl hS hv hK
                  have hn2 : n < 9 := hn
                  obtain ⟨q, hq, H⟩ := hS.1 (hl.2.2 6 (by decide))
                  have hN : ∀ u' q', q' ≤ q + 100 → ObjSt g q' w u' B a b ls ys (.slice sa ls.length sc) (Value.slice ya ys.length yc) → S (n + 1) (setl f 3) u' := fun u' q' h1 h2 => ⟨fun _ => ⟨q', by omega, h2⟩, fun h => by rw [setl_ne (by decide), hl.2.2 8 (by decide)] at h; cases h⟩
                  have e4 : A.tmps.getD 6 undef = .int .i64 many := hfr 6 (not_dst (by kernel_rfl))
                  refine owe_run rfl (wp_val (v := .int .i64 many) ?_ (hK _ _ (hN u q (by omega) H) (fun _ _ _ h => h) (fun _ => rfl)))
                  first
                    | (go_simp; done)
                    | (go_simp; rfl)
                · intro n f A u K hfr hn hl hS hv hK
                  have hn2 : n < 9 := hn
                  obtain ⟨q, hq, H⟩ := hS.1 (hl.2.2 6 (by decide))
                  have hN : ∀ u' q', q' ≤ q + 100 → ObjSt g q' w u' B a b ls ys (.slice sa ls.length sc) (Value.slice ya ys.length yc) → S (n + 1) (setl f 4) u' := fun u' q' h1 h2 => ⟨fun _ => ⟨q', by omega, h2⟩, fun h => by rw [setl_ne (by decide), hl.2.2 8 (by decide)] at h; cases h⟩
                  have h0 : A.tmps.getD 93 undef = .pointer (some ⟨g, 0, none⟩) := hv.1
                  have h1 : A.tmps.getD 94 undef = .int .i64 many := hv.2.1
                  have hlt := H.secs.lt
                  have hly := World.ownsRow.lt H.syms
                  have hbk := H.blk.lt
                  refine owe_run rfl (wp_fn rfl (args3 h0 h1 rfl) (enter_fn Try.func50 (by kernel_rfl) rfl _ _) ((l20Section_any u g q H.rd.rd (by omega) many hm0 (by omega) 1 (by decide) (by decide)).mono ?_))
                  rintro e u1 ⟨_, q1, rfl, ⟨s, vb, vf, rfl, ho1, ho2, hne, hn1, hbl, hfl, hz0, hz1⟩, hq1, hD2⟩
                  refine ⟨_, rfl, hK _ _ (hN u1 q1 hq1 (H.next zg hD2)) (fun j x hj h => ?_) (fun _ => ⟨(s, vb, vf), u.heap.size, rfl, hbk, fun k hk => (hlt k hk).2, fun k hk => (hly k hk).2, ho1, ho2, hne, hn1, hbl, hfl, hz0, hz1⟩)⟩
                  rcases j with _ | _ | _ | _ | _ | _ | _ | _ | _ | j
                  all_goals first
                    | exact trivial
                    | exact h
                    | exact absurd hj (by decide)
                · intro n f A u K hfr hn hl hS hv hK
                  have hn2 : n < 9 := hn
                  obtain ⟨q, hq, H⟩ := hS.1 (hl.2.2 6 (by decide))
                  have hN : ∀ u' q', q' ≤ q + 100 → ObjSt g q' w u' B a b ls ys (.slice sa ls.length sc) (Value.slice ya ys.length yc) → S (n + 1) (setl f 5) u' := fun u' q' h1 h2 => ⟨fun _ => ⟨q', by omega, h2⟩, fun h => by rw [setl_ne (by decide), hl.2.2 8 (by decide)] at h; cases h⟩
                  obtain ⟨x, m, h0, hm1, hm2, hm3, ho1, ho2, hne, hx⟩ : SecV u (A.tmps.getD 95 undef) := hv.1
                  have h0' : (A.tmps[95]?).getD undef = secV x.1 x.2.1 x.2.2 := by simpa using h0
                  obtain ⟨ba, bc, hba⟩ := owns_form ho1
                  obtain ⟨fa, fc, hfa⟩ := owns_form ho2
                  rw [hba, hfa] at h0'
                  refine owe_run rfl (wp_val (v := .slice (some ⟨u.heap.size, 0, none⟩) 1 1) (w' := u.alloc (.cells #[.string x.1.name, .int .i64 x.1.kind, .int .i64 x.1.align, x.2.1, .int .i64 x.1.size, x.2.2] 52)) ?_ (hK _ _ (hN _ q (by omega) (H.alloc _)) (fun j y hj h => ?_) (fun _ => ⟨x, m, u.heap.size, rfl, Blk.new u _ _, hm1, hm2, hm3, World.ownsRow.alloc ho1 _, World.ownsRow.alloc ho2 _, hne, hx⟩)))
                  · rw [hba, hfa]
                    first
                      | (go_simp; done)
                      | (go_simp; rfl)
                  · rcases j with _ | _ | _ | _ | _ | _ | _ | _ | _ | j
                    all_goals first
                      | exact trivial
                      | exact h
                      | exact absurd hj (by decide)
                · intro n f A u K hfr hn hl hS hv hK
                  have hn2 : n < 9 := hn
                  obtain ⟨q, hq, H⟩ := hS.1 hl.1
                  obtain ⟨h0, ⟨x, m, kk, h1, hk2, hm1, hm2, hm3, ho1, ho2, hne, hx⟩, -⟩ : A.tmps.getD 92 undef = .slice sa ls.length sc ∧ (∃ (x : SecD × Value × Value) (m k : Nat), A.tmps.getD 96 undef = .slice (some ⟨k, 0, none⟩) 1 1 ∧ Blk u k #[.string x.1.name, .int .i64 x.1.kind, .int .i64 x.1.align, x.2.1, .int .i64 x.1.size, x.2.2] 52 ∧ SecIn u x m) ∧ True := ⟨hv.1, hv.2.1, trivial⟩
                  have hfl := H.la
                  have hbl := H.blk.lt
                  have hone : ∀ y ∈ [Value.string x.1.name, .int .i64 x.1.kind, .int .i64 x.1.align, x.2.1, .int .i64 x.1.size, x.2.2], y.oneCell' = true := by
                    intro y hy
                    obtain ⟨ba, bc, hba⟩ := owns_form ho1
                    obtain ⟨fa, fc, hfa⟩ := owns_form ho2
                    simp only [List.mem_cons, List.not_mem_nil, or_false] at hy
                    rcases hy with rfl | rfl | rfl | rfl | rfl | rfl
                    all_goals first
                      | rfl
                      | (rw [hba]; rfl)
                      | (rw [hfa]; rfl)
                  obtain ⟨v', u', hrun, hown, hgr, hpl⟩ := run_append_own u 23 23 23 (B + 1) 52 i0 _ Try.underlying23 hi hz0 (by rw [hz1]; rfl) (by rw [hz1]; decide) _ _ _ (by rw [hz1]; exact H.secs.row) (.slice (some ⟨kk, 0, none⟩) 1 1) 1 (secL x) (by rw [hz1]; exact src_blk Try.underlying23 u kk (secL x) 6 1 1 52 hk2 rfl hone) (by unfold maxLen; omega) (by rw [hz2]; omega) (by omega)
                  rw [hz1] at hown
                  have H2 := H.snocSec zg hm1 hm2 hm3 ho1 ho2 hne hx hgr hown hpl
                  have HB2 : Blk u' B (objCells (.slice sa ls.length sc) (Value.slice ya ys.length yc)) 26 := H.blk.grown hgr (fun e => by have := owns_block H.secs.row B e.symm; omega)
                  obtain ⟨va, vc, hv'⟩ := owns_form hown
                  refine owe_run rfl (wp_val (v := v') (w' := u') ?_ (hK _ _ ⟨fun h => (by rw [setl_at] at h; cases h), fun h => (by rw [setl_ne (by decide), hl.2.2 8 (by decide)] at h; cases h)⟩ (fun j x hj h => ?_) (fun _ => ⟨q, ls ++ [x], va, _, vc, hv', (by omega : q ≤ q0 + 1000), H2, HB2⟩)))
                  · simp at h0 h1 hrun
                    simp [execOp, resolve, invoke, builtin, Act.eval, h0, h1, hrun]
                  · rcases j with _ | _ | _ | _ | _ | _ | _ | _ | _ | j
                    all_goals first
                      | exact trivial
                      | exact h
                      | exact absurd hj (by decide)
                · intro n f A u K hfr hn hl hS hv hK
                  have e4 : A.tmps.getD 5 undef = .pointer (some ⟨B, 0, none⟩) := hfr 5 (not_dst (by kernel_rfl))
                  have e5 : (A.tmps[5]?).getD undef = .pointer (some ⟨B, 0, none⟩) := by simpa using e4
                  refine owe_run rfl (wp_val (v := .pointer (some ⟨B, 0, none⟩)) ?_ (hK _ _ ⟨fun h => (by rw [setl_ne (by decide), hl.2.1 6 (by decide)] at h; cases h), fun h => (by rw [setl_ne (by decide), hl.2.2 8 (by decide)] at h; cases h)⟩ (fun _ _ _ h => h) (fun _ => rfl)))
                  first
                    | (go_simp; done)
                    | (go_simp; rfl)
                · intro n f A u K hfr hn hl hS hv hK
                  obtain ⟨⟨q, ls', va, vl, vc, h0, hq, H2, HB2⟩, h1, -⟩ : (∃ q ls' va vl vc, A.tmps.getD 97 undef = .slice va vl vc ∧ q ≤ q0 + 1000 ∧ ObjSt g q w (u.setCell ⟨B, 0, none⟩ (A.tmps.getD 97 undef)) B (a + 1) b ls' ys (A.tmps.getD 97 undef) (Value.slice ya ys.length yc) ∧ Blk u B (objCells (.slice sa ls.length sc) (Value.slice ya ys.length yc)) 26) ∧ A.tmps.getD 98 undef = .pointer (some ⟨B, 0, none⟩) ∧ True := ⟨hv.1, hv.2.1, trivial⟩
                  rw [h0] at H2
                  have h0' : (A.tmps[97]?).getD undef = .slice va vl vc := by simpa using h0
                  have h1' : (A.tmps[98]?).getD undef = .pointer (some ⟨B, 0, none⟩) := by simpa using h1
                  have c5 := HB2.cell 0
                  have f5 := HB2.frozen 0
                  simp at c5
                  refine owe_run rfl (wp_skp (w' := u.setCell ⟨B, 0, none⟩ (.slice va vl vc)) ?_ (hK undef _ ⟨fun h => (by rw [setl_ne (by decide), hl.2.1 6 (by decide)] at h; cases h), fun _ => ⟨q, ls', _, _, _, by omega, H2⟩⟩ (fun j x hj h => ?_) (fun h => absurd rfl h)))
                  · first
                      | (go_simp; done)
                      | (go_simp; rfl)
                  · rcases j with _ | _ | _ | _ | _ | _ | _ | _ | _ | j
                    all_goals first
                      | exact trivial
                      | exact h
                      | exact absurd hj (by decide)
              case hq =>
                intro gg u hS hv
                obtain ⟨q, ls', va, vl, vc, hq, H9⟩ := hS.2 rfl
                have H9 := Lib.hid H9
                clear hv hS HS
                simp only [List.map, putG, List.setIfInBounds_toArray, List.set_cons_succ, List.set_cons_zero]
                go_wp2_with fail
                go_meet
                case rel => exact ⟨q, ls', ys, _, _, by omega, H9.out.more (by have := HA.out; omega) (by have := HA.out; omega)⟩
            · go_wp2_with fail
              let V : Nat → Value → World → Prop := fun i v u => match i with
                | 0 => v = .pointer (some ⟨B, 1, none⟩)
                | 1 => v = .slice ya ys.length yc
                | 2 => v = .pointer (some ⟨g, 0, none⟩)
                | 3 => v = .pointer (some ⟨B, 0, none⟩)
                | 4 => v = .slice sa ls.length sc
                | 5 => ∃ s, v = symV s ∧ s.name.size ≤ 9
                | 6 => ∃ (s : SymD) (k : Nat), v = .slice (some ⟨k, 0, none⟩) 1 1 ∧ Blk u k (symCells s) 57 ∧ s.name.size ≤ 9
                | 7 => ∃ q ys' va vl vc, v = .slice va vl vc ∧ q ≤ q0 + 1000 ∧ ObjSt g q w (u.setCell ⟨B, 1, none⟩ v) B 3 (5 + 1) ls ys' (.slice sa ls.length sc) v ∧ Blk u B (objCells (.slice sa ls.length sc) (.slice ya ys.length yc)) 26
                | 8 => v = .pointer (some ⟨B, 1, none⟩)
                | _ => True
              let S : Nat → (Nat → Bool) → World → Prop := fun n f u => (f 7 = false → ∃ q, q ≤ q0 + 100 * n ∧ ObjSt g q w u B 3 5 ls ys (.slice sa ls.length sc) (.slice ya ys.length yc)) ∧ (f 9 = true → ∃ q ys' va vl vc, q ≤ q0 + 1000 ∧ ObjSt g q w u B 3 (5 + 1) ls ys' (.slice sa ls.length sc) (.slice va vl vc))
              refine wp_region_set V S [[], [0], [], [], [3], [2, 4], [5], [1, 6], [], [7, 8]] [[], [0], [], [], [3], [2, 3, 4], [2, 3, 4, 5], [0, 1, 2, 3, 4, 5, 6], [0, 1, 2, 3, 4, 5, 6, 7], [0, 1, 2, 3, 4, 5, 6, 7, 8]] [] (by kernel_rfl) (by kernel_rfl) (by kernel_rfl) (by kernel_rfl) (by kernel_rfl) ⟨fun _ => ⟨q0, Nat.le_refl _, HS.out.drewN 1⟩, fun h => by cases h⟩ ?ho ?hq
              case ho =>
                refine ⟨?_, ?_, ?_, ?_, ?_, ?_, ?_, ?_, ?_, ?_, trivial⟩
                · intro n f A u K hfr hn hl hS hv hK
                  have hn2 : n < 10 := hn
                  obtain ⟨q, hq, H⟩ := hS.1 (hl.2.2 7 (by decide))
                  have hN : ∀ u' q', q' ≤ q + 100 → ObjSt g q' w u' B 3 5 ls ys (.slice sa ls.length sc) (.slice ya ys.length yc) → S (n + 1) (setl f 0) u' := fun u' q' h1 h2 => ⟨fun _ => ⟨q', by omega, h2⟩, fun h => by rw [setl_ne (by decide), hl.2.2 9 (by decide)] at h; cases h⟩
                  have e4 : A.tmps.getD 5 undef = .pointer (some ⟨B, 0, none⟩) := hfr 5 (not_dst (by kernel_rfl))
                  have e5 : (A.tmps[5]?).getD undef = .pointer (some ⟨B, 0, none⟩) := by simpa using e4
                  refine owe_run rfl (wp_val (v := .pointer (some ⟨B, 1, none⟩)) ?_ (hK _ _ (hN u q (by omega) H) (fun _ _ _ h => h) (fun _ => rfl)))
                  first
                    | (go_simp; done)
                    | (go_simp; rfl)
                · intro n f A u K hfr hn hl hS hv hK
                  have hn2 : n < 10 := hn
                  obtain ⟨q, hq, H⟩ := hS.1 (hl.2.2 7 (by decide))
                  have hN : ∀ u' q', q' ≤ q + 100 → ObjSt g q' w u' B 3 5 ls ys (.slice sa ls.length sc) (.slice ya ys.length yc) → S (n + 1) (setl f 1) u' := fun u' q' h1 h2 => ⟨fun _ => ⟨q', by omega, h2⟩, fun h => by rw [setl_ne (by decide), hl.2.2 9 (by decide)] at h; cases h⟩
                  have c5 := H.cells 1
                  simp at c5
                  have eA0 : A.tmps.getD 101 undef = .pointer (some ⟨B, 1, none⟩) := hv.1
                  have eB0 : (A.tmps[101]?).getD undef = .pointer (some ⟨B, 1, none⟩) := by simpa using eA0
                  refine owe_run rfl (wp_val (v := .slice ya ys.length yc) ?_ (hK _ _ (hN u q (by omega) H) (fun _ _ _ h => h) (fun _ => rfl)))
                  first
                    | (go_simp; done)
                    | (go_simp; rfl)
                · intro n f A u K hfr hn hl hS hv hK
                  have hn2 : n < 10 := hn
                  obtain ⟨q, hq, H⟩ := hS.1 (hl.2.2 7 (by decide))
                  have hN : ∀ u' q', q' ≤ q + 100 → ObjSt g q' w u' B 3 5 ls ys (.slice sa ls.length sc) (.slice ya ys.length yc) → S (n + 1) (setl f 2) u' := fun u' q' h1 h2 => ⟨fun _ => ⟨q', by omega, h2⟩, fun h => by rw [setl_ne (by decide), hl.2.2 9 (by decide)] at h; cases h⟩
                  have e4 : A.tmps.getD 0 undef = .pointer (some ⟨g, 0, none⟩) := hfr 0 (not_dst (by kernel_rfl))
                  refine owe_run rfl (wp_val (v := .pointer (some ⟨g, 0, none⟩)) ?_ (hK _ _ (hN u q (by omega) H) (fun _ _ _ h => h) (fun _ => rfl)))
                  first
                    | (go_simp; done)
                    | (go_simp; rfl)
                · intro n f A u K hfr hn hl hS hv hK
                  have hn2 : n < 10 := hn
                  obtain ⟨q, hq, H⟩ := hS.1 (hl.2.2 7 (by decide))
                  have hN : ∀ u' q', q' ≤ q + 100 → ObjSt g q' w u' B 3 5 ls ys (.slice sa ls.length sc) (.slice ya ys.length yc) → S (n + 1) (setl f 3) u' := fun u' q' h1 h2 => ⟨fun _ => ⟨q', by omega, h2⟩, fun h => by rw [setl_ne (by decide), hl.2.2 9 (by decide)] at h; cases h⟩
                  have e4 : A.tmps.getD 5 undef = .pointer (some ⟨B, 0, none⟩) := hfr 5 (not_dst (by kernel_rfl))
                  have e5 : (A.tmps[5]?).getD undef = .pointer (some ⟨B, 0, none⟩) := by simpa using e4
                  refine owe_run rfl (wp_val (v := .pointer (some ⟨B, 0, none⟩)) ?_ (hK _ _ (hN u q (by omega) H) (fun _ _ _ h => h) (fun _ => rfl)))
                  first
                    | (go_simp; done)
                    | (go_simp; rfl)
                · intro n f A u K hfr hn hl hS hv hK
                  have hn2 : n < 10 := hn
                  obtain ⟨q, hq, H⟩ := hS.1 (hl.2.2 7 (by decide))
                  have hN : ∀ u' q', q' ≤ q + 100 → ObjSt g q' w u' B 3 5 ls ys (.slice sa ls.length sc) (.slice ya ys.length yc) → S (n + 1) (setl f 4) u' := fun u' q' h1 h2 => ⟨fun _ => ⟨q', by omega, h2⟩, fun h => by rw [setl_ne (by decide), hl.2.2 9 (by decide)] at h; cases h⟩
                  have c5 := H.cells 0
                  simp at c5
                  have eA0 : A.tmps.getD 104 undef = .pointer (some ⟨B, 0, none⟩) := hv.1
                  have eB0 : (A.tmps[104]?).getD undef = .pointer (some ⟨B, 0, none⟩) := by simpa using eA0
                  refine owe_run rfl (wp_val (v := .slice sa ls.length sc) ?_ (hK _ _ (hN u q (by omega) H) (fun _ _ _ h => h) (fun _ => rfl)))
                  first
                    | (go_simp; done)
                    | (go_simp; rfl)
                · intro n f A u K hfr hn hl hS hv hK
                  have hn2 : n < 10 := hn
                  obtain ⟨q, hq, H⟩ := hS.1 (hl.2.2 7 (by decide))
                  have hN : ∀ u' q', q' ≤ q + 100 → ObjSt g q' w u' B 3 5 ls ys (.slice sa ls.length sc) (.slice ya ys.length yc) → S (n + 1) (setl f 5) u' := fun u' q' h1 h2 => ⟨fun _ => ⟨q', by omega, h2⟩, fun h => by rw [setl_ne (by decide), hl.2.2 9 (by decide)] at h; cases h⟩
                  have h0 : A.tmps.getD 103 undef = .pointer (some ⟨g, 0, none⟩) := hv.1
                  have h1 : A.tmps.getD 105 undef = .slice sa ls.length sc := hv.2.1
                  refine owe_run rfl (wp_fn rfl (args3 h0 h1 rfl) (enter_fn Try.func51 (by kernel_rfl) rfl _ _) ((l20Symbol_any u g q H.rd.rd (by omega) (B + 1) _ ls H.secs gB lsl H.sm 1 (by decide) (by decide)).mono ?_))
                  rintro e u1 ⟨_, q1, rfl, ⟨s, rfl, hn1⟩, hq1, hD2⟩
                  refine ⟨_, rfl, hK _ _ (hN u1 q1 (by omega) (H.next zg hD2)) (fun j x hj h => ?_) (fun _ => ⟨s, rfl, hn1⟩)⟩
                  rcases j with _ | _ | _ | _ | _ | _ | _ | _ | _ | _ | j
                  all_goals first
                    | exact trivial
                    | exact h
                    | exact absurd hj (by decide)
                · intro n f A u K hfr hn hl hS hv hK
                  have hn2 : n < 10 := hn
                  obtain ⟨q, hq, H⟩ := hS.1 (hl.2.2 7 (by decide))
                  have hN : ∀ u' q', q' ≤ q + 100 → ObjSt g q' w u' B 3 5 ls ys (.slice sa ls.length sc) (.slice ya ys.length yc) → S (n + 1) (setl f 6) u' := fun u' q' h1 h2 => ⟨fun _ => ⟨q', by omega, h2⟩, fun h => by rw [setl_ne (by decide), hl.2.2 9 (by decide)] at h; cases h⟩
                  obtain ⟨s, h0, hn1⟩ : ∃ s, A.tmps.getD 106 undef = symV s ∧ s.name.size ≤ 9 := hv.1
                  have h0' : (A.tmps[106]?).getD undef = symV s := by simpa using h0
                  refine owe_run rfl (wp_val (v := .slice (some ⟨u.heap.size, 0, none⟩) 1 1) (w' := u.alloc (.cells (symCells s) 57)) ?_ (hK _ _ (hN _ q (by omega) (H.alloc _)) (fun j y hj h => ?_) (fun _ => ⟨s, u.heap.size, rfl, Blk.new u _ _, hn1⟩)))
                  · first
                      | (go_simp; done)
                      | (go_simp; rfl)
                  · rcases j with _ | _ | _ | _ | _ | _ | _ | _ | _ | _ | j
                    all_goals first
                      | exact trivial
                      | exact h
                      | exact absurd hj (by decide)
                · intro n f A u K hfr hn hl hS hv hK
                  have hn2 : n < 10 := hn
                  obtain ⟨q, hq, H⟩ := hS.1 hl.1
                  obtain ⟨h0, ⟨s, kk, h1, hk2, hn1⟩, -⟩ : A.tmps.getD 102 undef = .slice ya ys.length yc ∧ (∃ (s : SymD) (k : Nat), A.tmps.getD 107 undef = .slice (some ⟨k, 0, none⟩) 1 1 ∧ Blk u k (symCells s) 57 ∧ s.name.size ≤ 9) ∧ True := ⟨hv.1, hv.2.1, trivial⟩
                  have hbl := H.blk.lt
                  have hone : ∀ y ∈ symL s, y.oneCell' = true := by
                    intro y hy
                    simp only [List.mem_cons, List.not_mem_nil, or_false] at hy
                    rcases hy with rfl | rfl | rfl | rfl <;> rfl
                  obtain ⟨v', u', hrun, hown, hgr, hpl⟩ := run_append_own u 24 24 24 (B + 1) 57 j0 _ Try.underlying24 hj' hy0 (by rw [hy1]; rfl) (by rw [hy1]; decide) _ _ _ (by rw [hy1]; exact H.syms) (.slice (some ⟨kk, 0, none⟩) 1 1) 1 (symL s) (by rw [hy1]; exact src_blk Try.underlying24 u kk (symL s) 4 1 1 57 hk2 rfl hone) (by unfold maxLen; omega) (by rw [hy2]; omega) (by omega)
                  rw [hy1] at hown
                  have hown2 : OwnSyms u' (B + 1) v' (ys ++ [s]) := by
                    unfold OwnSyms
                    rw [List.length_append, List.flatMap_append]
                    simpa using hown
                  have H2 := H.moreSyms (c := 1) (zs := [s]) zg (fun y hy => by obtain rfl := List.mem_singleton.1 hy; exact hn1) (Nat.le_refl _) hgr hown2 hpl
                  have HB2 : Blk u' B (objCells (.slice sa ls.length sc) (.slice ya ys.length yc)) 26 := H.blk.grown hgr (fun e => by have := owns_block H.syms B e.symm; omega)
                  obtain ⟨va, vc, hv'⟩ := owns_form hown
                  refine owe_run rfl (wp_val (v := v') (w' := u') ?_ (hK _ _ ⟨fun h => (by rw [setl_at] at h; cases h), fun h => (by rw [setl_ne (by decide), hl.2.2 9 (by decide)] at h; cases h)⟩ (fun j x hj h => ?_) (fun _ => ⟨q, ys ++ [s], va, _, vc, hv', (by omega : q ≤ q0 + 1000), H2, HB2⟩)))
                  · simp at h0 h1 hrun
                    simp [execOp, resolve, invoke, builtin, Act.eval, h0, h1, hrun]
                  · rcases j with _ | _ | _ | _ | _ | _ | _ | _ | _ | _ | j
                    all_goals first
                      | exact trivial
                      | exact h
                      | exact absurd hj (by decide)
                · intro n f A u K hfr hn hl hS hv hK
                  have e4 : A.tmps.getD 5 undef = .pointer (some ⟨B, 0, none⟩) := hfr 5 (not_dst (by kernel_rfl))
                  have e5 : (A.tmps[5]?).getD undef = .pointer (some ⟨B, 0, none⟩) := by simpa using e4
                  refine owe_run rfl (wp_val (v := .pointer (some ⟨B, 1, none⟩)) ?_ (hK _ _ ⟨fun h => (by rw [setl_ne (by decide), hl.2.1 7 (by decide)] at h; cases h), fun h => (by rw [setl_ne (by decide), hl.2.2 9 (by decide)] at h; cases h)⟩ (fun _ _ _ h => h) (fun _ => rfl)))
                  first
                    | (go_simp; done)
                    | (go_simp; rfl)
                · intro n f A u K hfr hn hl hS hv hK
                  obtain ⟨⟨q, ys', va, vl, vc, h0, hq, H2, HB2⟩, h1, -⟩ : (∃ q ys' va vl vc, A.tmps.getD 108 undef = .slice va vl vc ∧ q ≤ q0 + 1000 ∧ ObjSt g q w (u.setCell ⟨B, 1, none⟩ (A.tmps.getD 108 undef)) B 3 (5 + 1) ls ys' (.slice sa ls.length sc) (A.tmps.getD 108 undef) ∧ Blk u B (objCells (.slice sa ls.length sc) (.slice ya ys.length yc)) 26) ∧ A.tmps.getD 109 undef = .pointer (some ⟨B, 1, none⟩) ∧ True := ⟨hv.1, hv.2.1, trivial⟩
                  rw [h0] at H2
                  have h0' : (A.tmps[108]?).getD undef = .slice va vl vc := by simpa using h0
                  have h1' : (A.tmps[109]?).getD undef = .pointer (some ⟨B, 1, none⟩) := by simpa using h1
                  have c5 := HB2.cell 1
                  have f5 := HB2.frozen 1
                  simp at c5
                  refine owe_run rfl (wp_skp (w' := u.setCell ⟨B, 1, none⟩ (.slice va vl vc)) ?_ (hK undef _ ⟨fun h => (by rw [setl_ne (by decide), hl.2.1 7 (by decide)] at h; cases h), fun _ => ⟨q, ys', _, _, _, by omega, H2⟩⟩ (fun j x hj h => ?_) (fun h => absurd rfl h)))
                  · first
                      | (go_simp; done)
                      | (go_simp; rfl)
                  · rcases j with _ | _ | _ | _ | _ | _ | _ | _ | _ | _ | j
                    all_goals first
                      | exact trivial
                      | exact h
                      | exact absurd hj (by decide)
              case hq =>
                intro gg u hS hv
                obtain ⟨q, ys', va, vl, vc, hq, H9⟩ := hS.2 rfl
                have H9 := Lib.hid H9
                clear hv hS HS
                simp only [List.map, putG, List.setIfInBounds_toArray, List.set_cons_succ, List.set_cons_zero]
                go_wp2_with fail
                go_meet
                case rel => exact ⟨q, ls, ys', _, _, by omega, H9.out.more (by decide) (by decide)⟩
            · have cB := HS.out.cells
              go_wp2_with (at_builtin; refine wpList_append_own rfl (.tmp 113) (.tmp 116) 24 24 rfl (B + 1) 57 j0 _ 4 40 Try.underlying24 hj' hy0 hy1 hy2 rfl (by decide) _ _ _ rfl (World.ownsRow.alloc HS.out.syms _) _ 2 [_, _, _, _, _, _, _, _] rfl (src_new Try.underlying24 _ [_, _, _, _, _, _, _, _] 4 2 2 _ rfl ?c0) ?c1 ?c2 ?c3 ?_)
              case c0 =>
                intro u hu
                simp only [List.mem_cons, List.not_mem_nil, or_false] at hu
                rcases hu with rfl | rfl | rfl | rfl | rfl | rfl | rfl | rfl <;> rfl
              case c1 => unfold maxLen; omega
              case c2 => omega
              case c3 => have := HS.out.blk.lt; simp; omega
              intro v' w9 hown hgr hpl
              have H9 := (HS.out.alloc _).moreSyms (c := 2) (zs := [⟨⟨#[116, 119, 111]⟩, 1, -2, 0⟩, ⟨⟨#[116, 119, 111]⟩, 2, -2, 0⟩]) zg (fun y hy => by
                simp only [List.mem_cons, List.not_mem_nil, or_false] at hy
                rcases hy with rfl | rfl <;> decide) (Nat.le_refl _) hgr (by
                unfold OwnSyms
                rw [List.length_append, List.flatMap_append]
                exact hown) (by simpa using hpl)
              have HB9 := Lib.hid ((HS.out.blk.alloc _).grown hgr (fun e => by have := owns_block HS.out.syms B e.symm; omega))
              have c9 := HB9.out.cell
              have f9 := HB9.out.frozen
              obtain ⟨va, vc, hv'⟩ := owns_form hown
              obtain ⟨vl, hvl⟩ : ∃ vl, ys.length + 2 = vl := ⟨_, rfl⟩
              rw [hvl] at hv'
              subst hv'
              have H9 := Lib.hid H9
              clear hvl hown hgr hpl HS cB
              go_wp2_with fail
              go_meet
              case rel => exact ⟨q0, _, _, _, _, by omega, H9.out.more (by decide) (by decide)⟩
            · have hmk : ∀ u, (Instr.makeSlice 24 (.int .i64 13) (.int .i64 13)).run Try.prog u = .ok (.slice (some ⟨u.heap.size, 0, none⟩) 13 13) (u.alloc (.cells #[.string ⟨#[]⟩, .int .i64 0, .int .i64 0, .int .i64 0, .string ⟨#[]⟩, .int .i64 0, .int .i64 0, .int .i64 0, .string ⟨#[]⟩, .int .i64 0, .int .i64 0, .int .i64 0, .string ⟨#[]⟩, .int .i64 0, .int .i64 0, .int .i64 0, .string ⟨#[]⟩, .int .i64 0, .int .i64 0, .int .i64 0, .string ⟨#[]⟩, .int .i64 0, .int .i64 0, .int .i64 0, .string ⟨#[]⟩, .int .i64 0, .int .i64 0, .int .i64 0, .string ⟨#[]⟩, .int .i64 0, .int .i64 0, .int .i64 0, .string ⟨#[]⟩, .int .i64 0, .int .i64 0, .int .i64 0, .string ⟨#[]⟩, .int .i64 0, .int .i64 0, .int .i64 0, .string ⟨#[]⟩, .int .i64 0, .int .i64 0, .int .i64 0, .string ⟨#[]⟩, .int .i64 0, .int .i64 0, .int .i64 0, .string ⟨#[]⟩, .int .i64 0, .int .i64 0, .int .i64 0] 57)) := fun _ => by kernel_rfl
              have cB := HS.out.cells
              have fB := HS.out.blk.frozen
              have zB := HS.out.blk.lt
              have hlo : OwnSyms (w6.alloc (.cells #[.string ⟨#[]⟩, .int .i64 0, .int .i64 0, .int .i64 0, .string ⟨#[]⟩, .int .i64 0, .int .i64 0, .int .i64 0, .string ⟨#[]⟩, .int .i64 0, .int .i64 0, .int .i64 0, .string ⟨#[]⟩, .int .i64 0, .int .i64 0, .int .i64 0, .string ⟨#[]⟩, .int .i64 0, .int .i64 0, .int .i64 0, .string ⟨#[]⟩, .int .i64 0, .int .i64 0, .int .i64 0, .string ⟨#[]⟩, .int .i64 0, .int .i64 0, .int .i64 0, .string ⟨#[]⟩, .int .i64 0, .int .i64 0, .int .i64 0, .string ⟨#[]⟩, .int .i64 0, .int .i64 0, .int .i64 0, .string ⟨#[]⟩, .int .i64 0, .int .i64 0, .int .i64 0, .string ⟨#[]⟩, .int .i64 0, .int .i64 0, .int .i64 0, .string ⟨#[]⟩, .int .i64 0, .int .i64 0, .int .i64 0, .string ⟨#[]⟩, .int .i64 0, .int .i64 0, .int .i64 0] 57)) (B + 1) (.slice (some ⟨w6.heap.size, 0, none⟩) 13 13) (List.replicate 13 ⟨⟨#[]⟩, 0, 0, 0⟩) :=
                owns_mono (World.ownsRow_lit w6 #[Value.string ⟨#[]⟩, Value.int .i64 0, Value.int .i64 0, Value.int .i64 0, Value.string ⟨#[]⟩, Value.int .i64 0, Value.int .i64 0, Value.int .i64 0, Value.string ⟨#[]⟩, Value.int .i64 0, Value.int .i64 0, Value.int .i64 0, Value.string ⟨#[]⟩, Value.int .i64 0, Value.int .i64 0, Value.int .i64 0, Value.string ⟨#[]⟩, Value.int .i64 0, Value.int .i64 0, Value.int .i64 0, Value.string ⟨#[]⟩, Value.int .i64 0, Value.int .i64 0, Value.int .i64 0, Value.string ⟨#[]⟩, Value.int .i64 0, Value.int .i64 0, Value.int .i64 0, Value.string ⟨#[]⟩, Value.int .i64 0, Value.int .i64 0, Value.int .i64 0, Value.string ⟨#[]⟩, Value.int .i64 0, Value.int .i64 0, Value.int .i64 0, Value.string ⟨#[]⟩, Value.int .i64 0, Value.int .i64 0, Value.int .i64 0, Value.string ⟨#[]⟩, Value.int .i64 0, Value.int .i64 0, Value.int .i64 0, Value.string ⟨#[]⟩, Value.int .i64 0, Value.int .i64 0, Value.int .i64 0, Value.string ⟨#[]⟩, Value.int .i64 0, Value.int .i64 0, Value.int .i64 0] 13 (Nat.le_refl _) (by decide) rfl) (by omega)
              have HS8 := (HS.out.alloc _).newSyms (c := 13) zg hlo (fun y hy => by have := (List.eq_of_mem_replicate hy); subst this; decide) (by decide) (fun k hk hm => by
                simp only [Value.ownBlock, Option.some.injEq] at hk
                have := (HS.out.secs.lt k hm).2
                omega)
              rw [World.setCell_alloc_past _ _ _ _ zB] at HS8
              have HS7 := Lib.hid HS8
              clear hlo HS HS8
              go_wp2_with fail
              go_meet
              case rel => exact ⟨q0, _, _, _, _, by omega, HS7.out.more (by decide) (by decide)⟩
          case rest =>
            obtain ⟨q, ls, ys, vs, vy, hq, HS⟩ := hcut
            clear HS5
            have cT := HS.out.top.cell
            have fT := HS.out.top.frozen
            have cB := HS.out.cells
            have zT := HS.out.top.lt
            obtain ⟨sa3, sc3, rfl⟩ := owns_form HS.out.secs.row
            obtain ⟨ya3, yc3, rfl⟩ := owns_form HS.out.syms
            have HD := Lib.hid (HS.out.done zg (by decide) (by decide) (.slice sa3 ls.length sc3) (.slice ya3 ys.length yc3))
            go_wp2_with fail
            refine bodyPost_ret (v := .agg #[.slice sa3 ls.length sc3, .slice ya3 ys.length yc3]) (by simp [results, Try.results18, go_sem, cT, zT]) rfl ⟨_, q, rfl, HD.out.1, by omega, HD.out.2⟩
/-! DrawP -/
open Go.ChangeShapes Go.WideShapes Go.ChangeAt Go.RowKit Go.Joins
set_option linter.unusedSimpArgs false
set_option linter.unusedVariables false
set_option maxRecDepth 100000
/-- An object that can be read; its names are short. -/
def ReadObj (w : World) (v : Value) : Prop := ∃ o, ObjAt w v o ∧ (∀ s ∈ o.secs, s.name.size ≤ 9) ∧ (∀ s ∈ o.syms, s.name.size ≤ 9) ∧ o.secs.length ≤ 9 ∧ o.syms.length ≤ 13 ∧ ∀ s ∈ o.secs, s.bytes.length ≤ 49 ∧ s.fix.length ≤ 4
theorem SomeObj.form {base : Nat} {w : World} {v : Value} (h : SomeObj base w v) : ∃ a n b c m d, v = .agg #[.slice a n b, .slice c m d] := by
  obtain ⟨o, vs, vy, ls, rfl, h1, h2, h3, h4⟩ := h
  obtain ⟨a, b, rfl⟩ := owns_form h2.row
  obtain ⟨c, d, rfl⟩ := owns_form h3
  exact ⟨_, _, _, _, _, _, rfl⟩
theorem SomeObj.read {base : Nat} {w : World} {v : Value} (h : SomeObj base w v) : ReadObj w v := by
  obtain ⟨o, vs, vy, ls, rfl, h1, h2, h3, h4, h5, h6, h7, h8⟩ := h
  refine ⟨o, ⟨vs, vy, rfl, ⟨ls, h1, h2.reads⟩, reads_of_owns h3⟩, fun s hs => ?_, h6, by rw [h1, List.length_map]; exact h7, h8, fun s hs => ?_⟩
  · rw [h1] at hs
    obtain ⟨x, hx, rfl⟩ := List.mem_map.1 hs
    exact (h5 x hx).1
  · rw [h1] at hs
    obtain ⟨x, hx, rfl⟩ := List.mem_map.1 hs
    exact ⟨(h5 x hx).2.1, (h5 x hx).2.2.1⟩
theorem SomeObj.store {base : Nat} {w : World} {v : Value} (h : SomeObj base w v) {T : Nat} (hT : T < base) (a b : Value) : SomeObj base ((w.setCell ⟨T, 0, none⟩ a).setCell ⟨T, 1, none⟩ b) v := by
  obtain ⟨o, vs, vy, ls, rfl, h1, h2, h3, h4⟩ := h
  exact ⟨o, vs, vy, ls, rfl, h1, (h2.setBelow (a := ⟨T, 0, none⟩) hT a).setBelow (a := ⟨T, 1, none⟩) hT b, ownsRow_setCell_below (ownsRow_setCell_below h3 (a := ⟨T, 0, none⟩) hT a) (a := ⟨T, 1, none⟩) hT b, h4⟩
theorem SomeObj.drawn {base g : Nat} {w w' : World} {v : Value} (h : SomeObj base w v) (hg : w.grownBy w' (some g)) (hb : g < base) : SomeObj base w' v := by
  obtain ⟨o, vs, vy, ls, rfl, h1, h2, h3, h4⟩ := h
  exact ⟨o, vs, vy, ls, rfl, h1, h2.drawn hg hb, owns_drawn h3 hg hb, h4⟩
set_option maxHeartbeats 1000000 in
theorem s_DrawWriteObject_any (w : World) (v : Value) (l : List UInt8) (h : BytesAt w v l) :
    Calls Try.prog 5 #[v] w (DrawB ReadObj w) := by
  have H := Lib.hid h
  clear h
  go_enter Try.func5, Try.ntmps5
  go_wp2_with fail
  refine (l20Open_any _ _ l (H.out.below (Nat.le_refl _) ((From.start w).alloc _).below)).mono ?_
  rintro e w1 ⟨g, rfl, hg, hR, hb⟩
  have HF := Lib.hid (((From.start w).alloc _).call hb)
  have HT := Lib.hid ((Blk.new w objZero 26).call hb)
  have HR := Lib.hid hR
  have zT : w.heap.size < w1.heap.size := HT.out.lt
  have gT : g ≠ w.heap.size := by simp at hg; omega
  have gle : w.heap.size ≤ g := by simp at hg; omega
  clear hb hR hg
  go_wp2_with fail
  refine (l20Object_any w1 g 0 HR.out (by decide) 6 (by decide) (by decide)).mono ?_
  rintro e w2 ⟨_, q, rfl, hO, hq, hD⟩
  have HF2 := Lib.hid (HF.out.drawn hD gle)
  have HT2 := Lib.hid (HT.out.drawn hD gT)
  obtain ⟨a, n, b, c, m, d, rfl⟩ := hO.form
  have HO := Lib.hid (hO.store zT (.slice a n b) (.slice c m d))
  have HF3 := Lib.hid ((HF2.out.setCell (p := ⟨w.heap.size, 0, none⟩) (Nat.le_refl _) (.slice a n b)).setCell (p := ⟨w.heap.size, 1, none⟩) (Nat.le_refl _) (.slice c m d))
  have cT := HT2.out.cell
  have fT := HT2.out.frozen
  have z2 : w.heap.size < w2.heap.size := HT2.out.lt
  clear hD HT HF HR hO
  go_wp2_with fail
  refine bodyPost_ret (v := .agg #[.slice a n b, .slice c m d]) (by simp [results, Try.results5, go_sem, cT, z2]) rfl ⟨_, rfl, HO.out.read, HF3.out⟩
end Go.Proofs.Ytkefbhidfbnipaa
