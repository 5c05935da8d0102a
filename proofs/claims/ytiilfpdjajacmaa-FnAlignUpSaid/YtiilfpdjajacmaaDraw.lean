/- What the reader's functions draw: some value in range, some name, some bytes. -/
import Derived.Test.YtiilfpdjajacmaaPick
import Derived.Test.YtiilfpdjajacmaaName
namespace Go.Proofs.Ytiilfpdjajacmaa
open Go.ChangeShapes Go.WideShapes Go.ChangeAt Go.RowKit Go.Joins
set_option linter.unusedSimpArgs false
set_option linter.unusedVariables false
set_option maxRecDepth 100000

/-- What a drawing function ends in. -/
def DrawE (R : World → Value → Prop) (c : Nat) (w : World) (g p : Nat) (e : Ending) (w' : World) : Prop := ∃ v q, e = .returned v ∧ R w' v ∧ q ≤ p + c ∧ Drawn g q w w'
theorem Drawn.start {w : World} {g p : Nat} (h : RdAt w g p) : Drawn g p w w := ⟨h, ⟨rfl, rfl, rfl, Nat.le_refl _, fun _ _ _ => rfl⟩⟩
theorem RdAt.alloc {w : World} {g p : Nat} (h : RdAt w g p) (o : Obj) : RdAt (w.alloc o) g p := h.grown (row := none) (World.grownBy_alloc w o none) (by simp) (by simp)
theorem Drawn.alloc {w w1 : World} {g p : Nat} (h : Drawn g p w w1) (o : Obj) : Drawn g p w (w1.alloc o) := h.more (World.grownBy_alloc w1 o _) (h.rd.alloc o)
theorem Drawn.below {w w1 w2 : World} {g p : Nat} (h : Drawn g p w w1) (hb : Below w1.heap.size w1 w2) : Drawn g p w w2 :=
  have hg : w1.grownBy w2 none := ⟨hb.os, hb.tape, hb.output, hb.size, fun k hk _ => hb.block k hk⟩
  ⟨h.rd.grown hg (by simp) (by simp), ⟨hb.os.trans h.grow.os, hb.tape.trans h.grow.tape, hb.output.trans h.grow.output, Nat.le_trans h.grow.size hb.size, fun i hi hne => by rw [hb.block i (Nat.lt_of_lt_of_le hi h.grow.size), h.grow.block i hi hne]⟩⟩
theorem Drawn.next {w w1 w2 : World} {g p q : Nat} (h : Drawn g p w w1) (h2 : Drawn g q w1 w2) : Drawn g q w w2 := ⟨h2.rd, h.grow.trans h2.grow⟩
theorem RdAt.lt {w : World} {g p : Nat} (h : RdAt w g p) : g < w.heap.size := by
  obtain ⟨bs, l, hB, _⟩ := h
  exact hB.lt
theorem Drawn.lt {w w1 : World} {g p : Nat} (h : Drawn g p w w1) : g < w1.heap.size := h.rd.lt
/-- A write into a block behind the reader. -/
theorem Drawn.behind {w w1 w2 : World} {g p : Nat} (h : Drawn g p w w1) {k : Nat} (hg : w1.grownBy w2 (some k)) (hk : w.heap.size ≤ k) (hgk : g < k) : Drawn g p w w2 := by
  refine ⟨h.rd.grown hg (fun e => ?_) (fun b ⟨_, _, _, hb⟩ e => ?_), ⟨hg.os.trans h.grow.os, hg.tape.trans h.grow.tape, hg.output.trans h.grow.output, Nat.le_trans h.grow.size hg.size, fun i hi hne => ?_⟩⟩
  · simp only [Option.some.injEq] at e; omega
  · simp only [Option.some.injEq] at e; omega
  · rw [hg.block i (Nat.lt_of_lt_of_le hi h.grow.size) (fun e => by simp only [Option.some.injEq] at e; omega), h.grow.block i hi hne]
theorem Drawn.grownRow {w w1 w2 : World} {g p : Nat} (h : Drawn g p w w1) {row : Option Nat} (hg : w1.grownBy w2 row) (hk : ∀ k, row = some k → w.heap.size ≤ k) (hgw : g < w.heap.size) : Drawn g p w w2 := by
  cases row with
  | none =>
    refine ⟨h.rd.grown hg (by simp) (by simp), ⟨hg.os.trans h.grow.os, hg.tape.trans h.grow.tape, hg.output.trans h.grow.output, Nat.le_trans h.grow.size hg.size, fun i hi hne => ?_⟩⟩
    rw [hg.block i (Nat.lt_of_lt_of_le hi h.grow.size) (by simp), h.grow.block i hi hne]
  | some k => exact h.behind hg (hk k rfl) (by have := hk k rfl; omega)
/-- A literal's element. -/
theorem lit_at {w : World} {gb : Nat} {c : Array Value} {t : TypeId} (h : Blk w gb c t) (x : Int) (h0 : 0 ≤ x) (h1 : x < (c.size : Int)) : ∃ u, u ∈ c.toList ∧ w.cell? ⟨gb, x.toNat, none⟩ = some u := by
  have hi : x.toNat < c.size := by omega
  exact ⟨c[x.toNat], by simp, by rw [h.cell, Array.getElem?_eq_getElem hi]⟩
def intLit (lo hi : Int) (l : List Value) : Bool := l.all fun | .int .i64 y => decide (lo ≤ y) && decide (y ≤ hi) | _ => false
def strLit (n : Nat) (l : List Value) : Bool := l.all fun | .string s => decide (s.size ≤ n) | _ => false
theorem lit_int {w : World} {gb : Nat} {c : Array Value} {t : TypeId} (h : Blk w gb c t) (x : Int) (h0 : 0 ≤ x) (h1 : x < (c.size : Int)) (lo hi : Int) (hc : intLit lo hi c.toList = true) : ∃ y, lo ≤ y ∧ y ≤ hi ∧ w.cell? ⟨gb, x.toNat, none⟩ = some (.int .i64 y) := by
  obtain ⟨u, hu, e⟩ := lit_at h x h0 h1
  have := List.all_eq_true.1 hc u hu
  split at this
  · rename_i y
    simp only [Bool.and_eq_true, decide_eq_true_eq] at this
    exact ⟨y, this.1, this.2, e⟩
  · cases this
theorem lit_str {w : World} {gb : Nat} {c : Array Value} {t : TypeId} (h : Blk w gb c t) (x : Int) (h0 : 0 ≤ x) (h1 : x < (c.size : Int)) (n : Nat) (hc : strLit n c.toList = true) : ∃ s : ByteArray, s.size ≤ n ∧ w.cell? ⟨gb, x.toNat, none⟩ = some (.string s) := by
  obtain ⟨u, hu, e⟩ := lit_at h x h0 h1
  have := List.all_eq_true.1 hc u hu
  split at this
  · rename_i s
    exact ⟨s, by simpa using this, e⟩
  · cases this
/-- A pick, in range. -/
def PickP (w : World) (g p : Nat) (n : Int) (e : Ending) (w' : World) : Prop := ∃ x : Int, e = .returned (.int .i64 x) ∧ 0 ≤ x ∧ x < n ∧ Drawn g (p + 1) w w'
theorem pick_in (w0 w : World) (g p : Nat) (h : Drawn g p w0 w) (hp : p ≤ 1073741824) (n : Int) (h1 : 1 ≤ n) (hn : n ≤ 1073741824) :
    Calls Try.prog 47 #[.pointer (some ⟨g, 0, none⟩), .int .i64 n] w (PickP w0 g p n) :=
  (pick_any w g p h.rd hp n hn).mono fun e w' ⟨x, he, h2, h3, h4⟩ => ⟨x, he, h2, h3 h1, h.next h4⟩
/-- A pick behind a literal. -/
def PickL (w : World) (g p : Nat) (n : Int) (k : Nat) (c : Array Value) (t : TypeId) (e : Ending) (w' : World) : Prop := ∃ x : Int, e = .returned (.int .i64 x) ∧ 0 ≤ x ∧ x < n ∧ Drawn g (p + 1) w w' ∧ Blk w' k c t
theorem pick_over (w0 w : World) (g p : Nat) (h : Drawn g p w0 w) (hp : p ≤ 1073741824) (c : Array Value) (t : TypeId) (n : Int) (h1 : 1 ≤ n) (hn : n ≤ 1073741824) :
    Calls Try.prog 47 #[.pointer (some ⟨g, 0, none⟩), .int .i64 n] (w.alloc (.cells c t)) (PickL w0 g p n w.heap.size c t) :=
  (pick_any _ g p (h.alloc _).rd hp n hn).mono fun e w' ⟨x, he, h2, h3, h4⟩ => ⟨x, he, h2, h3 h1, (h.alloc _).next h4, (Blk.new w c t).grown h4.grow (by have := h.lt; simp; omega)⟩

theorem pick_at (w0 w : World) (g p : Nat) (h : Drawn g p w0 w) (hp : p ≤ 1073741824) (k : Nat) (hk : k = w.heap.size) (c : Array Value) (t : TypeId) (n : Int) (h1 : 1 ≤ n) (hn : n ≤ 1073741824) :
    Calls Try.prog 47 #[.pointer (some ⟨g, 0, none⟩), .int .i64 n] (w.alloc (.cells c t)) (PickL w0 g p n k c t) := by
  subst hk
  exact pick_over w0 w g p h hp c t n h1 hn
def SomeBool (_ : World) (v : Value) : Prop := ∃ b, v = .bool b
def SomeStr (n : Nat) (_ : World) (v : Value) : Prop := ∃ s : ByteArray, v = .string s ∧ s.size ≤ n
def SomeBytes (base n : Nat) (w : World) (v : Value) : Prop := ∃ l, OwnB w base v l ∧ l.length ≤ n
/-- What the call owns stands while the reader runs. -/
theorem owns_drawn {w w' : World} {g B : Nat} {t : TypeId} {size : Nat} {v : Value} {n : Nat} {xs : List Value} (h : w.ownsRow B t size v n xs) (hg : w.grownBy w' (some g)) (hB : g < B) : w'.ownsRow B t size v n xs := by
  refine h.kept hg ?_
  cases hb : v.ownBlock with
  | none => exact .inl rfl
  | some k =>
    right
    have := owns_block h k hb
    intro e; simp only [Option.some.injEq] at e; omega
/-- A write into what the call owns, behind the reader. -/
theorem Drawn.ownGrown {w w1 w2 : World} {g p : Nat} (h : Drawn g p w w1) {t : TypeId} {size : Nat} {v : Value} {n : Nat} {xs : List Value} (hg : w1.grownBy w2 v.ownBlock) (ho : w1.ownsRow w.heap.size t size v n xs) (hgw : g < w.heap.size) : Drawn g p w w2 := by
  have zg := h.lt
  cases hb : v.ownBlock with
  | none =>
    rw [hb] at hg
    refine ⟨h.rd.grown hg (by simp) (by simp), ⟨hg.os.trans h.grow.os, hg.tape.trans h.grow.tape, hg.output.trans h.grow.output, Nat.le_trans h.grow.size hg.size, fun i hi hne => ?_⟩⟩
    rw [hg.block i (Nat.lt_of_lt_of_le hi h.grow.size) (by simp), h.grow.block i hi hne]
  | some k =>
    rw [hb] at hg
    exact h.behind hg (owns_block ho k hb) (by have := owns_block ho k hb; omega)

/-- A reader that a call has opened. -/
def OpenB (w : World) (e : Ending) (w' : World) : Prop := ∃ g, e = .returned (.pointer (some ⟨g, 0, none⟩)) ∧ w.heap.size ≤ g ∧ RdAt w' g 0 ∧ Below w.heap.size w w'
set_option maxHeartbeats 1000000 in
theorem l20Open_any (w : World) (v : Value) (l : List UInt8) (h : BytesAt w v l) :
    Calls Try.prog 46 #[v] w (OpenB w) := by
  obtain ⟨a, cap, rfl, hcap, hmax, hnone, hcell⟩ := h.form
  have HR := Lib.hid h
  clear h
  have hlt : ∀ b off, a = some ⟨b, off, none⟩ → 0 < l.length → b < w.heap.size := by
    intro b off e hn
    obtain ⟨b', off', e', hc⟩ := hcell hn
    rw [e] at e'
    simp only [Option.some.injEq, Addr.mk.injEq] at e'
    obtain ⟨rfl, rfl, _⟩ := e'
    exact World.block_lt_of_cell? w _ (hc 0 hn)
  have HL := Lib.hid hlt
  have HM := Lib.hid hmax
  clear hcell hnone hlt
  by_cases hl : l.length ≤ 2000
  · have e1 : ¬ (2000 : Int) < (l.length : Int) := by omega
    go_enter Try.func46, Try.ntmps46
    go_wp2_with fail
    go_ret
    refine ⟨_, rfl, Nat.le_refl _, ⟨_, l, Blk.new _ _ _, HR.out.below (Nat.le_refl _) ((From.start w).alloc _).below, hl, ?_⟩, ((From.start w).alloc _).below⟩
    intro b off n c e hn
    simp only [Value.slice.injEq] at e
    exact HL.out b off e.1 (by omega)
  · have e1 : (2000 : Int) < (l.length : Int) := by omega
    have e2 : (2000 : Int) ≤ (cap : Int) := by omega
    unfold maxLen at hmax
    go_enter Try.func46, Try.ntmps46
    go_wp2_with fail
    go_ret
    have hl2 : (l.take 2000).length = 2000 := by rw [List.length_take]; omega
    have hr : BytesAt w (.slice a 2000 cap) (l.take 2000) := by
      unfold BytesAt
      rw [hl2]
      obtain ⟨r1, a', cap', hv, r2, r3, r4, r5⟩ := HR.out
      simp only [Value.slice.injEq] at hv
      obtain ⟨rfl, _, rfl⟩ := hv
      refine ⟨by rw [bvs_length, hl2], a, cap, rfl, by omega, r3, r4, fun hn => ?_⟩
      obtain ⟨b, off, e, hc⟩ := r5 (by omega)
      refine ⟨b, off, e, fun j u hu => hc j u ?_⟩
      unfold bvs at hu ⊢
      rw [List.map_take, List.getElem?_take] at hu
      split at hu
      · exact hu
      · cases hu
    refine ⟨_, rfl, Nat.le_refl _, ⟨_, l.take 2000, Blk.new _ _ _, hr.below (Nat.le_refl _) ((From.start w).alloc _).below, by omega, ?_⟩, ((From.start w).alloc _).below⟩
    intro b off n c e hn
    simp only [Value.slice.injEq] at e
    exact HL.out b off e.1 (by omega)

end Go.Proofs.Ytiilfpdjajacmaa
