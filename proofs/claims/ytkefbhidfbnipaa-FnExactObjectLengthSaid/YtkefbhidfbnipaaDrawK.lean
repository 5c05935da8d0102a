/- What the statements draw: numbers, bytes, texts, headers. What the statement on aligned numbers draws: one statement with four picks whose order is open. -/
import Derived.Test.YtkefbhidfbnipaaDraw
import Derived.Test.YtkefbhidfbnipaaBytes
import Derived.Test.YtkefbhidfbnipaaHex
import Derived.Test.YtkefbhidfbnipaaInv
namespace Go.Proofs.Ytkefbhidfbnipaa
/-! DrawK -/
open Go.ChangeShapes Go.WideShapes Go.ChangeAt Go.RowKit Go.Joins
set_option linter.unusedSimpArgs false
set_option linter.unusedVariables false
set_option maxRecDepth 100000

theorem From.drawn {B g q : Nat} {w w1 w2 : World} (h : From B w w1) (hD : Drawn g q w1 w2) (hg : B ≤ g) : From B w w2 := h.grown hD.grow (by intro k hk; simp only [Option.some.injEq] at hk; omega)
theorem Blk.drawn {w w' : World} {g q k : Nat} {c : Array Value} {t : TypeId} (h : Blk w k c t) (hD : Drawn g q w w') (hk : g ≠ k) : Blk w' k c t := h.grown hD.grow (by intro e; simp only [Option.some.injEq] at e; omega)
theorem RdAt.ne {w : World} {g p : Nat} (h : RdAt w g p) : g ≠ w.heap.size := by have := h.lt; omega
theorem Drawn.set {w w1 : World} {g q k : Nat} (h : Drawn g q w w1) (hk : w.heap.size ≤ k) (hg : g < w.heap.size) (o : Nat) (u : Value) : Drawn g q w (w1.setCell ⟨k, o, none⟩ u) :=
  h.behind (k := k) ⟨rfl, rfl, rfl, by simp [World.setCell], fun i _ hi => Below.heap_setCell w1 _ _ i (fun e => hi (by rw [e]))⟩ hk (by omega)
/-- What a statement's draw ends in. -/
def DrawB (R : World → Value → Prop) (w : World) (e : Ending) (w' : World) : Prop := ∃ v, e = .returned v ∧ R w' v ∧ From w.heap.size w w'
def TwoInts (a b c d : Int) (_ : World) (v : Value) : Prop := ∃ n m : Int, v = .tuple #[.int .i64 n, .int .i64 m] ∧ a ≤ n ∧ n ≤ b ∧ c ≤ m ∧ m ≤ d
def BytesInts (k : Nat) (a b c d : Int) (w : World) (v : Value) : Prop := ∃ (vb : Value) (l : List UInt8) (n m : Int), v = .tuple #[vb, .int .i64 n, .int .i64 m] ∧ BytesAt w vb l ∧ l.length ≤ k ∧ a ≤ n ∧ n ≤ b ∧ c ≤ m ∧ m ≤ d
def BytesK (k : Nat) (w : World) (v : Value) : Prop := ∃ l, BytesAt w v l ∧ l.length ≤ k
def SomeHead (_ : World) (v : Value) : Prop := ∃ a b c d : Int, v = headerV a b c d
/-- A part of bytes. -/
theorem bytes_sub {w : World} {b off : Nat} {k : List UInt8} (hc : ∀ j (hj : j < k.length), w.cell? ⟨b, off + j, none⟩ = some (.int .u8 (k[j].toNat : Int))) (A W : Nat) (h : A + W ≤ k.length) (c : Nat) (h1 : W ≤ c) (h2 : c ≤ maxLen) :
    BytesAt w (.slice (some ⟨b, off + A, none⟩) W c) ((k.drop A).take W) := by
  have hl : ((k.drop A).take W).length = W := by rw [List.length_take, List.length_drop]; omega
  have := BytesAt.mk (w := w) (b := b) (off := off + A) (cap := c) (l := (k.drop A).take W) (by omega) h2 (fun j hj => by
    rw [Nat.add_assoc, hc (A + j) (by omega)]
    simp)
  rwa [hl] at this
theorem alive_any (w : World) : Calls Try.prog 10 #[] w fun e w' => e = .returned (.bool true) ∧ w = w' := by
  have h : alignUp 5 4 = 8 := by decide
  have hc : Calls Try.prog 36 #[.int .i64 5, .int .i64 4] w fun e w' => e = .returned (.int .i64 8) ∧ w = w' := by
    rw [← h]; exact alignUp_any 5 4 w
  go_enter Try.func10, Try.ntmps10
  go_wp2_with (first | (go_at_call 36; (with_reducible refine (hc).mono ?_); rintro e w' ⟨rfl, rfl⟩))
  go_ret
  exact ⟨rfl, rfl⟩
/-! DrawA -/
open Go.ChangeShapes Go.WideShapes Go.ChangeAt Go.RowKit Go.Joins
set_option linter.unusedSimpArgs false
set_option linter.unusedVariables false
set_option maxRecDepth 100000
/-- A whole number in a range; a literal of such numbers; the address of one of them. -/
def VInt (lo hi : Int) (_ : World) (v : Value) : Prop := ∃ x, v = .int .i64 x ∧ lo ≤ x ∧ x ≤ hi
def VLit (g n : Nat) (lo hi : Int) (u : World) (v : Value) : Prop := ∃ k c t, v = .slice (some ⟨k, 0, none⟩) n n ∧ k ≠ g ∧ Blk u k c t ∧ c.size = n ∧ ∀ z ∈ c.toList, ∃ y, z = .int .i64 y ∧ lo ≤ y ∧ y ≤ hi
def VAdr (g : Nat) (lo hi : Int) (u : World) (v : Value) : Prop := ∃ k o y, v = .pointer (some ⟨k, o, none⟩) ∧ k ≠ g ∧ u.cell? ⟨k, o, none⟩ = some (.int .i64 y) ∧ lo ≤ y ∧ y ≤ hi
theorem VLit.grown {g n : Nat} {lo hi : Int} {u u' : World} {v : Value} (h : VLit g n lo hi u v) (hg : u.grownBy u' (some g)) : VLit g n lo hi u' v := by
  obtain ⟨k, c, t, h1, h2, h3, h4⟩ := h
  exact ⟨k, c, t, h1, h2, h3.grown hg (fun e => h2 (by simpa using e)), h4⟩
theorem VAdr.grown {g : Nat} {lo hi : Int} {u u' : World} {v : Value} (h : VAdr g lo hi u v) (hg : u.grownBy u' (some g)) : VAdr g lo hi u' v := by
  obtain ⟨k, o, y, h1, h2, h3, h4⟩ := h
  exact ⟨k, o, y, h1, h2, hg.cell h3 (fun e => h2 (by simpa using e)), h4⟩
theorem vlit_adr {g n : Nat} {lo hi : Int} {u : World} {k : Nat} {c : Array Value} {t : TypeId} (h2 : k ≠ g) (h3 : Blk u k c t) (h4 : c.size = n) (h5 : ∀ z ∈ c.toList, ∃ y, z = .int .i64 y ∧ lo ≤ y ∧ y ≤ hi) (x : Int) (hx : 0 ≤ x) (hn : x < n) :
    VAdr g lo hi u (.pointer (some ⟨k, x.toNat, none⟩)) := by
  obtain ⟨z, hz, hc⟩ := lit_at h3 x hx (by omega)
  obtain ⟨y, rfl, h6, h7⟩ := h5 z hz
  exact ⟨k, x.toNat, y, rfl, h2, hc, h6, h7⟩
/-- The reader's state in such a region. -/
def PickS (g q0 : Nat) (w : World) (n : Nat) (u : World) : Prop := ∃ q, q ≤ q0 + n ∧ Drawn g q w u
theorem PickS.stay {g q0 n : Nat} {w u : World} (h : PickS g q0 w n u) : PickS g q0 w (n + 1) u := by
  obtain ⟨q, h1, h2⟩ := h
  exact ⟨q, by omega, h2⟩
theorem PickS.alloc {g q0 n : Nat} {w u : World} (h : PickS g q0 w n u) (o : Obj) : PickS g q0 w (n + 1) (u.alloc o) := by
  obtain ⟨q, h1, h2⟩ := h
  exact ⟨q, by omega, h2.alloc o⟩
theorem grown_refl (u : World) (row : Option Nat) : u.grownBy u row := ⟨rfl, rfl, rfl, Nat.le_refl _, fun _ _ _ => rfl⟩
end Go.Proofs.Ytkefbhidfbnipaa
