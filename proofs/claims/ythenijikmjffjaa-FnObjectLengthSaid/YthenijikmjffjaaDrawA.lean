/- What the statement on aligned numbers draws: one statement with four picks whose order is open. -/
import Derived.Test.YthenijikmjffjaaDrawK
import Derived.Test.YthenijikmjffjaaInvK
namespace Go.Proofs.Ythenijikmjffjaa
open Go.ChangeShapes Go.WideShapes Go.ChangeAt Go.RowKit Go.Joins
set_option linter.unusedSimpArgs false
set_option linter.unusedVariables false
set_option maxRecDepth 100000
/-- A whole number in a range; a literal of such numbers; the address of one of them. -/
def VInt (lo hi : Int) (_ : World) (v : Value) : Prop := ∃ x, v = .int .i64 x ∧ lo ≤ x ∧ x ≤ hi
def VLit (g n : Nat) (lo hi : Int) (u : World) (v : Value) : Prop := ∃ k c t, v = .slice (some ⟨k, 0, none⟩) n n ∧ k ≠ g ∧ Blk u k c t ∧ c.size = n ∧ ∀ z ∈ c.toList, ∃ y, z = .int .i64 y ∧ lo ≤ y ∧ y ≤ hi
def VAdr (g : Nat) (lo hi : Int) (u : World) (v : Value) : Prop := ∃ k o y, v = .pointer (some ⟨k, o, none⟩) ∧ k ≠ g ∧ u.cell? ⟨k, o, none⟩ = some (.int .i64 y) ∧ lo ≤ y ∧ y ≤ hi
theorem VLit.grown {g n : Nat} {lo hi : Int} {u u' : World} {v : Value} (h : VLit g n lo hi u v) (hg : u.grownBy u' (some g)) : VLit g n lo hi u' v := by
  obtain ⟨k, c, t, h1, h2, h3, h4⟩ := h
  exact ⟨k, c, t, h1, h2, h3.grown hg (fun e => h2 (by simpa using e)), h4⟩
theorem VAdr.grown {g : Nat} {lo hi : Int} {u u' : World} {v : Value} (h : VAdr g lo hi u v) (hg : u.grownBy u' (some g)) : VAdr g lo hi u' v := by
  obtain ⟨k, o, y, h1, h2, h3, h4⟩ := h
  exact ⟨k, o, y, h1, h2, hg.cell h3 (fun e => h2 (by simpa using e)), h4⟩
theorem vlit_adr {g n : Nat} {lo hi : Int} {u : World} {k : Nat} {c : Array Value} {t : TypeId} (h2 : k ≠ g) (h3 : Blk u k c t) (h4 : c.size = n) (h5 : ∀ z ∈ c.toList, ∃ y, z = .int .i64 y ∧ lo ≤ y ∧ y ≤ hi) (x : Int) (hx : 0 ≤ x) (hn : x < n) :
    VAdr g lo hi u (.pointer (some ⟨k, x.toNat, none⟩)) := by
  obtain ⟨z, hz, hc⟩ := lit_at h3 x hx (by omega)
  obtain ⟨y, rfl, h6, h7⟩ := h5 z hz
  exact ⟨k, x.toNat, y, rfl, h2, hc, h6, h7⟩
/-- The reader's state in such a region. -/
def PickS (g q0 : Nat) (w : World) (n : Nat) (u : World) : Prop := ∃ q, q ≤ q0 + n ∧ Drawn g q w u
theorem PickS.stay {g q0 n : Nat} {w u : World} (h : PickS g q0 w n u) : PickS g q0 w (n + 1) u := by
  obtain ⟨q, h1, h2⟩ := h
  exact ⟨q, by omega, h2⟩
theorem PickS.alloc {g q0 n : Nat} {w u : World} (h : PickS g q0 w n u) (o : Obj) : PickS g q0 w (n + 1) (u.alloc o) := by
  obtain ⟨q, h1, h2⟩ := h
  exact ⟨q, by omega, h2.alloc o⟩
theorem grown_refl (u : World) (row : Option Nat) : u.grownBy u row := ⟨rfl, rfl, rfl, Nat.le_refl _, fun _ _ _ => rfl⟩
end Go.Proofs.Ythenijikmjffjaa
