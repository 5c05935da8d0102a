/- Small aids for walks: regions that draw their order, walked once in the order of the text. -/
import Derived.Test.YtadbafjmmhfeaaaBase
import Derived.Deep.QuietTactic
import Derived.BigQuiet
import Derived.IntWalk
namespace Go.Proofs.Ytadbafjmmhfeaaa
open Go.ChangeShapes Go.WideShapes Go.ChangeAt Go.RowKit Go.Joins
set_option linter.unusedSimpArgs false
set_option linter.unusedVariables false
set_option maxRecDepth 100000
/-- A callee that only computes, in a region that only reads. -/
theorem quiet_at {P : Program} {f : FuncId} {args : Array Value} {w : World} {n : Nat} {v : Value}
    (h : Calls P f args (w.drewN n) fun e w' => e = .returned v ∧ w.drewN n = w') : Calls P f args (w.drewN n) fun e w'' => e = .returned v ∧ ∃ m, w'' = w.drewN m :=
  h.mono fun _ _ ⟨he, hm⟩ => ⟨he, n, hm.symm⟩
/-- A world that has come of another by growth alone. -/
structure Grew (w0 : World) where
  w : World
  h : Below w0.heap.size w0 w
instance grewInhabited (w0 : World) : Inhabited (Grew w0) := ⟨⟨w0, Below.refl _ _⟩⟩
theorem Grew.cell {w0 : World} (p : Grew w0) {a : Addr} {v : Value} (h : w0.cell? a = some v) : p.w.cell? a = some v :=
  (p.h.cell (World.block_lt_of_cell? w0 a h)).trans h
theorem Grew.from {w0 : World} (p : Grew w0) : From w0.heap.size w0 p.w := ⟨p.h, p.h.size⟩
/-- **One walk in the order of the text serves every order**, where each operation yields the same value in every world that growth alone brings. -/
theorem wp_region_grew {P : Program} {id : Nat} {Q : Exit → Act → World → Prop} {a : Act} {w : World} {l : List Oper} (hm : P.follows .mixedOrders = true) (hB : Region.lexB .any l.toArray = true)
    (h : wpQuiet P l.toArray (fun w' => ∃ p : Grew w, w' = p.w) (fun a' => ∀ w', (∃ p : Grew w, w' = p.w) → Q .normal a' w') l a) : (Code.region id l.toArray true).wp P Q a w :=
  wp_region_quiet (C := fun w' => ∃ p : Grew w, w' = p.w) hm hB ⟨⟨w.drew, (From.start w).drew.below⟩, rfl⟩ (by simpa using h)
theorem grew_call {P : Program} {f : FuncId} {args : Array Value} {w0 : World} {p : Grew w0} {v : Value}
    (h : Calls P f args p.w fun e w' => e = .returned v ∧ Below p.w.heap.size p.w w') : Calls P f args p.w fun e w'' => e = .returned v ∧ ∃ q : Grew w0, w'' = q.w :=
  h.mono fun _ _ ⟨he, hb⟩ => ⟨he, ⟨_, p.h.trans (hb.mono p.h.size)⟩, rfl⟩
theorem grew_same {P : Program} {f : FuncId} {args : Array Value} {w0 : World} {p : Grew w0} {v : Value}
    (h : Calls P f args p.w fun e w' => e = .returned v ∧ p.w = w') : Calls P f args p.w fun e w'' => e = .returned v ∧ ∃ q : Grew w0, w'' = q.w :=
  h.mono fun _ _ ⟨he, hb⟩ => ⟨he, p, hb.symm⟩
/-- The first place at which something holds, -1 if there is none. -/
def findI {α : Type} (p : α → Bool) (l : List α) : Int := match l.findIdx? p with | some i => (i : Int) | none => -1
theorem findI_hit {α : Type} {p : α → Bool} {l : List α} {k : Nat} (hk : k < l.length) (h : p l[k] = true) (hb : ∀ x ∈ l.take k, p x = false) : findI p l = k := by
  unfold findI
  have : l.findIdx? p = some k := by
    rw [List.findIdx?_eq_some_iff_getElem]
    refine ⟨hk, h, fun j hj => ?_⟩
    have := hb l[j] (by rw [List.mem_take_iff_getElem]; exact ⟨j, by omega, rfl⟩)
    simp [this]
  rw [this]
theorem findI_miss {α : Type} {p : α → Bool} {l : List α} (hb : ∀ x ∈ l, p x = false) : findI p l = -1 := by
  unfold findI
  have : l.findIdx? p = none := by rw [List.findIdx?_eq_none_iff]; exact hb
  rw [this]
theorem findI_nonneg {α : Type} (p : α → Bool) (l : List α) : (0 ≤ findI p l) ↔ l.any p = true := by
  unfold findI
  split
  · rename_i i h
    obtain ⟨h1, h2, _⟩ := List.findIdx?_eq_some_iff_getElem.1 h
    simp only [List.any_eq_true]
    exact ⟨fun _ => ⟨_, List.getElem_mem h1, h2⟩, fun _ => by omega⟩
  · rename_i h
    rw [List.findIdx?_eq_none_iff] at h
    simp only [List.any_eq_true]
    constructor
    · intro h; omega
    · rintro ⟨x, hx, hp⟩; rw [h x hx] at hp; cases hp
theorem findI_range {α : Type} (p : α → Bool) (l : List α) : -1 ≤ findI p l ∧ findI p l < l.length := by
  unfold findI
  split
  · rename_i i h
    obtain ⟨h1, _, _⟩ := List.findIdx?_eq_some_iff_getElem.1 h
    omega
  · omega
theorem take_bad {α : Type} {p : α → Bool} {l : List α} {k : Nat} (hk : k < l.length) (hb : ∀ x ∈ l.take k, p x = false) (h : p l[k] = false) : ∀ x ∈ l.take (k + 1), p x = false := by
  intro x hx
  rw [List.take_succ_eq_append_getElem hk] at hx
  rcases List.mem_append.1 hx with hx | hx
  · exact hb x hx
  · obtain rfl := List.mem_singleton.1 hx; exact h
theorem take_good {α : Type} {p : α → Prop} {l : List α} {k : Nat} (hk : k < l.length) (hb : ∀ x ∈ l.take k, p x) (h : p l[k]) : ∀ x ∈ l.take (k + 1), p x := by
  intro x hx
  rw [List.take_succ_eq_append_getElem hk] at hx
  rcases List.mem_append.1 hx with hx | hx
  · exact hb x hx
  · obtain rfl := List.mem_singleton.1 hx; exact h
theorem owns_take {w : World} {base : Nat} {e : TypeId} {size : Nat} {a : Option Addr} {n cap : Nat} {xs : List Value} (h : w.ownsRow base e size (.slice a n cap) n xs) (m : Nat) (hm : m ≤ n) : w.ownsRow base e size (.slice a m cap) m (xs.take (m * size)) := by
  have h1 : (xs.take (m * size)).length = m * size := by
    rw [List.length_take, h.1]
    have : m * size ≤ n * size := Nat.mul_le_mul_right _ hm
    omega
  refine ⟨h1, ?_⟩
  rcases h.2 with ⟨hv, hx⟩ | ⟨g, cap', cur, hv, hb, hg, hn, hc, hs, ht⟩
  · simp only [Value.slice.injEq] at hv
    obtain ⟨rfl, rfl, rfl⟩ := hv
    left
    obtain rfl : m = 0 := by omega
    exact ⟨rfl, by simp⟩
  · simp only [Value.slice.injEq] at hv
    obtain ⟨rfl, _, rfl⟩ := hv
    right
    refine ⟨g, cap, cur, rfl, hb, hg, by omega, hc, hs, ?_⟩
    have : m * size ≤ n * size := Nat.mul_le_mul_right _ hm
    rw [← ht, List.take_take, Nat.min_eq_left this]
end Go.Proofs.Ytadbafjmmhfeaaa
