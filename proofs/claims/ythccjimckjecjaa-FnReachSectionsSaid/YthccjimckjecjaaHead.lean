/- The contracts of the functions on headers and on the widths of fixups. -/
import Derived.Test.YthccjimckjecjaaBase
namespace Go.Proofs.Ythccjimckjecjaa
open Go.ChangeShapes Go.WideShapes Go.ChangeAt Go.RowKit Go.Joins
set_option linter.unusedSimpArgs false
set_option linter.unusedVariables false
set_option maxRecDepth 100000

/-- Whether a header is valid. -/
def headerB (a b c d : Int) : Bool := withinB a 0 8 && withinB b 0 12 && withinB c 0 48 && withinB d 1 400
/-- The value of a header. -/
@[reducible] def headerV (a b c d : Int) : Value := .agg #[.int .i64 a, .int .i64 b, .int .i64 c, .int .i64 d]

set_option maxHeartbeats 800000 in
theorem i_HeaderValid (a b c d : Int) (w : World) :
    Calls Try.prog 122 #[headerV a b c d] w fun e w' => e = .returned (.bool (headerB a b c d)) ∧ Below w.heap.size w w' := by
  cases h1 : withinB a 0 8
  · go_enter Try.func122, Try.ntmps122
    go_wp2_with (first | (go_at_call 123; (with_reducible refine (within_any _ _ _ _).mono ?_); rintro e w' ⟨rfl, rfl⟩))
    go_ret
    exact ⟨by simp [headerB, h1], (Below.refl _ _).alloc (Nat.le_refl _) _⟩
  cases h2 : withinB b 0 12
  · go_enter Try.func122, Try.ntmps122
    go_wp2_with (first | (go_at_call 123; (with_reducible refine (within_any _ _ _ _).mono ?_); rintro e w' ⟨rfl, rfl⟩))
    go_ret
    exact ⟨by simp [headerB, h1, h2], (Below.refl _ _).alloc (Nat.le_refl _) _⟩
  cases h3 : withinB c 0 48
  · go_enter Try.func122, Try.ntmps122
    go_wp2_with (first | (go_at_call 123; (with_reducible refine (within_any _ _ _ _).mono ?_); rintro e w' ⟨rfl, rfl⟩))
    go_ret
    exact ⟨by simp [headerB, h1, h2, h3], (Below.refl _ _).alloc (Nat.le_refl _) _⟩
  · go_enter Try.func122, Try.ntmps122
    go_wp2_with (first | (go_at_call 123; (with_reducible refine (within_any _ _ _ _).mono ?_); rintro e w' ⟨rfl, rfl⟩))
    go_ret
    exact ⟨by simp [headerB, h1, h2, h3], (Below.refl _ _).alloc (Nat.le_refl _) _⟩
set_option maxHeartbeats 800000 in
theorem s_HeaderValid (a b c d : Int) (w : World) :
    Calls Try.prog 154 #[headerV a b c d] w fun e w' => e = .returned (.bool (headerB a b c d)) ∧ Below w.heap.size w w' := by
  cases h1 : withinB a 0 8
  · go_enter Try.func154, Try.ntmps154
    go_wp2_with (first | (go_at_call 114; (with_reducible refine (l1In_any _ _ _ _).mono ?_); rintro e w' ⟨rfl, rfl⟩))
    go_ret
    exact ⟨by simp [headerB, h1], (Below.refl _ _).alloc (Nat.le_refl _) _⟩
  cases h2 : withinB b 0 12
  · go_enter Try.func154, Try.ntmps154
    go_wp2_with (first | (go_at_call 114; (with_reducible refine (l1In_any _ _ _ _).mono ?_); rintro e w' ⟨rfl, rfl⟩))
    go_ret
    exact ⟨by simp [headerB, h1, h2], (Below.refl _ _).alloc (Nat.le_refl _) _⟩
  cases h3 : withinB c 0 48
  · go_enter Try.func154, Try.ntmps154
    go_wp2_with (first | (go_at_call 114; (with_reducible refine (l1In_any _ _ _ _).mono ?_); rintro e w' ⟨rfl, rfl⟩))
    go_ret
    exact ⟨by simp [headerB, h1, h2, h3], (Below.refl _ _).alloc (Nat.le_refl _) _⟩
  · go_enter Try.func154, Try.ntmps154
    go_wp2_with (first | (go_at_call 114; (with_reducible refine (l1In_any _ _ _ _).mono ?_); rintro e w' ⟨rfl, rfl⟩))
    go_ret
    exact ⟨by simp [headerB, h1, h2, h3], (Below.refl _ _).alloc (Nat.le_refl _) _⟩

/-- How many bytes a fixup of a kind fills. -/
def fixupWide (k : Int) : Int := if k = 1 then 1 else if k = 2 then 2 else if k = 3 then 4 else 0
set_option maxHeartbeats 400000 in
theorem fixupWide_any (k : Int) (w : World) :
    Calls Try.prog 140 #[.int .i64 k] w fun e w' => e = .returned (.int .i64 (fixupWide k)) ∧ w = w' := by
  by_cases h1 : k = 1
  · subst h1
    go_enter Try.func140, Try.ntmps140
    go_wp2
    go_ret
    exact ⟨rfl, rfl⟩
  by_cases h2 : k = 2
  · subst h2
    go_enter Try.func140, Try.ntmps140
    go_wp2
    go_ret
    exact ⟨rfl, rfl⟩
  by_cases h3 : k = 3
  · subst h3
    go_enter Try.func140, Try.ntmps140
    go_wp2
    go_ret
    exact ⟨rfl, rfl⟩
  · have e1 : (k == 1) = false := by simpa using h1
    have e2 : (k == 2) = false := by simpa using h2
    have e3 : (k == 3) = false := by simpa using h3
    have E : Hid (fixupWide k = 0) := by show fixupWide k = 0; simp [fixupWide, h1, h2, h3]
    clear h1 h2 h3
    go_enter Try.func140, Try.ntmps140
    go_wp2
    go_ret
    exact ⟨by rw [E.out]; rfl, rfl⟩
set_option maxHeartbeats 400000 in
theorem sFixupWide_any (k : Int) (w : World) :
    Calls Try.prog 137 #[.int .i64 k] w fun e w' => e = .returned (.int .i64 (fixupWide k)) ∧ Below w.heap.size w w' := by
  cases hk : withinB k 1 3
  · have E : Hid (fixupWide k = 0) := by
      show fixupWide k = 0
      have := (withinB_not _ _ _).1 hk
      unfold fixupWide
      rw [if_neg (by omega), if_neg (by omega), if_neg (by omega)]
    go_enter Try.func137, Try.ntmps137
    go_wp2_with (first | (go_at_call 114; (with_reducible refine (l1In_any _ _ _ _).mono ?_); rintro e w' ⟨rfl, rfl⟩))
    go_ret
    exact ⟨by rw [E.out]; rfl, Below.refl _ _⟩
  · have h := (withinB_iff _ _ _).1 hk
    have h' : k = 1 ∨ k = 2 ∨ k = 3 := by omega
    clear h
    rcases h' with rfl | rfl | rfl
    all_goals
      go_enter Try.func137, Try.ntmps137
      go_wp2_with (first | (go_at_call 114; (with_reducible refine (l1In_any _ _ _ _).mono ?_); rintro e w' ⟨rfl, rfl⟩))
      go_ret
      exact ⟨rfl, (Below.refl _ _).alloc (Nat.le_refl _) _⟩
end Go.Proofs.Ythccjimckjecjaa
