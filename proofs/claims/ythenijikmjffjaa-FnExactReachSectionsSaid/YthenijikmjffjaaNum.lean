/- The contracts of the functions on whole numbers: ranges, alignment, widths, signed numbers. -/
import Derived.Test.YthenijikmjffjaaRows
import Derived.WalkKit
import Derived.WalkSpells
import Derived.WalkLawsBesides
import Derived.BigGuardPart
import Derived.Lib.Hide
namespace Go.Proofs.Ythenijikmjffjaa
open Go.RowKit
set_option linter.unusedSimpArgs false
set_option linter.unusedVariables false
set_option maxRecDepth 100000

/-- Whether a number lies in a range. -/
def withinB (n lo hi : Int) : Bool := decide (lo ≤ n) && decide (n ≤ hi)
theorem withinB_iff (n lo hi : Int) : withinB n lo hi = true ↔ lo ≤ n ∧ n ≤ hi := by simp [withinB]
theorem withinB_not (n lo hi : Int) : withinB n lo hi = false ↔ ¬ (lo ≤ n ∧ n ≤ hi) := by rw [← withinB_iff]; simp

/-- 256 to the power of a width in 1..4. -/
def pow256 (wide : Int) : Int := if wide = 1 then 256 else if wide = 2 then 65536 else if wide = 3 then 16777216 else 4294967296
/-- Whether a width and a number are fit for bytes. -/
def numB (n wide : Int) : Bool := withinB wide 1 4 && withinB n 0 (pow256 wide - 1)
def signedOf (n wide : Int) : Int := if numB n wide then (if pow256 wide / 2 ≤ n then n - pow256 wide else n) else 0
theorem wide_four {wide : Int} (h : withinB wide 1 4 = true) : wide = 1 ∨ wide = 2 ∨ wide = 3 ∨ wide = 4 := by
  have := (withinB_iff _ _ _).1 h; omega

set_option maxHeartbeats 400000 in
theorem within_any (n lo hi : Int) (w : World) :
    Calls Try.prog 123 #[.int .i64 n, .int .i64 lo, .int .i64 hi] w fun e w' => e = .returned (.bool (withinB n lo hi)) ∧ w = w' := by
  unfold withinB
  by_cases h1 : lo ≤ n
  · go_enter Try.func123, Try.ntmps123
    go_wp2
    go_ret
    exact ⟨by simp [h1], rfl⟩
  · go_enter Try.func123, Try.ntmps123
    go_wp2
    go_ret
    exact ⟨by have : ¬ lo ≤ n := by omega
              simp [this], rfl⟩

set_option maxHeartbeats 400000 in
theorem l1In_any (n lo hi : Int) (w : World) :
    Calls Try.prog 114 #[.int .i64 n, .int .i64 lo, .int .i64 hi] w fun e w' => e = .returned (.bool (withinB n lo hi)) ∧ w = w' := by
  unfold withinB
  by_cases h1 : lo ≤ n
  · go_enter Try.func114, Try.ntmps114
    go_wp2
    go_ret
    exact ⟨by simp [h1], rfl⟩
  · go_enter Try.func114, Try.ntmps114
    go_wp2
    go_ret
    exact ⟨by have : ¬ lo ≤ n := by omega
              simp [this], rfl⟩

/-- Whether a number is one of which places can be multiples. -/
def alignB (n : Int) : Bool := n == 1 || n == 2 || n == 4 || n == 8
theorem alignB_iff (n : Int) : alignB n = true ↔ n = 1 ∨ n = 2 ∨ n = 4 ∨ n = 8 := by simp [alignB]; omega

/-- The least multiple that is at least a number. -/
def alignUp (n to : Int) : Int := if alignB to && withinB n 0 1000000 then (n + to - 1) / to * to else -1

set_option maxHeartbeats 400000 in
theorem isAlign_any (n : Int) (w : World) :
    Calls Try.prog 124 #[.int .i64 n] w fun e w' => e = .returned (.bool (alignB n)) ∧ w = w' := by
  unfold alignB
  by_cases h1 : n = 1
  · subst h1
    go_enter Try.func124, Try.ntmps124
    go_wp2
    go_ret
    exact ⟨rfl, rfl⟩
  by_cases h2 : n = 2
  · subst h2
    go_enter Try.func124, Try.ntmps124
    go_wp2
    go_ret
    exact ⟨rfl, rfl⟩
  by_cases h3 : n = 4
  · subst h3
    go_enter Try.func124, Try.ntmps124
    go_wp2
    go_ret
    exact ⟨rfl, rfl⟩
  · have e1 : (n == 1) = false := by simpa using h1
    have e2 : (n == 2) = false := by simpa using h2
    have e3 : (n == 4) = false := by simpa using h3
    go_enter Try.func124, Try.ntmps124
    go_wp2
    go_ret
    exact ⟨by simp [e1, e2, e3], rfl⟩

set_option maxHeartbeats 400000 in
theorem aligned_any (n to : Int) (w : World) (h0 : 0 ≤ n) (h1 : n ≤ 1000000) (h2 : 1 ≤ to) (h3 : to ≤ 8) :
    Calls Try.prog 125 #[.int .i64 n, .int .i64 to] w fun e w' => e = .returned (.int .i64 ((n + to - 1) / to * to)) ∧ w = w' := by
  have hd : 0 ≤ (n + to - 1) / to := Int.ediv_nonneg (by omega) (by omega)
  have hm : (n + to - 1) / to * to ≤ n + to - 1 := Int.ediv_mul_le _ (by omega)
  have hn : 0 ≤ (n + to - 1) / to * to := Int.mul_nonneg hd (by omega)
  have hd2 : (n + to - 1) / to ≤ 2000000 := by
    refine Int.le_trans ?_ (show n + to - 1 ≤ 2000000 by omega)
    exact Int.ediv_le_self _ (by omega)
  go_enter Try.func125, Try.ntmps125
  go_wp2
  go_ret
  refine ⟨?_, rfl⟩
  congr 2

set_option maxHeartbeats 400000 in
theorem alignUp_any (n to : Int) (w : World) :
    Calls Try.prog 65 #[.int .i64 n, .int .i64 to] w fun e w' => e = .returned (.int .i64 (alignUp n to)) ∧ w = w' := by
  unfold alignUp
  cases ha : alignB to
  · go_enter Try.func65, Try.ntmps65
    go_wp2_with (first
      | (go_at_call 124; refine (isAlign_any _ _).mono ?_; rintro e w' ⟨rfl, rfl⟩))
    go_ret
    exact ⟨by simp, rfl⟩
  cases hw : withinB n 0 1000000
  · go_enter Try.func65, Try.ntmps65
    go_wp2_with (first
      | (go_at_call 123; refine (within_any _ _ _ _).mono ?_; rintro e w' ⟨rfl, rfl⟩)
      | (go_at_call 124; refine (isAlign_any _ _).mono ?_; rintro e w' ⟨rfl, rfl⟩))
    go_ret
    exact ⟨by simp, rfl⟩
  · have h1 := (alignB_iff _).1 ha
    have h2 := (withinB_iff _ _ _).1 hw
    have H1 := Lib.hid h1
    have H2 := Lib.hid h2
    clear h1 h2
    go_enter Try.func65, Try.ntmps65
    go_wp2_with (first
      | (go_at_call 123; refine (within_any _ _ _ _).mono ?_; rintro e w' ⟨rfl, rfl⟩)
      | (go_at_call 124; refine (isAlign_any _ _).mono ?_; rintro e w' ⟨rfl, rfl⟩)
      | (go_at_call 125; refine (aligned_any _ _ _ (by have := H2.out; omega) (by have := H2.out; omega) (by have := H1.out; omega) (by have := H1.out; omega)).mono ?_; rintro e w' ⟨rfl, rfl⟩))
    go_ret
    exact ⟨by simp, rfl⟩

set_option maxHeartbeats 400000 in
theorem sAlignUp_any (n to : Int) (w : World) :
    Calls Try.prog 136 #[.int .i64 n, .int .i64 to] w fun e w' => e = .returned (.int .i64 (alignUp n to)) ∧ w = w' := by
  cases hw : withinB n 0 1000000
  · go_enter Try.func136, Try.ntmps136
    go_wp2_with (first | (go_at_call 114; (with_reducible refine (l1In_any _ _ _ _).mono ?_); rintro e w' ⟨rfl, rfl⟩))
    go_ret
    exact ⟨by simp [alignUp, *], rfl⟩
  · cases ha : alignB to
    · have h0 : ¬ (to = 1 ∨ to = 2 ∨ to = 4 ∨ to = 8) := by rw [← alignB_iff, ha]; simp
      have e1 : (to != 1) = true := by simp; omega
      have e2 : (to != 2) = true := by simp; omega
      have e3 : (to != 4) = true := by simp; omega
      have e4 : (to != 8) = true := by simp; omega
      clear h0
      go_enter Try.func136, Try.ntmps136
      go_wp2_with (first | (go_at_call 114; (with_reducible refine (l1In_any _ _ _ _).mono ?_); rintro e w' ⟨rfl, rfl⟩))
      go_ret
      exact ⟨by simp [alignUp, *], rfl⟩
    · have h0 := (alignB_iff _).1 ha
      have h1 := (withinB_iff _ _ _).1 hw
      obtain ⟨h1, h2⟩ := h1
      rcases h0 with rfl | rfl | rfl | rfl
      all_goals
        go_enter Try.func136, Try.ntmps136
        go_wp2_with (first | (go_at_call 114; (with_reducible refine (l1In_any _ _ _ _).mono ?_); rintro e w' ⟨rfl, rfl⟩))
        go_ret
        exact ⟨by simp [alignUp, *], rfl⟩


def p256 (k : Nat) : Int := if k = 0 then 1 else if k = 1 then 256 else if k = 2 then 65536 else if k = 3 then 16777216 else 4294967296
theorem p256_pow {k : Nat} {wide : Int} (h : withinB wide 1 4 = true) (hk : (k : Int) = wide) : p256 k = pow256 wide := by
  rcases wide_four h with rfl | rfl | rfl | rfl
  · obtain rfl : k = 1 := by omega
    rfl
  · obtain rfl : k = 2 := by omega
    rfl
  · obtain rfl : k = 3 := by omega
    rfl
  · obtain rfl : k = 4 := by omega
    rfl

set_option maxHeartbeats 800000 in
theorem l1Power_any (wide : Int) (w : World) (hw : withinB wide 1 4 = true) :
    Calls Try.prog 155 #[.int .i64 wide] w fun e w' => e = .returned (.int .i64 (pow256 wide)) ∧ w = w' := by
  have h4 := (withinB_iff _ _ _).1 hw
  obtain ⟨h4, h5⟩ := h4
  have HW := Lib.hid hw
  clear hw
  go_enter Try.func155, Try.ntmps155
  go_wp2_with fail
  go_loop [3, 4] (fun n i => ∃ k : Nat, (k : Int) ≤ wide ∧ i = .int .i64 k ∧ n = .int .i64 (p256 k)) (fun _ i => (wide - intOf i).toNat)
  case atStart => exact ⟨0, by omega, rfl, rfl⟩
  case round =>
    obtain ⟨k, hk, rfl, rfl⟩ := hrel
    by_cases hlt : (k : Int) < wide
    · have h : k = 0 ∨ k = 1 ∨ k = 2 ∨ k = 3 := by omega
      rcases h with rfl | rfl | rfl | rfl
      · have e : p256 0 = 1 := rfl
        go_wp2_with fail
        go_round
        case rel => exact ⟨0 + 1, by omega, rfl, rfl⟩
        case measure => simp [intOf]; omega
      · have e : p256 1 = 256 := rfl
        go_wp2_with fail
        go_round
        case rel => exact ⟨1 + 1, by omega, rfl, rfl⟩
        case measure => simp [intOf]; omega
      · have e : p256 2 = 65536 := rfl
        go_wp2_with fail
        go_round
        case rel => exact ⟨2 + 1, by omega, rfl, rfl⟩
        case measure => simp [intOf]; omega
      · have e : p256 3 = 16777216 := rfl
        go_wp2_with fail
        go_round
        case rel => exact ⟨3 + 1, by omega, rfl, rfl⟩
        case measure => simp [intOf]; omega
    · have E : Hid (p256 k = pow256 wide) := p256_pow HW.out (by omega)
      go_wp2_with fail
      go_ret
      exact ⟨by rw [← E.out]; rfl, rfl⟩

end Go.Proofs.Ythenijikmjffjaa
