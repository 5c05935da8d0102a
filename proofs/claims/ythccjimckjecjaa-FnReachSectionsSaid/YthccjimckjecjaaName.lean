/- Names: which texts are names; both functions compute the same. -/
import Derived.Test.YthccjimckjecjaaBase
namespace Go.Proofs.Ythccjimckjecjaa
open Go.ChangeShapes Go.WideShapes Go.ChangeAt Go.RowKit Go.Joins
set_option linter.unusedSimpArgs false
set_option linter.unusedVariables false
set_option maxRecDepth 100000

def letterB (c : UInt8) : Bool := (decide (97 ≤ c.toNat) && decide (c.toNat ≤ 122)) || decide (c.toNat = 95) || decide (c.toNat = 46)
def digitB (c : UInt8) : Bool := decide (48 ≤ c.toNat) && decide (c.toNat ≤ 57)
/-- Whether a byte can stand at a place of a name. -/
def charB (k : Nat) (c : UInt8) : Bool := letterB c || (decide (0 < k) && digitB c)
/-- Whether a text is a name. -/
def nameB (s : ByteArray) : Bool := decide (∀ i, (h : i < s.size) → charB i s[i] = true) && withinB s.size 1 8

theorem char_cases (k : Nat) (c : UInt8) :
    (97 ≤ (c.toNat : Int) ∧ (c.toNat : Int) ≤ 122 ∧ Hid (charB k c = true)) ∨
    (¬ 97 ≤ (c.toNat : Int) ∧ ((c.toNat : Int) == 95) = true ∧ Hid (charB k c = true)) ∨
    (¬ 97 ≤ (c.toNat : Int) ∧ ((c.toNat : Int) == 95) = false ∧ ((c.toNat : Int) == 46) = true ∧ Hid (charB k c = true)) ∨
    (¬ 97 ≤ (c.toNat : Int) ∧ ((c.toNat : Int) == 95) = false ∧ ((c.toNat : Int) == 46) = false ∧ 48 ≤ (c.toNat : Int) ∧ (c.toNat : Int) ≤ 57 ∧ ¬ (c.toNat : Int) < 48 ∧ ¬ 57 < (c.toNat : Int) ∧ 0 < k ∧ ((k : Int) == 0) = false ∧ Hid (charB k c = true)) ∨
    (¬ 97 ≤ (c.toNat : Int) ∧ ((c.toNat : Int) == 95) = false ∧ ((c.toNat : Int) == 46) = false ∧ 48 ≤ (c.toNat : Int) ∧ (c.toNat : Int) ≤ 57 ∧ ¬ (c.toNat : Int) < 48 ∧ ¬ 57 < (c.toNat : Int) ∧ ¬ 0 < k ∧ ((k : Int) == 0) = true ∧ Hid (charB k c = false)) ∨
    (97 ≤ (c.toNat : Int) ∧ ¬ (c.toNat : Int) ≤ 122 ∧ ((c.toNat : Int) == 95) = false ∧ ((c.toNat : Int) == 46) = false ∧ 48 ≤ (c.toNat : Int) ∧ ¬ (c.toNat : Int) ≤ 57 ∧ ¬ (c.toNat : Int) < 48 ∧ 57 < (c.toNat : Int) ∧ Hid (charB k c = false)) ∨
    (¬ 97 ≤ (c.toNat : Int) ∧ ((c.toNat : Int) == 95) = false ∧ ((c.toNat : Int) == 46) = false ∧ ¬ 48 ≤ (c.toNat : Int) ∧ (c.toNat : Int) < 48 ∧ Hid (charB k c = false)) ∨
    (¬ 97 ≤ (c.toNat : Int) ∧ ((c.toNat : Int) == 95) = false ∧ ((c.toNat : Int) == 46) = false ∧ 48 ≤ (c.toNat : Int) ∧ ¬ (c.toNat : Int) ≤ 57 ∧ ¬ (c.toNat : Int) < 48 ∧ 57 < (c.toNat : Int) ∧ Hid (charB k c = false)) := by
  have D : (97 ≤ c.toNat ∧ c.toNat ≤ 122) ∨ c.toNat = 95 ∨ c.toNat = 46 ∨ (48 ≤ c.toNat ∧ c.toNat ≤ 57 ∧ 0 < k) ∨ (48 ≤ c.toNat ∧ c.toNat ≤ 57 ∧ ¬ 0 < k) ∨ 122 < c.toNat ∨ (c.toNat < 48 ∧ c.toNat ≠ 46) ∨ (57 < c.toNat ∧ c.toNat < 97 ∧ c.toNat ≠ 95) := by omega
  unfold Hid charB letterB digitB
  generalize c.toNat = n at D ⊢
  rcases D with h | h | h | h | h | h | h | h
  · refine Or.inl ⟨?_, ?_, ?_⟩ <;> first
      | omega
      | (simp only [beq_iff_eq, beq_eq_false_iff_ne, ne_eq]; omega)
      | (simp only [Bool.or_eq_true, Bool.and_eq_true, decide_eq_true_eq]; omega)
      | (simp only [Bool.or_eq_false_iff, Bool.and_eq_false_iff, decide_eq_false_iff_not]; omega)
  · refine Or.inr (Or.inl ⟨?_, ?_, ?_⟩) <;> first
      | omega
      | (simp only [beq_iff_eq, beq_eq_false_iff_ne, ne_eq]; omega)
      | (simp only [Bool.or_eq_true, Bool.and_eq_true, decide_eq_true_eq]; omega)
      | (simp only [Bool.or_eq_false_iff, Bool.and_eq_false_iff, decide_eq_false_iff_not]; omega)
  · refine Or.inr (Or.inr (Or.inl ⟨?_, ?_, ?_, ?_⟩)) <;> first
      | omega
      | (simp only [beq_iff_eq, beq_eq_false_iff_ne, ne_eq]; omega)
      | (simp only [Bool.or_eq_true, Bool.and_eq_true, decide_eq_true_eq]; omega)
      | (simp only [Bool.or_eq_false_iff, Bool.and_eq_false_iff, decide_eq_false_iff_not]; omega)
  · refine Or.inr (Or.inr (Or.inr (Or.inl ⟨?_, ?_, ?_, ?_, ?_, ?_, ?_, ?_, ?_, ?_⟩))) <;> first
      | omega
      | (simp only [beq_iff_eq, beq_eq_false_iff_ne, ne_eq]; omega)
      | (simp only [Bool.or_eq_true, Bool.and_eq_true, decide_eq_true_eq]; omega)
      | (simp only [Bool.or_eq_false_iff, Bool.and_eq_false_iff, decide_eq_false_iff_not]; omega)
  · refine Or.inr (Or.inr (Or.inr (Or.inr (Or.inl ⟨?_, ?_, ?_, ?_, ?_, ?_, ?_, ?_, ?_, ?_⟩)))) <;> first
      | omega
      | (simp only [beq_iff_eq, beq_eq_false_iff_ne, ne_eq]; omega)
      | (simp only [Bool.or_eq_true, Bool.and_eq_true, decide_eq_true_eq]; omega)
      | (simp only [Bool.or_eq_false_iff, Bool.and_eq_false_iff, decide_eq_false_iff_not]; omega)
  · refine Or.inr (Or.inr (Or.inr (Or.inr (Or.inr (Or.inl ⟨?_, ?_, ?_, ?_, ?_, ?_, ?_, ?_, ?_⟩))))) <;> first
      | omega
      | (simp only [beq_iff_eq, beq_eq_false_iff_ne, ne_eq]; omega)
      | (simp only [Bool.or_eq_true, Bool.and_eq_true, decide_eq_true_eq]; omega)
      | (simp only [Bool.or_eq_false_iff, Bool.and_eq_false_iff, decide_eq_false_iff_not]; omega)
  · refine Or.inr (Or.inr (Or.inr (Or.inr (Or.inr (Or.inr (Or.inl ⟨?_, ?_, ?_, ?_, ?_, ?_⟩)))))) <;> first
      | omega
      | (simp only [beq_iff_eq, beq_eq_false_iff_ne, ne_eq]; omega)
      | (simp only [Bool.or_eq_true, Bool.and_eq_true, decide_eq_true_eq]; omega)
      | (simp only [Bool.or_eq_false_iff, Bool.and_eq_false_iff, decide_eq_false_iff_not]; omega)
  · refine Or.inr (Or.inr (Or.inr (Or.inr (Or.inr (Or.inr (Or.inr (⟨?_, ?_, ?_, ?_, ?_, ?_, ?_, ?_⟩))))))) <;> first
      | omega
      | (simp only [beq_iff_eq, beq_eq_false_iff_ne, ne_eq]; omega)
      | (simp only [Bool.or_eq_true, Bool.and_eq_true, decide_eq_true_eq]; omega)
      | (simp only [Bool.or_eq_false_iff, Bool.and_eq_false_iff, decide_eq_false_iff_not]; omega)

theorem nameB_bad {s : ByteArray} {k : Nat} (hk : k < s.size) (h : charB k s[k] = false) : nameB s = false := by
  unfold nameB
  have : decide (∀ i, (h : i < s.size) → charB i s[i] = true) = false := by
    simp only [decide_eq_false_iff_not]
    intro hall
    have := hall k hk
    rw [h] at this; cases this
  rw [this]; rfl
theorem nameB_all {s : ByteArray} (h : ∀ i, (h : i < s.size) → charB i s[i] = true) : nameB s = withinB s.size 1 8 := by
  unfold nameB; simp [h]

theorem ret_bool {a b : Bool} (h : a = b) : Ending.returned (.bool a) = .returned (.bool b) := by rw [h]

set_option maxHeartbeats 4000000 in
theorem s_NameValid (s : ByteArray) (hs : s.size ≤ maxLen) (w : World) :
    Calls Try.prog 119 #[.string s] w fun e w' => e = .returned (.bool (nameB s)) ∧ w = w' := by
  unfold maxLen at hs
  go_enter Try.func119, Try.ntmps119
  go_wp2_with fail
  go_loop [3] (fun i => ∃ k : Nat, k ≤ s.size ∧ i = .int .i64 k ∧ Hid (∀ j, (h : j < s.size) → j < k → charB j s[j] = true)) (fun i => s.size - (intOf i).toNat)
  case atStart => exact ⟨0, Nat.zero_le _, rfl, fun j _ h => absurd h (Nat.not_lt_zero _)⟩
  case round =>
    obtain ⟨k, hk, rfl, hall⟩ := hrel
    by_cases hlt : k < s.size
    · rcases char_cases k s[k] with ⟨g0, g1, H⟩ | ⟨g0, g1, H⟩ | ⟨g0, g1, g2, H⟩ | ⟨g0, g1, g2, g3, g4, g5, g6, g7, g8, H⟩ | ⟨g0, g1, g2, g3, g4, g5, g6, g7, g8, H⟩ | ⟨g0, g1, g2, g3, g4, g5, g6, g7, H⟩ | ⟨g0, g1, g2, g3, g4, H⟩ | ⟨g0, g1, g2, g3, g4, g5, g6, H⟩
      all_goals
        go_wp2_with fail
        all_goals first
          | (exfalso; omega)
          | (go_round
             case rel => exact ⟨k + 1, by omega, by go_num, fun j hj hj' => by
               rcases Nat.lt_succ_iff_lt_or_eq.1 hj' with h | rfl
               · exact hall.out j hj h
               · exact H.out⟩
             case measure => simp [intOf]; omega)
          | (go_ret
             exact ⟨ret_bool (nameB_bad hlt H.out).symm, rfl⟩)
    · have E : Hid (nameB s = withinB s.size 1 8) := nameB_all fun j hj => hall.out j hj (by omega)
      go_wp2_with (first | (go_at_call 114; (with_reducible refine (l1In_any _ _ _ _).mono ?_); rintro e w' ⟨rfl, rfl⟩))
      go_ret
      exact ⟨by rw [E.out]; rfl, rfl⟩
set_option maxHeartbeats 4000000 in
theorem i_NameValid (s : ByteArray) (hs : s.size ≤ maxLen) (w : World) :
    Calls Try.prog 139 #[.string s] w fun e w' => e = .returned (.bool (nameB s)) ∧ w = w' := by
  unfold maxLen at hs
  go_enter Try.func139, Try.ntmps139
  go_wp2_with fail
  go_loop [6] (fun i => ∃ k : Nat, k ≤ s.size ∧ i = .int .i64 k ∧ Hid (∀ j, (h : j < s.size) → j < k → charB j s[j] = true)) (fun i => s.size - (intOf i).toNat)
  case atStart => exact ⟨0, Nat.zero_le _, rfl, fun j _ h => absurd h (Nat.not_lt_zero _)⟩
  case round =>
    obtain ⟨k, hk, rfl, hall⟩ := hrel
    by_cases hlt : k < s.size
    · rcases char_cases k s[k] with ⟨g0, g1, H⟩ | ⟨g0, g1, H⟩ | ⟨g0, g1, g2, H⟩ | ⟨g0, g1, g2, g3, g4, g5, g6, g7, g8, H⟩ | ⟨g0, g1, g2, g3, g4, g5, g6, g7, g8, H⟩ | ⟨g0, g1, g2, g3, g4, g5, g6, g7, H⟩ | ⟨g0, g1, g2, g3, g4, H⟩ | ⟨g0, g1, g2, g3, g4, g5, g6, H⟩
      all_goals
        go_wp2_with fail
        all_goals first
          | (exfalso; omega)
          | (go_round
             case rel => exact ⟨k + 1, by omega, by go_num, fun j hj hj' => by
               rcases Nat.lt_succ_iff_lt_or_eq.1 hj' with h | rfl
               · exact hall.out j hj h
               · exact H.out⟩
             case measure => simp [intOf]; omega)
          | (go_ret
             exact ⟨ret_bool (nameB_bad hlt H.out).symm, rfl⟩)
    · have E : Hid (nameB s = withinB s.size 1 8) := nameB_all fun j hj => hall.out j hj (by omega)
      go_wp2_with (first | (go_at_call 123; (with_reducible refine (within_any _ _ _ _).mono ?_); rintro e w' ⟨rfl, rfl⟩))
      go_ret
      exact ⟨by rw [E.out]; rfl, rfl⟩
end Go.Proofs.Ythccjimckjecjaa
