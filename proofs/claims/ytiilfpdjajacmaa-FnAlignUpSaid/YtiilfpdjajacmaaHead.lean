/- The contracts of the functions on headers and on the widths of fixups. -/
import Derived.Test.YtiilfpdjajacmaaBase
import Derived.Test.YtiilfpdjajacmaaNum
namespace Go.Proofs.Ytiilfpdjajacmaa
open Go.ChangeShapes Go.WideShapes Go.ChangeAt Go.RowKit Go.Joins
set_option linter.unusedSimpArgs false
set_option linter.unusedVariables false
set_option maxRecDepth 100000

/-- Whether a header is valid. -/
def headerB (a b c d : Int) : Bool := withinB a 0 8 && withinB b 0 12 && withinB c 0 48 && withinB d 1 400
/-- The value of a header. -/
@[reducible] def headerV (a b c d : Int) : Value := .agg #[.int .i64 a, .int .i64 b, .int .i64 c, .int .i64 d]

set_option maxHeartbeats 800000 in
theorem i_HeaderValid (a b c d : Int) (w : World) :
    Calls Try.prog 17 #[headerV a b c d] w fun e w' => e = .returned (.bool (headerB a b c d)) ∧ Below w.heap.size w w' := by
  cases h1 : withinB a 0 8
  · go_enter Try.func17, Try.ntmps17
    go_wp2_with (first | (go_at_call 42; (with_reducible refine (within_any _ _ _ _).mono ?_); rintro e w' ⟨rfl, rfl⟩))
    go_ret
    exact ⟨by simp [headerB, h1], (Below.refl _ _).alloc (Nat.le_refl _) _⟩
  cases h2 : withinB b 0 12
  · go_enter Try.func17, Try.ntmps17
    go_wp2_with (first | (go_at_call 42; (with_reducible refine (within_any _ _ _ _).mono ?_); rintro e w' ⟨rfl, rfl⟩))
    go_ret
    exact ⟨by simp [headerB, h1, h2], (Below.refl _ _).alloc (Nat.le_refl _) _⟩
  cases h3 : withinB c 0 48
  · go_enter Try.func17, Try.ntmps17
    go_wp2_with (first | (go_at_call 42; (with_reducible refine (within_any _ _ _ _).mono ?_); rintro e w' ⟨rfl, rfl⟩))
    go_ret
    exact ⟨by simp [headerB, h1, h2, h3], (Below.refl _ _).alloc (Nat.le_refl _) _⟩
  · go_enter Try.func17, Try.ntmps17
    go_wp2_with (first | (go_at_call 42; (with_reducible refine (within_any _ _ _ _).mono ?_); rintro e w' ⟨rfl, rfl⟩))
    go_ret
    exact ⟨by simp [headerB, h1, h2, h3], (Below.refl _ _).alloc (Nat.le_refl _) _⟩
set_option maxHeartbeats 800000 in
theorem s_HeaderValid (a b c d : Int) (w : World) :
    Calls Try.prog 15 #[headerV a b c d] w fun e w' => e = .returned (.bool (headerB a b c d)) ∧ Below w.heap.size w w' := by
  cases h1 : withinB a 0 8
  · go_enter Try.func15, Try.ntmps15
    go_wp2_with (first | (go_at_call 41; (with_reducible refine (l1In_any _ _ _ _).mono ?_); rintro e w' ⟨rfl, rfl⟩))
    go_ret
    exact ⟨by simp [headerB, h1], (Below.refl _ _).alloc (Nat.le_refl _) _⟩
  cases h2 : withinB b 0 12
  · go_enter Try.func15, Try.ntmps15
    go_wp2_with (first | (go_at_call 41; (with_reducible refine (l1In_any _ _ _ _).mono ?_); rintro e w' ⟨rfl, rfl⟩))
    go_ret
    exact ⟨by simp [headerB, h1, h2], (Below.refl _ _).alloc (Nat.le_refl _) _⟩
  cases h3 : withinB c 0 48
  · go_enter Try.func15, Try.ntmps15
    go_wp2_with (first | (go_at_call 41; (with_reducible refine (l1In_any _ _ _ _).mono ?_); rintro e w' ⟨rfl, rfl⟩))
    go_ret
    exact ⟨by simp [headerB, h1, h2, h3], (Below.refl _ _).alloc (Nat.le_refl _) _⟩
  · go_enter Try.func15, Try.ntmps15
    go_wp2_with (first | (go_at_call 41; (with_reducible refine (l1In_any _ _ _ _).mono ?_); rintro e w' ⟨rfl, rfl⟩))
    go_ret
    exact ⟨by simp [headerB, h1, h2, h3], (Below.refl _ _).alloc (Nat.le_refl _) _⟩
set_option maxHeartbeats 800000 in
theorem toHeader_any (a b c d : Int) (w : World) :
    Calls Try.prog 16 #[headerV a b c d] w fun e w' => e = .returned (headerV a b c d) ∧ Below w.heap.size w w' := by
  go_enter Try.func16, Try.ntmps16
  go_wp2
  refine bodyPost_ret (v := headerV a b c d) (by simp [results, Try.results16, go_sem]) rfl ⟨rfl, ?_⟩
  repeat first | exact Below.refl _ _ | (refine Below.setCell ?_ (by first | (simp; done) | (simp; omega)) _) | (refine Below.alloc ?_ (by first | (simp; done) | (simp; omega)) _)

/-- An argument that is a header. -/
theorem open_headerAt {H : Type} {enc : TypeId × Value → H} {W : World} {base : Nat} {v : Value} {d : DataW H} {p : List MemPlace}
    (hval : Value.okWide Try.prog W .any base 24 v) (h : DataW.Trod enc Try.prog W 0 (fun _ => true) true 24 v d p) : ∃ x : Int × Int × Int × Int, v = headerV x.1 x.2.1 x.2.2.1 x.2.2.2 := by
  obtain ⟨v0, v1, v2, v3, y0, y1, y2, y3, n, rfl, rfl, rfl, g0, g1, g2, g3⟩ := open_agg4 Try.underlying24 (by kernel_rfl) (by kernel_rfl) hval h
  obtain ⟨a, e0, _⟩ := DataW.trod_int Try.underlying3 g0
  obtain ⟨b, e1, _⟩ := DataW.trod_int Try.underlying3 g1
  obtain ⟨c, e2, _⟩ := DataW.trod_int Try.underlying3 g2
  obtain ⟨d, e3, _⟩ := DataW.trod_int Try.underlying3 g3
  simp at e0 e1 e2 e3
  subst e0 e1 e2 e3
  exact ⟨(a, b, c, d), rfl⟩

/-- How many bytes a fixup of a kind fills. -/
def fixupWide (k : Int) : Int := if k = 1 then 1 else if k = 2 then 2 else if k = 3 then 4 else 0
set_option maxHeartbeats 400000 in
theorem fixupWide_any (k : Int) (w : World) :
    Calls Try.prog 21 #[.int .i64 k] w fun e w' => e = .returned (.int .i64 (fixupWide k)) ∧ w = w' := by
  by_cases h1 : k = 1
  · subst h1
    go_enter Try.func21, Try.ntmps21
    go_wp2
    go_ret
    exact ⟨rfl, rfl⟩
  by_cases h2 : k = 2
  · subst h2
    go_enter Try.func21, Try.ntmps21
    go_wp2
    go_ret
    exact ⟨rfl, rfl⟩
  by_cases h3 : k = 3
  · subst h3
    go_enter Try.func21, Try.ntmps21
    go_wp2
    go_ret
    exact ⟨rfl, rfl⟩
  · have e1 : (k == 1) = false := by simpa using h1
    have e2 : (k == 2) = false := by simpa using h2
    have e3 : (k == 3) = false := by simpa using h3
    have E : Hid (fixupWide k = 0) := by show fixupWide k = 0; simp [fixupWide, h1, h2, h3]
    clear h1 h2 h3
    go_enter Try.func21, Try.ntmps21
    go_wp2
    go_ret
    exact ⟨by rw [E.out]; rfl, rfl⟩
set_option maxHeartbeats 400000 in
theorem sFixupWide_any (k : Int) (w : World) :
    Calls Try.prog 20 #[.int .i64 k] w fun e w' => e = .returned (.int .i64 (fixupWide k)) ∧ Below w.heap.size w w' := by
  cases hk : withinB k 1 3
  · have E : Hid (fixupWide k = 0) := by
      show fixupWide k = 0
      have := (withinB_not _ _ _).1 hk
      unfold fixupWide
      rw [if_neg (by omega), if_neg (by omega), if_neg (by omega)]
    go_enter Try.func20, Try.ntmps20
    go_wp2_with (first | (go_at_call 41; (with_reducible refine (l1In_any _ _ _ _).mono ?_); rintro e w' ⟨rfl, rfl⟩))
    go_ret
    exact ⟨by rw [E.out]; rfl, Below.refl _ _⟩
  · have h := (withinB_iff _ _ _).1 hk
    have h' : k = 1 ∨ k = 2 ∨ k = 3 := by omega
    clear h
    rcases h' with rfl | rfl | rfl
    all_goals
      go_enter Try.func20, Try.ntmps20
      go_wp2_with (first | (go_at_call 41; (with_reducible refine (l1In_any _ _ _ _).mono ?_); rintro e w' ⟨rfl, rfl⟩))
      go_ret
      exact ⟨rfl, (Below.refl _ _).alloc (Nat.le_refl _) _⟩
end Go.Proofs.Ytiilfpdjajacmaa
