/- Whether a symbol is valid. -/
import Derived.Test.YtkefbhidfbnipaaPlainR
import Derived.Test.YtkefbhidfbnipaaSecValS
import Derived.Test.YtkefbhidfbnipaaBase
import Derived.Deep.RegionHeld3
import Derived.Deep.QuietTactic
import Derived.BigQuiet
namespace Go.Proofs.Ytkefbhidfbnipaa
open Go.ChangeShapes Go.WideShapes Go.ChangeAt Go.RowKit Go.Joins
set_option linter.unusedSimpArgs false
set_option linter.unusedVariables false
set_option maxRecDepth 100000
/-- What stands while a symbol's place is looked at. -/
@[reducible] def SymS (w : World) (b o : Nat) (cs : Array Value) (t : TypeId) (x : SecD) (vb vf : Value) (u : World) : Prop :=
  (∀ j, u.cell? ⟨w.heap.size, j, none⟩ = cs[j]?) ∧ u.cell? ⟨b, o, none⟩ = some (.string x.name) ∧ u.cell? ⟨b, o + 1, none⟩ = some (.int .i64 x.kind) ∧ u.cell? ⟨b, o + 2, none⟩ = some (.int .i64 x.align) ∧
    u.cell? ⟨b, o + 3, none⟩ = some vb ∧ u.cell? ⟨b, o + 4, none⟩ = some (.int .i64 x.size) ∧ u.cell? ⟨b, o + 5, none⟩ = some vf ∧ From (w.heap.size + 1) (w.alloc (.cells cs t)) u
set_option maxHeartbeats 1000000 in
theorem i_SymbolValid (w : World) (s : SymD) (v : Value) (l : List SecD) (h : SecsAt w v l) (hs : s.name.size ≤ maxLen) :
    Calls Try.prog 54 #[symV s, v] w fun e w' => e = .returned (.bool (symB s l)) ∧ Below w.heap.size w w' := by
  obtain ⟨a, cap, rfl, hcap, hmax, hnone, hc⟩ := h.form
  have HC := Lib.hid hc
  clear h hc hnone
  have hs' := Lib.hid hs
  clear hs
  unfold maxLen at hmax
  obtain ⟨nm, bd, wh, vl⟩ := s
  dsimp only at *
  cases h1 : nameB nm
  · have E : Hid (symB ⟨nm, bd, wh, vl⟩ l = false) := by show _ = _; simp [symB, h1]
    go_enter Try.func54, Try.ntmps54
    go_wp2_with (first | (go_at_call 80; (with_reducible refine (i_NameValid _ hs'.out _).mono ?_); rintro e w' ⟨rfl, rfl⟩) | (go_at_call 58; (with_reducible refine (within_any _ _ _ _).mono ?_); rintro e w' ⟨rfl, rfl⟩))
    go_ret
    exact ⟨by rw [E.out]; try rfl, ((From.start w).alloc _).below⟩
  cases h2 : withinB bd 0 2
  · have E : Hid (symB ⟨nm, bd, wh, vl⟩ l = false) := by show _ = _; simp [symB, h2]
    go_enter Try.func54, Try.ntmps54
    go_wp2_with (first | (go_at_call 80; (with_reducible refine (i_NameValid _ hs'.out _).mono ?_); rintro e w' ⟨rfl, rfl⟩) | (go_at_call 58; (with_reducible refine (within_any _ _ _ _).mono ?_); rintro e w' ⟨rfl, rfl⟩))
    go_ret
    exact ⟨by rw [E.out]; try rfl, ((From.start w).alloc _).below⟩
  by_cases h3 : wh = -1
  · subst h3
    have E0 : symB ⟨nm, bd, -1, vl⟩ l = (decide (vl = 0) && decide (bd ≠ 0)) := by simp [symB, h1, h2]
    by_cases h4 : vl = 0
    · subst h4
      by_cases h5 : bd = 0
      · subst h5
        have E : Hid (symB ⟨nm, 0, -1, 0⟩ l = false) := by show _ = _; rw [E0]; rfl
        clear E0
        go_enter Try.func54, Try.ntmps54
        go_wp2_with (first | (go_at_call 80; (with_reducible refine (i_NameValid _ hs'.out _).mono ?_); rintro e w' ⟨rfl, rfl⟩) | (go_at_call 58; (with_reducible refine (within_any _ _ _ _).mono ?_); rintro e w' ⟨rfl, rfl⟩))
        go_ret
        exact ⟨by rw [E.out]; try rfl, ((From.start w).alloc _).below⟩
      · have e5 : (bd != 0) = true := by simpa using h5
        have E : Hid (symB ⟨nm, bd, -1, 0⟩ l = true) := by show _ = _; rw [E0]; simp [h5]
        clear E0 h5
        go_enter Try.func54, Try.ntmps54
        go_wp2_with (first | (go_at_call 80; (with_reducible refine (i_NameValid _ hs'.out _).mono ?_); rintro e w' ⟨rfl, rfl⟩) | (go_at_call 58; (with_reducible refine (within_any _ _ _ _).mono ?_); rintro e w' ⟨rfl, rfl⟩))
        go_ret
        exact ⟨by rw [E.out]; try rfl, ((From.start w).alloc _).below⟩
    · have e4 : (vl == 0) = false := by simpa using h4
      have E : Hid (symB ⟨nm, bd, -1, vl⟩ l = false) := by show _ = _; rw [E0]; simp [h4]
      clear E0 h4
      go_enter Try.func54, Try.ntmps54
      go_wp2_with (first | (go_at_call 80; (with_reducible refine (i_NameValid _ hs'.out _).mono ?_); rintro e w' ⟨rfl, rfl⟩) | (go_at_call 58; (with_reducible refine (within_any _ _ _ _).mono ?_); rintro e w' ⟨rfl, rfl⟩))
      go_ret
      exact ⟨by rw [E.out]; try rfl, ((From.start w).alloc _).below⟩
  have e3 : (wh == -1) = false := by simpa using h3
  by_cases h4 : wh = -2
  · subst h4
    have E : Hid (symB ⟨nm, bd, -2, vl⟩ l = withinB vl 0 60000) := by show _ = _; simp [symB, h1, h2]
    clear h3 e3
    go_enter Try.func54, Try.ntmps54
    go_wp2_with (first | (go_at_call 80; (with_reducible refine (i_NameValid _ hs'.out _).mono ?_); rintro e w' ⟨rfl, rfl⟩) | (go_at_call 58; (with_reducible refine (within_any _ _ _ _).mono ?_); rintro e w' ⟨rfl, rfl⟩))
    go_ret
    exact ⟨by rw [E.out]; try rfl, ((From.start w).alloc _).below⟩
  have e4 : (wh == -2) = false := by simpa using h4
  have E0 : symB ⟨nm, bd, wh, vl⟩ l = (match l[wh.toNat]? with | some x => decide (0 ≤ wh) && withinB vl 0 (sectionSize x) | none => false) := by simp only [symB, h1, h2, if_neg h3, if_neg h4, Bool.true_and]; rfl
  cases h5 : withinB wh 0 ((l.length : Int) - 1)
  · have E : Hid (symB ⟨nm, bd, wh, vl⟩ l = false) := by
      show _ = _
      rw [E0]
      have h6 := (withinB_not _ _ _).1 h5
      split
      · rename_i x hx
        have := (List.getElem?_eq_some_iff.1 hx).1
        have h7 : ¬ 0 ≤ wh := by omega
        simp [h7]
      · rfl
    clear E0 h3 h4
    have hw := IntWalk.i64_in ((l.length : Int) - 1) (by omega)
    have c5 : ∀ wx, Calls Try.prog 58 #[.int .i64 wh, .int .i64 0, .int .i64 ((l.length : Int) - 1)] wx fun e w' => e = .returned (.bool false) ∧ wx = w' := by
      intro wx; rw [← h5]; exact within_any _ _ _ _
    go_enter Try.func54, Try.ntmps54
    go_wp2_with (first | (go_at_call 80; (with_reducible refine (i_NameValid _ hs'.out _).mono ?_); rintro e w' ⟨rfl, rfl⟩) | (go_at_call 58; (with_reducible refine (within_any _ _ _ _).mono ?_); rintro e w' ⟨rfl, rfl⟩))
    go_quiet ((go_at_call 58; exact quiet_at (c5 _)))
    go_wp2_with fail
    go_ret
    exact ⟨by rw [E.out]; try rfl, (((From.start w).alloc _).drewN _).below⟩
  · have h6 := (withinB_iff _ _ _).1 h5
    obtain ⟨W, rfl⟩ := Int.eq_ofNat_of_zero_le h6.1
    have hW : W < l.length := by omega
    have E : Hid (symB ⟨nm, bd, W, vl⟩ l = withinB vl 0 (sectionSize l[W])) := by
      show _ = _
      rw [E0, Int.toNat_natCast, List.getElem?_eq_getElem hW]
      simp
    obtain ⟨b, off, rfl, hc⟩ := HC.out (by omega)
    obtain ⟨vb, vf, hb, hf, c0, c1, c2, c3, c4, c5⟩ := hc W hW
    have hbl : b < w.heap.size := World.block_lt_of_cell? w _ c0
    have i1 : (W : Int) < (l.length : Int) := by omega
    have HS : Hid (SecAt w (secV l[W] vb vf) l[W]) := ⟨vb, vf, rfl, hb, hf⟩
    clear E0 h3 h4 h6 hc hb hf
    generalize l[W] = x at *
    go_enter Try.func54, Try.ntmps54
    go_wp2_with (first | (go_at_call 80; (with_reducible refine (i_NameValid _ hs'.out _).mono ?_); rintro e w' ⟨rfl, rfl⟩) | (go_at_call 58; (with_reducible refine (within_any _ _ _ _).mono ?_); rintro e w' ⟨rfl, rfl⟩))
    have B1 := Blk.new w #[Value.string nm, Value.int .i64 bd, Value.int .i64 W, Value.int .i64 vl] 57
    have F1 := (From.start w).alloc (.cells #[Value.string nm, Value.int .i64 bd, Value.int .i64 W, Value.int .i64 vl] 57)
    have HS1 := Lib.hid (HS.out.below (Nat.le_refl _) F1.below)
    have keepS : ∀ u, From (w.heap.size + 1) (w.alloc (.cells #[Value.string nm, Value.int .i64 bd, Value.int .i64 W, Value.int .i64 vl] 57)) u →
        SymS w b (off + W * 6) #[Value.string nm, Value.int .i64 bd, Value.int .i64 W, Value.int .i64 vl] 57 x vb vf u := fun u hu =>
      ⟨(B1.below hu.below (by simp)).cell, (hu.below.cell (p := ⟨b, off + W * 6, none⟩) (by show b < _; omega)).trans ((F1.below.cell (p := ⟨b, off + W * 6, none⟩) hbl).trans c0),
       (hu.below.cell (p := ⟨b, off + W * 6 + 1, none⟩) (by show b < _; omega)).trans ((F1.below.cell (p := ⟨b, off + W * 6 + 1, none⟩) hbl).trans c1),
       (hu.below.cell (p := ⟨b, off + W * 6 + 2, none⟩) (by show b < _; omega)).trans ((F1.below.cell (p := ⟨b, off + W * 6 + 2, none⟩) hbl).trans c2),
       (hu.below.cell (p := ⟨b, off + W * 6 + 3, none⟩) (by show b < _; omega)).trans ((F1.below.cell (p := ⟨b, off + W * 6 + 3, none⟩) hbl).trans c3),
       (hu.below.cell (p := ⟨b, off + W * 6 + 4, none⟩) (by show b < _; omega)).trans ((F1.below.cell (p := ⟨b, off + W * 6 + 4, none⟩) hbl).trans c4),
       (hu.below.cell (p := ⟨b, off + W * 6 + 5, none⟩) (by show b < _; omega)).trans ((F1.below.cell (p := ⟨b, off + W * 6 + 5, none⟩) hbl).trans c5), hu⟩
    have hS0 := keepS _ ⟨Below.refl _ _, by simp⟩
    have c5 : ∀ wx, Calls Try.prog 58 #[.int .i64 W, .int .i64 0, .int .i64 ((l.length : Int) - 1)] wx fun e w' => e = .returned (.bool true) ∧ wx = w' := by
      intro wx; rw [← h5]; exact within_any _ _ _ _
    have c6 : ∀ wx, Calls Try.prog 58 #[.int .i64 vl, .int .i64 0, .int .i64 (sectionSize x)] wx fun e w' => e = .returned (.bool (withinB vl 0 (sectionSize x))) ∧ wx = w' := fun wx => within_any _ _ _ _
    have hw := IntWalk.i64_in ((l.length : Int) - 1) (by omega)
    clear c0 c1 c2 c3 c4
    go_region_held3 (SymS w b (off + W * 6) #[Value.string nm, Value.int .i64 bd, Value.int .i64 W, Value.int .i64 vl] 57 x vb vf)
      (first | assumption | exact keepS _ (From.drew ⟨Below.refl _ _, by simp⟩) | exact keepS _ (From.call (‹SymS _ _ _ _ _ _ _ _ _›).2.2.2.2.2.2.2 (by assumption)))
      (first
        | (go_at_call 58; (with_reducible refine (c5 _).mono ?_); rintro e w' ⟨rfl, rfl⟩)
        | (go_at_call 58; (with_reducible refine (c6 _).mono ?_); rintro e w' ⟨rfl, rfl⟩)
        | (go_at_call 26; refine (i_SectionSize _ (secV x vb vf) x (HS1.out.below (by simp) (‹SymS _ _ _ _ _ _ _ _ _›).2.2.2.2.2.2.2.below)).mono ?_; rintro e w' ⟨rfl, g1⟩))
    have HL := Lib.hid (F1.trans ((‹SymS _ _ _ _ _ _ _ _ _›).2.2.2.2.2.2.2.below.mono (by omega)))
    clear keepS hS0
    go_wp2_with fail
    go_ret
    exact ⟨by rw [E.out]; try rfl, HL.out.below⟩
set_option maxHeartbeats 1000000 in
theorem s_SymbolValid (w : World) (s : SymD) (v : Value) (l : List SecD) (h : SecsAt w v l) (hs : s.name.size ≤ maxLen) :
    Calls Try.prog 35 #[symV s, v] w fun e w' => e = .returned (.bool (symB s l)) ∧ Below w.heap.size w w' := by
  obtain ⟨a, cap, rfl, hcap, hmax, hnone, hc⟩ := h.form
  have HC := Lib.hid hc
  clear h hc hnone
  have hs' := Lib.hid hs
  clear hs
  unfold maxLen at hmax
  obtain ⟨nm, bd, wh, vl⟩ := s
  dsimp only at *
  cases h1 : nameB nm
  · have E : Hid (symB ⟨nm, bd, wh, vl⟩ l = false) := by show _ = _; simp [symB, h1]
    go_enter Try.func35, Try.ntmps35
    go_wp2_with (first | (go_at_call 59; (with_reducible refine (s_NameValid _ hs'.out _).mono ?_); rintro e w' ⟨rfl, rfl⟩) | (go_at_call 63; (with_reducible refine (l1In_any _ _ _ _).mono ?_); rintro e w' ⟨rfl, rfl⟩))
    go_ret
    exact ⟨by rw [E.out]; try rfl, ((From.start w).alloc _).below⟩
  cases h2 : withinB bd 0 2
  · have E : Hid (symB ⟨nm, bd, wh, vl⟩ l = false) := by show _ = _; simp [symB, h2]
    go_enter Try.func35, Try.ntmps35
    go_wp2_with (first | (go_at_call 59; (with_reducible refine (s_NameValid _ hs'.out _).mono ?_); rintro e w' ⟨rfl, rfl⟩) | (go_at_call 63; (with_reducible refine (l1In_any _ _ _ _).mono ?_); rintro e w' ⟨rfl, rfl⟩))
    go_ret
    exact ⟨by rw [E.out]; try rfl, ((From.start w).alloc _).below⟩
  by_cases h3 : wh = -1
  · subst h3
    have E0 : symB ⟨nm, bd, -1, vl⟩ l = (decide (vl = 0) && decide (bd ≠ 0)) := by simp [symB, h1, h2]
    by_cases h4 : vl = 0
    · subst h4
      by_cases h5 : bd = 0
      · subst h5
        have E : Hid (symB ⟨nm, 0, -1, 0⟩ l = false) := by show _ = _; rw [E0]; rfl
        clear E0
        go_enter Try.func35, Try.ntmps35
        go_wp2_with (first | (go_at_call 59; (with_reducible refine (s_NameValid _ hs'.out _).mono ?_); rintro e w' ⟨rfl, rfl⟩) | (go_at_call 63; (with_reducible refine (l1In_any _ _ _ _).mono ?_); rintro e w' ⟨rfl, rfl⟩))
        go_ret
        exact ⟨by rw [E.out]; try rfl, ((From.start w).alloc _).below⟩
      · have e5 : (bd != 0) = true := by simpa using h5
        have E : Hid (symB ⟨nm, bd, -1, 0⟩ l = true) := by show _ = _; rw [E0]; simp [h5]
        clear E0 h5
        go_enter Try.func35, Try.ntmps35
        go_wp2_with (first | (go_at_call 59; (with_reducible refine (s_NameValid _ hs'.out _).mono ?_); rintro e w' ⟨rfl, rfl⟩) | (go_at_call 63; (with_reducible refine (l1In_any _ _ _ _).mono ?_); rintro e w' ⟨rfl, rfl⟩))
        go_ret
        exact ⟨by rw [E.out]; try rfl, ((From.start w).alloc _).below⟩
    · have e4 : (vl == 0) = false := by simpa using h4
      have E : Hid (symB ⟨nm, bd, -1, vl⟩ l = false) := by show _ = _; rw [E0]; simp [h4]
      clear E0 h4
      go_enter Try.func35, Try.ntmps35
      go_wp2_with (first | (go_at_call 59; (with_reducible refine (s_NameValid _ hs'.out _).mono ?_); rintro e w' ⟨rfl, rfl⟩) | (go_at_call 63; (with_reducible refine (l1In_any _ _ _ _).mono ?_); rintro e w' ⟨rfl, rfl⟩))
      go_ret
      exact ⟨by rw [E.out]; try rfl, ((From.start w).alloc _).below⟩
  have e3 : (wh == -1) = false := by simpa using h3
  by_cases h4 : wh = -2
  · subst h4
    have E : Hid (symB ⟨nm, bd, -2, vl⟩ l = withinB vl 0 60000) := by show _ = _; simp [symB, h1, h2]
    clear h3 e3
    go_enter Try.func35, Try.ntmps35
    go_wp2_with (first | (go_at_call 59; (with_reducible refine (s_NameValid _ hs'.out _).mono ?_); rintro e w' ⟨rfl, rfl⟩) | (go_at_call 63; (with_reducible refine (l1In_any _ _ _ _).mono ?_); rintro e w' ⟨rfl, rfl⟩))
    go_ret
    exact ⟨by rw [E.out]; try rfl, ((From.start w).alloc _).below⟩
  have e4 : (wh == -2) = false := by simpa using h4
  have E0 : symB ⟨nm, bd, wh, vl⟩ l = (match l[wh.toNat]? with | some x => decide (0 ≤ wh) && withinB vl 0 (sectionSize x) | none => false) := by simp only [symB, h1, h2, if_neg h3, if_neg h4, Bool.true_and]; rfl
  cases h5 : withinB wh 0 ((l.length : Int) - 1)
  · have E : Hid (symB ⟨nm, bd, wh, vl⟩ l = false) := by
      show _ = _
      rw [E0]
      have h6 := (withinB_not _ _ _).1 h5
      split
      · rename_i x hx
        have := (List.getElem?_eq_some_iff.1 hx).1
        have h7 : ¬ 0 ≤ wh := by omega
        simp [h7]
      · rfl
    clear E0 h3 h4
    have hw := IntWalk.i64_in ((l.length : Int) - 1) (by omega)
    have c5 : ∀ wx, Calls Try.prog 63 #[.int .i64 wh, .int .i64 0, .int .i64 ((l.length : Int) - 1)] wx fun e w' => e = .returned (.bool false) ∧ wx = w' := by
      intro wx; rw [← h5]; exact l1In_any _ _ _ _
    go_enter Try.func35, Try.ntmps35
    go_wp2_with (first | (go_at_call 59; (with_reducible refine (s_NameValid _ hs'.out _).mono ?_); rintro e w' ⟨rfl, rfl⟩) | (go_at_call 63; (with_reducible refine (l1In_any _ _ _ _).mono ?_); rintro e w' ⟨rfl, rfl⟩))
    go_quiet ((go_at_call 63; exact quiet_at (c5 _)))
    go_wp2_with fail
    go_ret
    exact ⟨by rw [E.out]; try rfl, (((From.start w).alloc _).drewN _).below⟩
  · have h6 := (withinB_iff _ _ _).1 h5
    obtain ⟨W, rfl⟩ := Int.eq_ofNat_of_zero_le h6.1
    have hW : W < l.length := by omega
    have E : Hid (symB ⟨nm, bd, W, vl⟩ l = withinB vl 0 (sectionSize l[W])) := by
      show _ = _
      rw [E0, Int.toNat_natCast, List.getElem?_eq_getElem hW]
      simp
    obtain ⟨b, off, rfl, hc⟩ := HC.out (by omega)
    obtain ⟨vb, vf, hb, hf, c0, c1, c2, c3, c4, c5⟩ := hc W hW
    have hbl : b < w.heap.size := World.block_lt_of_cell? w _ c0
    have i1 : (W : Int) < (l.length : Int) := by omega
    have HS : Hid (SecAt w (secV l[W] vb vf) l[W]) := ⟨vb, vf, rfl, hb, hf⟩
    clear E0 h3 h4 h6 hc hb hf
    generalize l[W] = x at *
    go_enter Try.func35, Try.ntmps35
    go_wp2_with (first | (go_at_call 59; (with_reducible refine (s_NameValid _ hs'.out _).mono ?_); rintro e w' ⟨rfl, rfl⟩) | (go_at_call 63; (with_reducible refine (l1In_any _ _ _ _).mono ?_); rintro e w' ⟨rfl, rfl⟩))
    have B1 := Blk.new w #[Value.string nm, Value.int .i64 bd, Value.int .i64 W, Value.int .i64 vl] 57
    have F1 := (From.start w).alloc (.cells #[Value.string nm, Value.int .i64 bd, Value.int .i64 W, Value.int .i64 vl] 57)
    have HS1 := Lib.hid (HS.out.below (Nat.le_refl _) F1.below)
    have keepS : ∀ u, From (w.heap.size + 1) (w.alloc (.cells #[Value.string nm, Value.int .i64 bd, Value.int .i64 W, Value.int .i64 vl] 57)) u →
        SymS w b (off + W * 6) #[Value.string nm, Value.int .i64 bd, Value.int .i64 W, Value.int .i64 vl] 57 x vb vf u := fun u hu =>
      ⟨(B1.below hu.below (by simp)).cell, (hu.below.cell (p := ⟨b, off + W * 6, none⟩) (by show b < _; omega)).trans ((F1.below.cell (p := ⟨b, off + W * 6, none⟩) hbl).trans c0),
       (hu.below.cell (p := ⟨b, off + W * 6 + 1, none⟩) (by show b < _; omega)).trans ((F1.below.cell (p := ⟨b, off + W * 6 + 1, none⟩) hbl).trans c1),
       (hu.below.cell (p := ⟨b, off + W * 6 + 2, none⟩) (by show b < _; omega)).trans ((F1.below.cell (p := ⟨b, off + W * 6 + 2, none⟩) hbl).trans c2),
       (hu.below.cell (p := ⟨b, off + W * 6 + 3, none⟩) (by show b < _; omega)).trans ((F1.below.cell (p := ⟨b, off + W * 6 + 3, none⟩) hbl).trans c3),
       (hu.below.cell (p := ⟨b, off + W * 6 + 4, none⟩) (by show b < _; omega)).trans ((F1.below.cell (p := ⟨b, off + W * 6 + 4, none⟩) hbl).trans c4),
       (hu.below.cell (p := ⟨b, off + W * 6 + 5, none⟩) (by show b < _; omega)).trans ((F1.below.cell (p := ⟨b, off + W * 6 + 5, none⟩) hbl).trans c5), hu⟩
    have hS0 := keepS _ ⟨Below.refl _ _, by simp⟩
    have c5 : ∀ wx, Calls Try.prog 63 #[.int .i64 W, .int .i64 0, .int .i64 ((l.length : Int) - 1)] wx fun e w' => e = .returned (.bool true) ∧ wx = w' := by
      intro wx; rw [← h5]; exact l1In_any _ _ _ _
    have c6 : ∀ wx, Calls Try.prog 63 #[.int .i64 vl, .int .i64 0, .int .i64 (sectionSize x)] wx fun e w' => e = .returned (.bool (withinB vl 0 (sectionSize x))) ∧ wx = w' := fun wx => l1In_any _ _ _ _
    have hw := IntWalk.i64_in ((l.length : Int) - 1) (by omega)
    clear c0 c1 c2 c3 c4
    go_region_held3 (SymS w b (off + W * 6) #[Value.string nm, Value.int .i64 bd, Value.int .i64 W, Value.int .i64 vl] 57 x vb vf)
      (first | assumption | exact keepS _ (From.drew ⟨Below.refl _ _, by simp⟩) | exact keepS _ (From.call (‹SymS _ _ _ _ _ _ _ _ _›).2.2.2.2.2.2.2 (by assumption)))
      (first
        | (go_at_call 63; (with_reducible refine (c5 _).mono ?_); rintro e w' ⟨rfl, rfl⟩)
        | (go_at_call 63; (with_reducible refine (c6 _).mono ?_); rintro e w' ⟨rfl, rfl⟩)
        | (go_at_call 33; refine (s_SectionSize _ (secV x vb vf) x (HS1.out.below (by simp) (‹SymS _ _ _ _ _ _ _ _ _›).2.2.2.2.2.2.2.below)).mono ?_; rintro e w' ⟨rfl, g1⟩))
    have HL := Lib.hid (F1.trans ((‹SymS _ _ _ _ _ _ _ _ _›).2.2.2.2.2.2.2.below.mono (by omega)))
    clear keepS hS0
    go_wp2_with fail
    go_ret
    exact ⟨by rw [E.out]; try rfl, HL.out.below⟩
end Go.Proofs.Ytkefbhidfbnipaa
