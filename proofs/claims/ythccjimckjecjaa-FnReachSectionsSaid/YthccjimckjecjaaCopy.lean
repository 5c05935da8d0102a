/- Copies of objects. -/
import Derived.Test.YthccjimckjecjaaNames
import Derived.Test.YthccjimckjecjaaHeld
import Derived.Lib.SliceRun
namespace Go.Proofs.Ythccjimckjecjaa
open Go.ChangeShapes Go.WideShapes Go.ChangeAt Go.RowKit Go.Joins
set_option linter.unusedSimpArgs false
set_option linter.unusedVariables false
set_option maxRecDepth 100000
theorem symL_one (s : SymD) : ∀ u ∈ symL s, u.oneCell' = true := by
  intro u hu
  simp only [List.mem_cons, List.not_mem_nil, or_false] at hu
  rcases hu with rfl | rfl | rfl | rfl <;> rfl
theorem syms_one (l : List SymD) : ∀ u ∈ l.flatMap symL, u.oneCell' = true := by
  intro u hu
  obtain ⟨s, -, h⟩ := List.mem_flatMap.1 hu
  exact symL_one s u h
set_option maxHeartbeats 1000000 in
theorem cloneSyms (w : World) (v : Value) (l : List SymD) (h : SymsAt w v l) (hl : l.length ≤ 1073741824) :
    Calls Try.prog 99 #[v] w fun e w' => ∃ r, e = .returned r ∧ OwnSyms w' w.heap.size r l ∧ Below w.heap.size w w' := by
  obtain ⟨a, cap, rfl, hcap, hmax, hnone, -⟩ := h.form
  obtain ⟨i0, hi, hz0, hz1, hz2⟩ := info_parts info_sym
  have H := Lib.hid h
  clear h
  cases a with
  | none =>
    have hc0 := hnone rfl
    have hl0 : l = [] := List.eq_nil_of_length_eq_zero (by omega)
    subst hl0
    subst hc0
    clear hcap hmax hnone hl
    have eq0 := fun u : World => Lib.run_eql_slice_nil (P := Try.prog) u 24 78 none 0 0 0 0 Try.underlying24
    go_enter Try.func99, Try.ntmps99
    go_wp2_with fail
    go_ret
    exact ⟨_, rfl, World.ownsRow_nil _ _ _ _, Below.refl _ _⟩
  | some a =>
    clear hnone
    have eq0 := fun u : World => Lib.run_eql_slice_nil (P := Try.prog) u 24 78 (some a) l.length cap 0 0 Try.underlying24
    go_enter Try.func99, Try.ntmps99
    go_wp2_with (at_builtin; refine wpList_append_src rfl (.tmp 5) (.tmp 6) 24 24 rfl w.heap.size 78 i0 _ 4 40 Try.underlying24 hi hz0 hz1 hz2 rfl (by decide) _ _ _ rfl (World.ownsRow_lit w #[] 0 (Nat.le_refl _) (Nat.zero_le _) rfl) _ l.length (l.flatMap symL) rfl (src_reads Try.underlying24 (H.out.below (Nat.le_refl _) ((From.start w).alloc _).below) (syms_one l)) ?c1 ?c2 ?c3 ?_)
    case c1 => unfold maxLen; omega
    case c2 => omega
    case c3 => simp
    intro v' w2 hown hgr
    try rw [Nat.zero_add] at hown
    try rw [List.nil_append] at hown
    have HF := Lib.hid (((From.start w).alloc _).grown hgr (fun k hk => by simp [Value.ownBlock] at hk; omega))
    have HO := Lib.hid hown
    clear hown hgr
    go_wp2_with fail
    go_ret
    exact ⟨_, rfl, HO.out, HF.out.below⟩
set_option maxHeartbeats 1000000 in
theorem cloneBytes (w : World) (v : Value) (l : List UInt8) (h : BytesAt w v l) (hl : l.length ≤ 1073741824) :
    Calls Try.prog 133 #[v] w fun e w' => ∃ r, e = .returned r ∧ OwnB w' w.heap.size r l ∧ Below w.heap.size w w' := by
  obtain ⟨a, cap, rfl, hcap, hmax, hnone, -⟩ := h.form
  obtain ⟨i0, hi, hz0, hz1, hz2⟩ := info_parts info_u8
  have H := Lib.hid h
  clear h
  cases a with
  | none =>
    have hc0 := hnone rfl
    have hl0 : l = [] := List.eq_nil_of_length_eq_zero (by omega)
    subst hl0
    subst hc0
    clear hcap hmax hnone hl
    have eq0 := fun u : World => Lib.run_eql_slice_nil (P := Try.prog) u 22 5 none 0 0 0 0 Try.underlying22
    go_enter Try.func133, Try.ntmps133
    go_wp2_with fail
    go_ret
    exact ⟨_, rfl, World.ownsRow_nil _ _ _ _, Below.refl _ _⟩
  | some a =>
    clear hnone
    have eq0 := fun u : World => Lib.run_eql_slice_nil (P := Try.prog) u 22 5 (some a) l.length cap 0 0 Try.underlying22
    go_enter Try.func133, Try.ntmps133
    go_wp2_with (at_builtin; refine wpList_append_src rfl (.tmp 5) (.tmp 6) 22 22 rfl w.heap.size 5 i0 _ 1 1 Try.underlying22 hi hz0 hz1 hz2 rfl (by decide) _ _ _ rfl (World.ownsRow_lit w #[] 0 (Nat.le_refl _) (Nat.zero_le _) rfl) _ l.length (bvs l) rfl (src_reads Try.underlying22 (H.out.below (Nat.le_refl _) ((From.start w).alloc _).below) (bvs_one l)) ?c1 ?c2 ?c3 ?_)
    case c1 => unfold maxLen; omega
    case c2 => omega
    case c3 => simp
    intro v' w2 hown hgr
    try rw [Nat.zero_add] at hown
    try rw [List.nil_append] at hown
    have HF := Lib.hid (((From.start w).alloc _).grown hgr (fun k hk => by simp [Value.ownBlock] at hk; omega))
    have HO := Lib.hid hown
    clear hown hgr
    go_wp2_with fail
    go_ret
    exact ⟨_, rfl, HO.out, HF.out.below⟩
theorem fix_one (l : List FixD) : ∀ u ∈ fixCells l, u.oneCell' = true := by
  rw [fixCells_flat]
  intro u hu
  obtain ⟨s, -, h⟩ := List.mem_flatMap.1 hu
  simp only [List.mem_cons, List.not_mem_nil, or_false] at h
  rcases h with rfl | rfl | rfl | rfl <;> rfl
set_option maxHeartbeats 1000000 in
theorem cloneFix (w : World) (v : Value) (l : List FixD) (h : FixAt w v l) (hl : l.length ≤ 1073741824) :
    Calls Try.prog 134 #[v] w fun e w' => ∃ r, e = .returned r ∧ OwnF w' w.heap.size r l ∧ Below w.heap.size w w' := by
  obtain ⟨a, cap, rfl, hcap, hmax, hnone, -⟩ := h.form
  obtain ⟨i0, hi, hz0, hz1, hz2⟩ := info_parts info_fix
  have H := Lib.hid h
  clear h
  cases a with
  | none =>
    have hc0 := hnone rfl
    have hl0 : l = [] := List.eq_nil_of_length_eq_zero (by omega)
    subst hl0
    subst hc0
    clear hcap hmax hnone hl
    have eq0 := fun u : World => Lib.run_eql_slice_nil (P := Try.prog) u 67 80 none 0 0 0 0 Try.underlying67
    go_enter Try.func134, Try.ntmps134
    go_wp2_with fail
    go_ret
    exact ⟨_, rfl, World.ownsRow_nil _ _ _ _, Below.refl _ _⟩
  | some a =>
    clear hnone
    have eq0 := fun u : World => Lib.run_eql_slice_nil (P := Try.prog) u 67 80 (some a) l.length cap 0 0 Try.underlying67
    go_enter Try.func134, Try.ntmps134
    go_wp2_with (at_builtin; refine wpList_append_src rfl (.tmp 5) (.tmp 6) 67 67 rfl w.heap.size 80 i0 _ 4 32 Try.underlying67 hi hz0 hz1 hz2 rfl (by decide) _ _ _ rfl (World.ownsRow_lit w #[] 0 (Nat.le_refl _) (Nat.zero_le _) rfl) _ l.length (fixCells l) rfl (src_reads Try.underlying67 (H.out.below (Nat.le_refl _) ((From.start w).alloc _).below) (fix_one l)) ?c1 ?c2 ?c3 ?_)
    case c1 => unfold maxLen; omega
    case c2 => omega
    case c3 => simp
    intro v' w2 hown hgr
    try rw [Nat.zero_add] at hown
    try rw [List.nil_append] at hown
    have HF := Lib.hid (((From.start w).alloc _).grown hgr (fun k hk => by simp [Value.ownBlock] at hk; omega))
    have HO := Lib.hid hown
    clear hown hgr
    go_wp2_with fail
    go_ret
    exact ⟨_, rfl, HO.out, HF.out.below⟩
end Go.Proofs.Ythccjimckjecjaa
