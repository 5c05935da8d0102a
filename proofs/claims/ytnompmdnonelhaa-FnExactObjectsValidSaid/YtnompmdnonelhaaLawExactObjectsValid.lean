/- The program's ObjectsValid returns what the reference's returns, for all arguments. No condition. -/
import Derived.Test.YtnompmdnonelhaaFacts
import Derived.Test.YtnompmdnonelhaaObjsX
namespace Go.Proofs.Ytnompmdnonelhaa
open Go.ChangeShapes Go.WideShapes Go.ChangeAt Go.RowKit Go.Joins
set_option linter.unusedSimpArgs false
set_option linter.unusedVariables false
set_option maxRecDepth 100000
theorem objsLen_wf {l : List ObjD} (h : ∀ o ∈ l, objWf o) : ObjsLen l := fun o ho => ⟨fun s hs => ((h o ho).1 s hs).1, fun s hs => ((h o ho).2 s hs).1⟩
set_option maxHeartbeats 1000000 in
theorem walk_FnExactObjectsValid (w : World) (v : Value) (l : List ObjD) (oo : ObjsAt w v l ∧ ∀ o ∈ l, objWf o) :
    Calls Try.prog 12 #[v] w fun e w' => e = .returned (.bool true) ∧ Below w.heap.size w w' := by
  obtain ⟨h1, hw⟩ := oo
  have HN := Lib.hid (objsLen_wf hw)
  have H1 := Lib.hid h1
  obtain ⟨a, cap, rfl, hcap, hmax, -⟩ := h1.each
  unfold maxLen at hmax
  clear hw h1
  have n0 := objsCost_nonneg l
  by_cases hc : (l.length : Int) + objsCost l ≤ 1048576
  case neg =>
    have E : szV 1048576 ((l.length : Int) + objsCost l) = -1 := by unfold szV; rw [if_neg hc]
    clear hc n0
    go_enter Try.func12, Try.ntmps12
    go_wp2_with fail
    refine (szObjectS_any _ _ l H1.out HN.out 1048576 (by omega) (by omega)).mono ?_
    rw [E]
    rintro e w1 ⟨rfl, g1⟩
    go_wp2_with fail
    go_ret
    exact ⟨rfl, g1⟩
  have HW := Lib.hid (few_objs (show objsCost l ≤ 1048576 by omega))
  have HLl : Hid (l.length ≤ 1048576) := by show _ ≤ _; omega
  have E : szV 1048576 ((l.length : Int) + objsCost l) = 1048576 - ((l.length : Int) + objsCost l) := by unfold szV; rw [if_pos hc]
  obtain ⟨L, hL⟩ : ∃ L, 1048576 - ((l.length : Int) + objsCost l) = L := ⟨_, rfl⟩
  have z0 : 0 ≤ L := by omega
  rw [hL] at E
  clear hL hc n0
  go_enter Try.func12, Try.ntmps12
  go_wp2_with fail
  refine (szObjectS_any _ _ l H1.out HN.out 1048576 (by omega) (by omega)).mono ?_
  rw [E]
  rintro e w1 ⟨rfl, g1⟩
  have F1 := Lib.hid ((From.start w).call g1)
  clear g1 E
  go_wp2_with fail
  refine (toObjectS_any _ _ l (H1.out.below (Nat.le_refl _) F1.out.below) HLl.out HW.out).mono ?_
  rintro e w2 ⟨r2, rfl, o2, g2⟩
  have F2 := Lib.hid (F1.out.call g2)
  clear g2 F1
  go_wp2_with fail
  refine (s_ObjectsValid _ _ l o2 HN.out).mono ?_
  rintro e w3 ⟨rfl, g3⟩
  have F3 := Lib.hid (F2.out.call g3)
  clear g3 F2 o2
  go_wp2_with fail
  refine (toObjectS_any _ _ l (H1.out.below (Nat.le_refl _) F3.out.below) HLl.out HW.out).mono ?_
  rintro e w4 ⟨r4, rfl, o4, g4⟩
  have F4 := Lib.hid (F3.out.call g4)
  have R4 := Lib.hid o4
  obtain ⟨ra, rc, rfl, -⟩ := o4.each
  clear g4 F3 o4
  go_wp2_with fail
  refine (i_ObjectsValid _ _ l R4.out HN.out).mono ?_
  rintro e w5 ⟨rfl, g5⟩
  have F5 := Lib.hid (F4.out.call g5)
  have R5 := Lib.hid (R4.out.below (Nat.le_refl _) g5)
  clear g5 F4 R4
  generalize objsB l = q
  go_wp2_with fail
  refine (toObjectS_any _ _ l (H1.out.below (Nat.le_refl _) F5.out.below) HLl.out HW.out).mono ?_
  rintro e w6 ⟨r6, rfl, o6, g6⟩
  have F6 := Lib.hid (F5.out.call g6)
  have R6 := Lib.hid (R5.out.below (Nat.le_refl _) g6)
  clear g6 F5 R5
  go_wp2_with fail
  refine (eqObjectS_same _ _ _ l R6.out o6).mono ?_
  rintro e w7 ⟨rfl, g7⟩
  have F7 := Lib.hid (F6.out.call g7)
  clear g7 F6 R6 o6
  go_wp2_with fail
  go_ret
  exact ⟨rfl, F7.out.below⟩
set_option maxRecDepth 100000 in
theorem lifted_FnExactObjectsValid (os : Os) (started : os.Started) (H : Type) (enc : TypeId × Value → H) :
    ReturnsInHanded {} Try.checked os 12 .any (Rows.fnExactObjectsValidSpec.pre6 enc Try.prog Try.f12 Rows.fnExactObjectsValidRow.domain false) (Rows.fnExactObjectsValidSpec.post enc Try.prog Try.f12 false true false false) := by
  refine returnsInHanded_of_change (C := Try.checked) own_knob started (by kernel_rfl) Try.func12
    (ChangeSpec.witness6 (enc := enc) (C := Try.checked) false ⟨#[], #[.slice none 0 0], []⟩ 8 (by kernel_rfl) (by kernel_rfl) (by kernel_rfl) (by kernel_rfl)) ?_
  intro W base args ds gs before hval0 hW hcnd _
  have hval : ∀ (j : Nat) t v, Try.f12.params[j]? = some t → args[j]? = some v → Value.okWide Try.prog W .any base t v := hval0
  have hW' := hW
  obtain ⟨p, q, hA0, hV, rfl, hfz, hnd⟩ := hW
  have hA : DataW.TrodAll enc Try.prog W 0 (fun _ => true) true Try.f12.params.toList args.toList ds p := hA0
  rw [Try.params12] at hA hval
  obtain ⟨v0, vs0, d0, ds0, p0, q0, hargs, rfl, rfl, h0, r0⟩ := trodAll_cons hA
  obtain ⟨rfl, rfl, rfl⟩ := trodAll_nil r0
  obtain rfl : args = #[v0] := by cases args; simp_all
  obtain ⟨rfl, rfl⟩ := trodVars_none hV
  clear hA0 hval0
  have k0 := h0
  have t0 : ∀ x ∈ p0, x.block < W.heap.size := fun x hx => by simpa using hW'.lt x (by simp [hx])
  obtain ⟨x0, o0⟩ := open_objectsAt (hval 0 66 v0 rfl rfl) h0
  refine (walk_FnExactObjectsValid W v0 x0 o0).mono fun e W' ⟨he, hg⟩ => ?_
  subst he
  exact ⟨_, rfl, _, _, _, _, _, _, hW', (trodAll_cons_mk (shut_bool Try.underlying4 _) trodAll_mk0), (trodAll_cons_mk (Below.trod laid_out (by kernel_rfl) (of_decide_eq_true (by kernel_rfl)) k0 hg t0) trodAll_mk0), rfl, hg.frame _, fun h => by cases h⟩

theorem facts_FnExactObjectsValid : joinedFacts Try.prog 12 Try.f12 Rows.fnExactObjectsValidSpec Rows.fnExactObjectsValidRow = true := by
  unfold joinedFacts
  simp only [Bool.and_eq_true]
  repeat' apply And.intro
  all_goals first
    | with_reducible exact laid_out
    | with_reducible exact may_enter
    | (with_reducible rw [lifts_final]; as_aux_lemma => kernel_rfl)
    | (with_reducible rw [make_cut]; as_aux_lemma => kernel_rfl)
    | as_aux_lemma => kernel_rfl
theorem inst_FnExactObjectsValid : Try.f12.isInstance Try.prog Rows.fnExactObjectsValidRow.origin Rows.fnExactObjectsValidRow.targs := of_decide_eq_true (by kernel_rfl)
theorem wrap_FnExactObjectsValid : Try.f12.isWrapper Try.prog Rows.fnExactObjectsValidRow.wrapper Rows.fnExactObjectsValidRow.mainSum := by
  unfold Func.isWrapper
  first | (rw [if_pos (by decide +kernel)]; kernel_rfl) | (rw [if_neg (by decide +kernel)]; exact ⟨rfl, rfl⟩)
theorem named_FnExactObjectsValid : Try.prog.funcNamed Rows.fnExactObjectsValidRow.func = some 12 := by kernel_rfl
theorem over_FnExactObjectsValid : Rows.fnExactObjectsValidRow.holds Try.pinned (OpenSpec.ofChange Rows.fnExactObjectsValidSpec) :=
  OpenClaim.holds_of_wide 12 Try.f12 rfl rfl rfl rfl rfl rfl rfl ⟨rfl, rfl, rfl, rfl, rfl⟩ rfl rfl rfl rfl rfl named_FnExactObjectsValid Try.func12 facts_FnExactObjectsValid inst_FnExactObjectsValid wrap_FnExactObjectsValid
    (fun os started H enc _ => lifted_FnExactObjectsValid os started H enc)

/-- The statement. -/
theorem holds_FnExactObjectsValid : Rows.FnExactObjectsValidSaid :=
  over_FnExactObjectsValid
#print axioms holds_FnExactObjectsValid
end Go.Proofs.Ytnompmdnonelhaa
