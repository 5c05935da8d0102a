/- Aligned numbers are multiples: the aligned number is not less than the number, and by less than the multiple greater. No condition. -/
import Derived.Test.YtiilfpdjajacmaaFacts
import Derived.Test.YtiilfpdjajacmaaDrawK
import Derived.Test.YtiilfpdjajacmaaPlainA
import Derived.Test.YtiilfpdjajacmaaDrawA
namespace Go.Proofs.Ytiilfpdjajacmaa
open Go.ChangeShapes Go.WideShapes Go.ChangeAt Go.RowKit Go.Joins
set_option linter.unusedSimpArgs false
set_option linter.unusedVariables false
set_option maxRecDepth 100000
set_option maxHeartbeats 1000000 in
theorem walk_FnAlignUp (w : World) (v : Value) (l : List UInt8) (h : BytesAt w v l) :
    Calls Try.prog 11 #[v] w fun e w' => e = .returned (.bool true) ∧ Below w.heap.size w w' := by
  obtain ⟨a, cap, hv, hcap, hmax, hnone, hcell⟩ := h.form
  clear hnone hcell
  by_cases hl : (l.length : Int) ≤ 1048576
  · have H := Lib.hid h
    clear h
    subst hv
    unfold maxLen at hmax
    go_enter Try.func11, Try.ntmps11
    go_wp2_with fail
    refine (drawAlignUp_any _ _ l H.out).mono ?_
    rintro e w1 ⟨_, rfl, ⟨n, to, rfl, b1, b2, b3, b4⟩, hF⟩
    have HF := Lib.hid hF
    clear hF
    obtain ⟨X, hX⟩ : ∃ X, alignUp n to = X := ⟨_, rfl⟩
    have HX := Lib.hid hX
    clear hX
    go_wp2_with fail
    refine (alignUp_any n to w1).mono ?_
    rw [HX.out]
    rintro e w2 ⟨rfl, rfl⟩
    go_wp2_with fail
    refine (sAlignUp_any n to w1).mono ?_
    rw [HX.out]
    rintro e w2 ⟨rfl, rfl⟩
    by_cases hz : 0 ≤ X
    · obtain ⟨a1, a2, a3, a4, a5, a6⟩ := alignUp_law n to (by rw [HX.out]; exact hz)
      rw [HX.out] at a2 a3 a4
      have ha := (alignB_iff _).1 a1
      have e1 : (X % to == 0) = true := by rw [beq_iff_eq]; exact a4
      have e2 : (to == 0) = false := by rw [beq_eq_false_iff_ne]; omega
      have t1 : 1 ≤ to := by omega
      clear a1 a4 ha
      go_wp2_with fail
      go_ret
      exact ⟨rfl, HF.out.below⟩
    · have hm : X = -1 := by rw [← HX.out]; exact alignUp_neg n to (by rw [HX.out]; exact hz)
      subst hm
      go_wp2_with (first | (go_at_call 33; (with_reducible refine (alive_any _).mono ?_); rintro e w' ⟨rfl, rfl⟩))
      go_ret
      exact ⟨rfl, HF.out.below⟩
  · subst hv
    have hl' : (1048576 : Int) < (l.length : Int) := by omega
    clear hl h
    unfold maxLen at hmax
    go_enter Try.func11, Try.ntmps11
    go_wp2_with fail
    go_ret
    exact ⟨rfl, Below.refl _ _⟩
set_option maxRecDepth 100000 in
theorem lifted_FnAlignUp (os : Os) (started : os.Started) (H : Type) (enc : TypeId × Value → H) :
    ReturnsInHanded {} Try.checked os 11 .any (Rows.fnAlignUpSpec.pre6 enc Try.prog Try.f11 Rows.fnAlignUpRow.domain false) (Rows.fnAlignUpSpec.post enc Try.prog Try.f11 false true false false) := by
  refine returnsInHanded_of_change (C := Try.checked) own_knob started (by kernel_rfl) Try.func11
    (ChangeSpec.witness6 (enc := enc) (C := Try.checked) false ⟨#[], #[.slice none 0 0], []⟩ 8 (by kernel_rfl) (by kernel_rfl) (by kernel_rfl) (by kernel_rfl)) ?_
  intro W base args ds gs before hval0 hW hcnd _
  have hval : ∀ (j : Nat) t v, Try.f11.params[j]? = some t → args[j]? = some v → Value.okWide Try.prog W .any base t v := hval0
  have hW' := hW
  obtain ⟨p, q, hA0, hV, rfl, hfz, hnd⟩ := hW
  have hA : DataW.TrodAll enc Try.prog W 0 (fun _ => true) true Try.f11.params.toList args.toList ds p := hA0
  rw [Try.params11] at hA hval
  obtain ⟨v0, vs0, d0, ds0, p0, q0, hargs, rfl, rfl, h0, r0⟩ := trodAll_cons hA
  obtain ⟨rfl, rfl, rfl⟩ := trodAll_nil r0
  obtain rfl : args = #[v0] := by cases args; simp_all
  obtain ⟨rfl, rfl⟩ := trodVars_none hV
  clear hA0 hval0
  have k0 := h0
  have t0 : ∀ x ∈ p0, x.block < W.heap.size := fun x hx => by simpa using hW'.lt x (by simp [hx])
  obtain ⟨l0, o0⟩ := open_bytesAt (hval 0 34 v0 rfl rfl) h0
  refine (walk_FnAlignUp W v0 l0 o0).mono fun e W' ⟨he, hg⟩ => ?_
  subst he
  exact ⟨_, rfl, _, _, _, _, _, _, hW', (trodAll_cons_mk (shut_bool Try.underlying4 _) trodAll_mk0), (trodAll_cons_mk (Below.trod laid_out (by kernel_rfl) (of_decide_eq_true (by kernel_rfl)) k0 hg t0) trodAll_mk0), rfl, hg.frame _, fun h => by cases h⟩

theorem facts_FnAlignUp : joinedFacts Try.prog 11 Try.f11 Rows.fnAlignUpSpec Rows.fnAlignUpRow = true := by
  unfold joinedFacts
  simp only [Bool.and_eq_true]
  repeat' apply And.intro
  all_goals first
    | with_reducible exact laid_out
    | with_reducible exact may_enter
    | (with_reducible rw [lifts_final]; as_aux_lemma => kernel_rfl)
    | (with_reducible rw [make_cut]; as_aux_lemma => kernel_rfl)
    | as_aux_lemma => kernel_rfl
theorem inst_FnAlignUp : Try.f11.isInstance Try.prog Rows.fnAlignUpRow.origin Rows.fnAlignUpRow.targs := of_decide_eq_true (by kernel_rfl)
theorem wrap_FnAlignUp : Try.f11.isWrapper Try.prog Rows.fnAlignUpRow.wrapper Rows.fnAlignUpRow.mainSum := by
  unfold Func.isWrapper
  first | (rw [if_pos (by decide +kernel)]; kernel_rfl) | (rw [if_neg (by decide +kernel)]; exact ⟨rfl, rfl⟩)
theorem named_FnAlignUp : Try.prog.funcNamed Rows.fnAlignUpRow.func = some 11 := by kernel_rfl
theorem over_FnAlignUp : Rows.fnAlignUpRow.holds Try.pinned (OpenSpec.ofChange Rows.fnAlignUpSpec) :=
  OpenClaim.holds_of_wide 11 Try.f11 rfl rfl rfl rfl rfl rfl rfl ⟨rfl, rfl, rfl, rfl, rfl⟩ rfl rfl rfl rfl rfl named_FnAlignUp Try.func11 facts_FnAlignUp inst_FnAlignUp wrap_FnAlignUp
    (fun os started H enc _ => lifted_FnAlignUp os started H enc)

/-- The statement. -/
theorem holds_FnAlignUp : Rows.FnAlignUpSaid :=
  over_FnAlignUp
#print axioms holds_FnAlignUp
end Go.Proofs.Ytiilfpdjajacmaa
