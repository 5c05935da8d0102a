/- Sizes are bytes: without SectionBlank it is the number of bytes. No condition. -/
import Derived.Test.YtnompmdnonelhaaFacts
import Derived.Test.YtnompmdnonelhaaDrawK
import Derived.Test.YtnompmdnonelhaaDrawU
namespace Go.Proofs.Ytnompmdnonelhaa
open Go.ChangeShapes Go.WideShapes Go.ChangeAt Go.RowKit Go.Joins
set_option linter.unusedSimpArgs false
set_option linter.unusedVariables false
set_option maxRecDepth 100000
set_option maxHeartbeats 1000000 in
theorem walk_FnSectionSize (w : World) (v : Value) (l : List UInt8) (h : BytesAt w v l) :
    Calls Try.prog 3 #[v] w fun e w' => e = .returned (.bool true) ∧ Below w.heap.size w w' := by
  obtain ⟨a, cap, hv, hcap, hmax, hnone, hcell⟩ := h.form
  clear hnone hcell
  by_cases hl : (l.length : Int) ≤ 1048576
  · have H := Lib.hid h
    clear h
    subst hv
    unfold maxLen at hmax
    go_enter Try.func3, Try.ntmps3
    go_wp2_with fail
    refine (drawSectionSize_any _ _ l H.out).mono ?_
    rintro e w1 ⟨_, rfl, ⟨s, vb, vf, rfl, hb, hf, -⟩, hF⟩
    obtain ⟨ba, bc, rfl, -⟩ := hb.form
    obtain ⟨fa, fc, rfl, -⟩ := hf.form
    have HF := Lib.hid hF
    have HX : Hid (SecAt w1 (secV s (.slice ba s.bytes.length bc) (.slice fa s.fix.length fc)) s) := ⟨_, _, rfl, hb, hf⟩
    clear hF hb hf
    go_wp2_with fail
    refine (i_SectionSize _ (secV s (.slice ba s.bytes.length bc) (.slice fa s.fix.length fc)) s (HX.out.below (Nat.le_refl _) ((From.start w1).alloc _).below)).mono ?_
    rintro e w2 ⟨rfl, h2⟩
    have HF2 := Lib.hid ((HF.out.alloc _).call h2)
    have HX2 := Lib.hid (HX.out.below (Nat.le_refl _) (((From.start w1).alloc _).call h2).below)
    have B2 := (Blk.new w1 (secCells s (.slice ba s.bytes.length bc) (.slice fa s.fix.length fc)) 25).call h2
    have HB2 := Lib.hid B2
    have c2 := B2.cell
    have z2 := B2.lt
    clear h2 HF HX B2
    go_wp2_with fail
    refine (s_SectionSize _ (secV s (.slice ba s.bytes.length bc) (.slice fa s.fix.length fc)) s (HX2.out.below (Nat.le_refl _) (Below.refl _ _))).mono ?_
    rintro e w3 ⟨rfl, h3⟩
    have HF3 := Lib.hid (HF2.out.call h3)
    have B3 := HB2.out.call h3
    have c3 := B3.cell
    have z3 := B3.lt
    have e3 : (sectionSize s != sectionSize s) = false := by simp
    clear h3 HF2 B3 c2 z2 HB2
    by_cases hk : s.kind = 3
    · have ek : (s.kind == 3) = true := by simpa using hk
      have es : (sectionSize s == s.size) = true := by simp [sectionSize, hk]
      clear hk
      generalize sectionSize s = sz at *
      go_wp2_with (first | (go_at_call 20; (with_reducible refine (alive_any _).mono ?_); rintro e w' ⟨rfl, rfl⟩))
      go_ret
      exact ⟨rfl, HF3.out.below⟩
    · have ek : (s.kind == 3) = false := by simpa using hk
      have es : (sectionSize s == (s.bytes.length : Int)) = true := by simp [sectionSize, hk]
      clear hk
      generalize sectionSize s = sz at *
      go_wp2_with (first | (go_at_call 20; (with_reducible refine (alive_any _).mono ?_); rintro e w' ⟨rfl, rfl⟩))
      go_ret
      exact ⟨rfl, HF3.out.below⟩
  · subst hv
    have hl' : (1048576 : Int) < (l.length : Int) := by omega
    clear hl h
    unfold maxLen at hmax
    go_enter Try.func3, Try.ntmps3
    go_wp2_with fail
    go_ret
    exact ⟨rfl, Below.refl _ _⟩
set_option maxRecDepth 100000 in
theorem lifted_FnSectionSize (os : Os) (started : os.Started) (H : Type) (enc : TypeId × Value → H) :
    ReturnsInHanded {} Try.checked os 3 .any (Rows.fnSectionSizeSpec.pre6 enc Try.prog Try.f3 Rows.fnSectionSizeRow.domain false) (Rows.fnSectionSizeSpec.post enc Try.prog Try.f3 false true false false) := by
  refine returnsInHanded_of_change (C := Try.checked) own_knob started (by kernel_rfl) Try.func3
    (ChangeSpec.witness6 (enc := enc) (C := Try.checked) false ⟨#[], #[.slice none 0 0], []⟩ 8 (by kernel_rfl) (by kernel_rfl) (by kernel_rfl) (by kernel_rfl)) ?_
  intro W base args ds gs before hval0 hW hcnd _
  have hval : ∀ (j : Nat) t v, Try.f3.params[j]? = some t → args[j]? = some v → Value.okWide Try.prog W .any base t v := hval0
  have hW' := hW
  obtain ⟨p, q, hA0, hV, rfl, hfz, hnd⟩ := hW
  have hA : DataW.TrodAll enc Try.prog W 0 (fun _ => true) true Try.f3.params.toList args.toList ds p := hA0
  rw [Try.params3] at hA hval
  obtain ⟨v0, vs0, d0, ds0, p0, q0, hargs, rfl, rfl, h0, r0⟩ := trodAll_cons hA
  obtain ⟨rfl, rfl, rfl⟩ := trodAll_nil r0
  obtain rfl : args = #[v0] := by cases args; simp_all
  obtain ⟨rfl, rfl⟩ := trodVars_none hV
  clear hA0 hval0
  have k0 := h0
  have t0 : ∀ x ∈ p0, x.block < W.heap.size := fun x hx => by simpa using hW'.lt x (by simp [hx])
  obtain ⟨l0, o0⟩ := open_bytesAt (hval 0 22 v0 rfl rfl) h0
  refine (walk_FnSectionSize W v0 l0 o0).mono fun e W' ⟨he, hg⟩ => ?_
  subst he
  exact ⟨_, rfl, _, _, _, _, _, _, hW', (trodAll_cons_mk (shut_bool Try.underlying4 _) trodAll_mk0), (trodAll_cons_mk (Below.trod laid_out (by kernel_rfl) (of_decide_eq_true (by kernel_rfl)) k0 hg t0) trodAll_mk0), rfl, hg.frame _, fun h => by cases h⟩

theorem facts_FnSectionSize : joinedFacts Try.prog 3 Try.f3 Rows.fnSectionSizeSpec Rows.fnSectionSizeRow = true := by
  unfold joinedFacts
  simp only [Bool.and_eq_true]
  repeat' apply And.intro
  all_goals first
    | with_reducible exact laid_out
    | with_reducible exact may_enter
    | (with_reducible rw [lifts_final]; as_aux_lemma => kernel_rfl)
    | (with_reducible rw [make_cut]; as_aux_lemma => kernel_rfl)
    | as_aux_lemma => kernel_rfl
theorem inst_FnSectionSize : Try.f3.isInstance Try.prog Rows.fnSectionSizeRow.origin Rows.fnSectionSizeRow.targs := of_decide_eq_true (by kernel_rfl)
theorem wrap_FnSectionSize : Try.f3.isWrapper Try.prog Rows.fnSectionSizeRow.wrapper Rows.fnSectionSizeRow.mainSum := by
  unfold Func.isWrapper
  first | (rw [if_pos (by decide +kernel)]; kernel_rfl) | (rw [if_neg (by decide +kernel)]; exact ⟨rfl, rfl⟩)
theorem named_FnSectionSize : Try.prog.funcNamed Rows.fnSectionSizeRow.func = some 3 := by kernel_rfl
theorem over_FnSectionSize : Rows.fnSectionSizeRow.holds Try.pinned (OpenSpec.ofChange Rows.fnSectionSizeSpec) :=
  OpenClaim.holds_of_wide 3 Try.f3 rfl rfl rfl rfl rfl rfl rfl ⟨rfl, rfl, rfl, rfl, rfl⟩ rfl rfl rfl rfl rfl named_FnSectionSize Try.func3 facts_FnSectionSize inst_FnSectionSize wrap_FnSectionSize
    (fun os started H enc _ => lifted_FnSectionSize os started H enc)

/-- The statement. -/
theorem holds_FnSectionSize : Rows.FnSectionSizeSaid :=
  over_FnSectionSize
#print axioms holds_FnSectionSize
end Go.Proofs.Ytnompmdnonelhaa
