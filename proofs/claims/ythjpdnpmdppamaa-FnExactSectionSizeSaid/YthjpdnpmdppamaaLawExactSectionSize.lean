/- The program's SectionSize returns what the reference's returns, for all arguments. No condition. -/
import Derived.Test.YthjpdnpmdppamaaFacts
import Derived.Test.YthjpdnpmdppamaaBase
import Derived.Test.YthjpdnpmdppamaaNum
import Derived.Test.YthjpdnpmdppamaaBytes
import Derived.Test.YthjpdnpmdppamaaFix
import Derived.Test.YthjpdnpmdppamaaSec
namespace Go.Proofs.Ythjpdnpmdppamaa
open Go.ChangeShapes Go.WideShapes Go.ChangeAt Go.RowKit Go.Joins
set_option linter.unusedSimpArgs false
set_option linter.unusedVariables false
set_option maxRecDepth 100000
set_option maxHeartbeats 1000000 in
theorem walk_FnExactSectionSize (w : World) (v : Value) (s : SecD) (o : SecAt w v s ∧ secWf s) :
    Calls Try.prog 16 #[v] w fun e w' => e = .returned (.bool true) ∧ Below w.heap.size w w' := by
  obtain ⟨h, hs, hw⟩ := o
  clear hw
  have H0 := Lib.hid h
  by_cases hc : secCost s ≤ 1048576
  · have E : szV 1048576 (secCost s) = 1048576 - secCost s := by unfold szV; rw [if_pos hc]
    have q0 : 0 ≤ 1048576 - secCost s := by omega
    have q1 : s.bytes.length ≤ 1073741824 := by unfold secCost at hc; omega
    have q2 : s.fix.length ≤ 1073741824 := by unfold secCost at hc; omega
    obtain ⟨left, hleft⟩ : ∃ left, 1048576 - secCost s = left := ⟨_, rfl⟩
    rw [hleft] at E q0
    clear hleft hc
    clear h
    go_enter Try.func16, Try.ntmps16
    go_wp2_with fail
    refine (szSection_any w v s H0.out hs _ (by omega) (by omega)).mono ?_
    rw [E]
    rintro e w1 ⟨rfl, g1⟩
    have F1 := (From.start w).call g1
    have H1 := Lib.hid (H0.out.below (Nat.le_refl _) g1)
    clear g1 H0
    go_wp2_with fail
    refine (toSection_any w1 v s H1.out q1 q2).mono ?_
    rintro e w2 ⟨r2, rfl, o2, g2⟩
    have F2 := F1.call g2
    have H2 := Lib.hid (H1.out.below (Nat.le_refl _) g2)
    have R2 := o2.reads
    clear g2 H1 o2 F1
    go_wp2_with fail
    refine (s_SectionSize w2 r2 s R2).mono ?_
    rintro e w3 ⟨rfl, g3⟩
    have F3 := F2.call g3
    have H3 := Lib.hid (H2.out.below (Nat.le_refl _) g3)
    clear g3 H2 R2 F2
    go_wp2_with fail
    refine (toSection_any w3 v s H3.out q1 q2).mono ?_
    rintro e w4 ⟨r4, rfl, o4, g4⟩
    have F4 := F3.call g4
    have H4 := Lib.hid (H3.out.below (Nat.le_refl _) g4)
    have R4 := o4.reads
    clear g4 H3 o4 F3
    go_wp2_with fail
    refine (i_SectionSize w4 r4 s R4).mono ?_
    rintro e w5 ⟨rfl, g5⟩
    have F5 := F4.call g5
    have H5 := Lib.hid (H4.out.below (Nat.le_refl _) g5)
    have R5 := R4.below (Nat.le_refl _) g5
    clear g5 H4 R4 F4
    go_wp2_with fail
    refine (toSection_any w5 v s H5.out q1 q2).mono ?_
    rintro e w6 ⟨r6, rfl, o6, g6⟩
    have F6 := F5.call g6
    have R6 := R5.below (Nat.le_refl _) g6
    have Q6 := o6.reads
    clear g6 H5 R5 F5 o6
    go_wp2_with fail
    refine (eqSection_same w6 r4 r6 s R6 Q6).mono ?_
    rintro e w7 ⟨rfl, g7⟩
    have F7 := F6.call g7
    clear g7 R6 Q6 F6
    go_wp2_with fail
    go_ret
    exact ⟨rfl, F7.below⟩
  · have E : szV 1048576 (secCost s) = -1 := by unfold szV; rw [if_neg hc]
    clear hc h
    go_enter Try.func16, Try.ntmps16
    go_wp2_with fail
    refine (szSection_any w v s H0.out hs _ (by omega) (by omega)).mono ?_
    rw [E]
    rintro e w1 ⟨rfl, g1⟩
    have F1 := (From.start w).call g1
    clear g1
    go_wp2_with fail
    go_ret
    exact ⟨rfl, F1.below⟩
set_option maxRecDepth 100000 in
theorem lifted_FnExactSectionSize (os : Os) (started : os.Started) (H : Type) (enc : TypeId × Value → H) :
    ReturnsInHanded {} Try.checked os 16 .any (Rows.fnExactSectionSizeSpec.pre6 enc Try.prog Try.f16 Rows.fnExactSectionSizeRow.domain false) (Rows.fnExactSectionSizeSpec.post enc Try.prog Try.f16 false true false false) := by
  refine returnsInHanded_of_change (C := Try.checked) own_knob started (by kernel_rfl) Try.func16
    (ChangeSpec.witness6 (enc := enc) (C := Try.checked) false ⟨#[], #[.agg #[.string ⟨#[]⟩, .int .i64 0, .int .i64 0, .slice none 0 0, .int .i64 0, .slice none 0 0]], []⟩ 8 (by kernel_rfl) (by kernel_rfl) (by kernel_rfl) (by kernel_rfl)) ?_
  intro W base args ds gs before hval0 hW hcnd _
  have hval : ∀ (j : Nat) t v, Try.f16.params[j]? = some t → args[j]? = some v → Value.okWide Try.prog W .any base t v := hval0
  have hW' := hW
  obtain ⟨p, q, hA0, hV, rfl, hfz, hnd⟩ := hW
  have hA : DataW.TrodAll enc Try.prog W 0 (fun _ => true) true Try.f16.params.toList args.toList ds p := hA0
  rw [Try.params16] at hA hval
  obtain ⟨v0, vs0, d0, ds0, p0, q0, hargs, rfl, rfl, h0, r0⟩ := trodAll_cons hA
  obtain ⟨rfl, rfl, rfl⟩ := trodAll_nil r0
  obtain rfl : args = #[v0] := by cases args; simp_all
  obtain ⟨rfl, rfl⟩ := trodVars_none hV
  clear hA0 hval0
  have k0 := h0
  have t0 : ∀ x ∈ p0, x.block < W.heap.size := fun x hx => by simpa using hW'.lt x (by simp [hx])
  obtain ⟨x0, o0⟩ := open_sectionAt (hval 0 60 v0 rfl rfl) h0
  refine (walk_FnExactSectionSize W v0 x0 o0).mono fun e W' ⟨he, hg⟩ => ?_
  subst he
  exact ⟨_, rfl, _, _, _, _, _, _, hW', (trodAll_cons_mk (shut_bool Try.underlying4 _) trodAll_mk0), (trodAll_cons_mk (Below.trod laid_out (by kernel_rfl) (of_decide_eq_true (by kernel_rfl)) k0 hg t0) trodAll_mk0), rfl, hg.frame _, fun h => by cases h⟩

theorem facts_FnExactSectionSize : joinedFacts Try.prog 16 Try.f16 Rows.fnExactSectionSizeSpec Rows.fnExactSectionSizeRow = true := by
  unfold joinedFacts
  simp only [Bool.and_eq_true]
  repeat' apply And.intro
  all_goals first
    | with_reducible exact laid_out
    | with_reducible exact may_enter
    | (with_reducible rw [lifts_final]; as_aux_lemma => kernel_rfl)
    | (with_reducible rw [make_cut]; as_aux_lemma => kernel_rfl)
    | as_aux_lemma => kernel_rfl
theorem inst_FnExactSectionSize : Try.f16.isInstance Try.prog Rows.fnExactSectionSizeRow.origin Rows.fnExactSectionSizeRow.targs := of_decide_eq_true (by kernel_rfl)
theorem wrap_FnExactSectionSize : Try.f16.isWrapper Try.prog Rows.fnExactSectionSizeRow.wrapper Rows.fnExactSectionSizeRow.mainSum := by
  unfold Func.isWrapper
  first | (rw [if_pos (by decide +kernel)]; kernel_rfl) | (rw [if_neg (by decide +kernel)]; exact ⟨rfl, rfl⟩)
theorem named_FnExactSectionSize : Try.prog.funcNamed Rows.fnExactSectionSizeRow.func = some 16 := by kernel_rfl
theorem over_FnExactSectionSize : Rows.fnExactSectionSizeRow.holds Try.pinned (OpenSpec.ofChange Rows.fnExactSectionSizeSpec) :=
  OpenClaim.holds_of_wide 16 Try.f16 rfl rfl rfl rfl rfl rfl rfl ⟨rfl, rfl, rfl, rfl, rfl⟩ rfl rfl rfl rfl rfl named_FnExactSectionSize Try.func16 facts_FnExactSectionSize inst_FnExactSectionSize wrap_FnExactSectionSize
    (fun os started H enc _ => lifted_FnExactSectionSize os started H enc)

/-- The statement. -/
theorem holds_FnExactSectionSize : Rows.FnExactSectionSizeSaid :=
  over_FnExactSectionSize
#print axioms holds_FnExactSectionSize
end Go.Proofs.Ythjpdnpmdppamaa
