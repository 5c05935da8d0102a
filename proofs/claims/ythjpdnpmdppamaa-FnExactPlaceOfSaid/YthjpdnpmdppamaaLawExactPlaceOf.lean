/- The program's PlaceOf returns what the reference's returns, for all arguments. No condition. -/
import Derived.Test.YthjpdnpmdppamaaBase
import Derived.Test.YthjpdnpmdppamaaFacts
import Derived.Test.YthjpdnpmdppamaaNum
import Derived.Test.YthjpdnpmdppamaaBytes
import Derived.Test.YthjpdnpmdppamaaNameAt
import Derived.Test.YthjpdnpmdppamaaPlace
namespace Go.Proofs.Ythjpdnpmdppamaa
open Go.ChangeShapes Go.WideShapes Go.ChangeAt Go.RowKit Go.Joins
set_option linter.unusedSimpArgs false
set_option linter.unusedVariables false
set_option maxRecDepth 100000
set_option maxHeartbeats 1000000 in
theorem walk_FnExactPlaceOf (w : World) (v : Value) (l : List UInt8) (h : BytesAt w v l) (name : ByteArray) (hs : name.size ≤ maxLen) :
    Calls Try.prog 3 #[v, .string name] w fun e w' => e = .returned (.bool true) ∧ Below w.heap.size w w' := by
  obtain ⟨a, cap, hv, hcap, hmax, hnone, hcell⟩ := h.form
  clear hnone hcell
  unfold maxLen at hmax
  by_cases hl : (l.length : Int) ≤ 1048576
  · by_cases hn : (name.size : Int) ≤ 1048576
    · have hl' : l.length ≤ 1073741824 := by omega
      have H := Lib.hid h
      clear h
      subst hv
      go_enter Try.func3, Try.ntmps3
      go_wp2_with fail
      refine (toByteS_any w _ l H.out hl').mono ?_
      rintro e w1 ⟨r1, rfl, o1, h1⟩
      have F1 := (From.start w).call h1
      have A1 := H.out.below (Nat.le_refl _) h1
      have R1 := o1.reads
      clear h1 o1
      go_wp2_with fail
      refine (s_PlaceOf w1 _ l R1 name).mono ?_
      rintro e w2 ⟨rfl, rfl⟩
      go_wp2_with fail
      refine (toByteS_any w1 _ l A1 hl').mono ?_
      rintro e w3 ⟨r3, rfl, o3, h3⟩
      have F3 := F1.call h3
      have A3 := A1.below (Nat.le_refl _) h3
      have R3 := o3.reads
      clear h3 o3 F1 R1 A1
      go_wp2_with fail
      refine (i_PlaceOf w3 _ l R3 name).mono ?_
      rintro e w4 ⟨rfl, rfl⟩
      go_wp2_with fail
      refine (toByteS_any w3 _ l A3 hl').mono ?_
      rintro e w5 ⟨r5, rfl, o5, h5⟩
      have F5 := F3.call h5
      have A5 := R3.below (Nat.le_refl _) h5
      have R5 := o5.reads
      clear h5 o5 F3 R3 A3
      go_wp2_with fail
      refine (l_eqByteS w5 _ _ l l A5 R5).mono ?_
      rintro e w6 ⟨rfl, h6⟩
      have F6 := F5.call h6
      have e6 := eqB_self l
      clear h6 F5
      go_wp2_with fail
      go_ret
      exact ⟨rfl, F6.below⟩
    · subst hv
      have hn' : (1048576 : Int) < (name.size : Int) := by omega
      clear h hn
      go_enter Try.func3, Try.ntmps3
      go_wp2_with fail
      go_ret
      exact ⟨rfl, Below.refl _ _⟩
  · subst hv
    have hl' : (1048576 : Int) < (l.length : Int) := by omega
    clear hl h
    go_enter Try.func3, Try.ntmps3
    go_wp2_with fail
    go_ret
    exact ⟨rfl, Below.refl _ _⟩
set_option maxRecDepth 100000 in
theorem lifted_FnExactPlaceOf (os : Os) (started : os.Started) (H : Type) (enc : TypeId × Value → H) :
    ReturnsInHanded {} Try.checked os 3 .any (Rows.fnExactPlaceOfSpec.pre6 enc Try.prog Try.f3 Rows.fnExactPlaceOfRow.domain false) (Rows.fnExactPlaceOfSpec.post enc Try.prog Try.f3 false true false false) := by
  refine returnsInHanded_of_change (C := Try.checked) own_knob started (by kernel_rfl) Try.func3
    (ChangeSpec.witness6 (enc := enc) (C := Try.checked) false ⟨#[], #[.slice none 0 0, .string ⟨#[]⟩], []⟩ 8 (by kernel_rfl) (by kernel_rfl) (by kernel_rfl) (by kernel_rfl)) ?_
  intro W base args ds gs before hval0 hW hcnd _
  have hval : ∀ (j : Nat) t v, Try.f3.params[j]? = some t → args[j]? = some v → Value.okWide Try.prog W .any base t v := hval0
  have hW' := hW
  obtain ⟨p, q, hA0, hV, rfl, hfz, hnd⟩ := hW
  have hA : DataW.TrodAll enc Try.prog W 0 (fun _ => true) true Try.f3.params.toList args.toList ds p := hA0
  rw [Try.params3] at hA hval
  obtain ⟨v0, vs0, d0, ds0, p0, q0, hargs, rfl, rfl, h0, r0⟩ := trodAll_cons hA
  obtain ⟨v1, vs1, d1, ds1, p1, q1, rfl, rfl, rfl, h1, r1⟩ := trodAll_cons r0
  obtain ⟨rfl, rfl, rfl⟩ := trodAll_nil r1
  obtain rfl : args = #[v0, v1] := by cases args; simp_all
  obtain ⟨rfl, rfl⟩ := trodVars_none hV
  clear hA0 hval0
  have k0 := h0
  have t0 : ∀ x ∈ p0, x.block < W.heap.size := fun x hx => by simpa using hW'.lt x (by simp [hx])
  have k1 := h1
  have t1 : ∀ x ∈ p1, x.block < W.heap.size := fun x hx => by simpa using hW'.lt x (by simp [hx])
  obtain ⟨l0, o0⟩ := open_bytesAt (hval 0 22 v0 rfl rfl) h0
  obtain ⟨s1, rfl, rfl, rfl, w1⟩ := ChangeMaps.open_string Try.underlying9 (hval 1 9 v1 rfl rfl) h1
  refine (walk_FnExactPlaceOf W v0 l0 o0 s1 w1).mono fun e W' ⟨he, hg⟩ => ?_
  subst he
  exact ⟨_, rfl, _, _, _, _, _, _, hW', (trodAll_cons_mk (shut_bool Try.underlying4 _) trodAll_mk0), (trodAll_cons_mk (Below.trod laid_out (by kernel_rfl) (of_decide_eq_true (by kernel_rfl)) k0 hg t0) (trodAll_cons_mk (Below.trod laid_out (by kernel_rfl) (of_decide_eq_true (by kernel_rfl)) k1 hg t1) trodAll_mk0)), rfl, hg.frame _, fun h => by cases h⟩

theorem facts_FnExactPlaceOf : joinedFacts Try.prog 3 Try.f3 Rows.fnExactPlaceOfSpec Rows.fnExactPlaceOfRow = true := by
  unfold joinedFacts
  simp only [Bool.and_eq_true]
  repeat' apply And.intro
  all_goals first
    | with_reducible exact laid_out
    | with_reducible exact may_enter
    | (with_reducible rw [lifts_final]; as_aux_lemma => kernel_rfl)
    | (with_reducible rw [make_cut]; as_aux_lemma => kernel_rfl)
    | as_aux_lemma => kernel_rfl
theorem inst_FnExactPlaceOf : Try.f3.isInstance Try.prog Rows.fnExactPlaceOfRow.origin Rows.fnExactPlaceOfRow.targs := of_decide_eq_true (by kernel_rfl)
theorem wrap_FnExactPlaceOf : Try.f3.isWrapper Try.prog Rows.fnExactPlaceOfRow.wrapper Rows.fnExactPlaceOfRow.mainSum := by
  unfold Func.isWrapper
  first | (rw [if_pos (by decide +kernel)]; kernel_rfl) | (rw [if_neg (by decide +kernel)]; exact ⟨rfl, rfl⟩)
theorem named_FnExactPlaceOf : Try.prog.funcNamed Rows.fnExactPlaceOfRow.func = some 3 := by kernel_rfl
theorem over_FnExactPlaceOf : Rows.fnExactPlaceOfRow.holds Try.pinned (OpenSpec.ofChange Rows.fnExactPlaceOfSpec) :=
  OpenClaim.holds_of_wide 3 Try.f3 rfl rfl rfl rfl rfl rfl rfl ⟨rfl, rfl, rfl, rfl, rfl⟩ rfl rfl rfl rfl rfl named_FnExactPlaceOf Try.func3 facts_FnExactPlaceOf inst_FnExactPlaceOf wrap_FnExactPlaceOf
    (fun os started H enc _ => lifted_FnExactPlaceOf os started H enc)

/-- The statement. -/
theorem holds_FnExactPlaceOf : Rows.FnExactPlaceOfSaid :=
  over_FnExactPlaceOf
#print axioms holds_FnExactPlaceOf
end Go.Proofs.Ythjpdnpmdppamaa
