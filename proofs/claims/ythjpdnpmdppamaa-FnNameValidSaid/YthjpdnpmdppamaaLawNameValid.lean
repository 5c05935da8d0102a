/- Names have letters: with a space behind it a text is no name; the first letter of a name is one. No condition. -/
import Derived.Test.YthjpdnpmdppamaaFacts
import Derived.Test.YthjpdnpmdppamaaDrawK
import Derived.Test.YthjpdnpmdppamaaPlainB
namespace Go.Proofs.Ythjpdnpmdppamaa
open Go.ChangeShapes Go.WideShapes Go.ChangeAt Go.RowKit Go.Joins
set_option linter.unusedSimpArgs false
set_option linter.unusedVariables false
set_option maxRecDepth 100000
set_option maxHeartbeats 2000000 in
theorem walk_FnNameValid (w : World) (v : Value) (l : List UInt8) (h : BytesAt w v l) :
    Calls Try.prog 5 #[v] w fun e w' => e = .returned (.bool true) ∧ Below w.heap.size w w' := by
  obtain ⟨a, cap, hv, hcap, hmax, hnone, hcell⟩ := h.form
  clear hnone hcell
  by_cases hl : (l.length : Int) ≤ 1048576
  · have H := Lib.hid h
    clear h
    subst hv
    unfold maxLen at hmax
    go_enter Try.func5, Try.ntmps5
    go_wp2_with fail
    refine (drawNameValid_any _ _ l H.out).mono ?_
    rintro e w1 ⟨_, rfl, ⟨s, rfl, hs⟩, hF⟩
    have HF := Lib.hid hF
    clear hF
    go_wp2_with fail
    refine (i_NameValid s (by unfold maxLen; omega) w1).mono ?_
    rintro e w2 ⟨rfl, rfl⟩
    go_wp2_with fail
    refine (s_NameValid s (by unfold maxLen; omega) w1).mono ?_
    rintro e w2 ⟨rfl, rfl⟩
    obtain ⟨s1, hs1, hr1⟩ := str_sum s ⟨#[32]⟩ (by show s.size + 1 ≤ _; omega)
    have z1 : s1.size ≤ 10 := by rw [hs1, ByteArray.size_append]; show s.size + 1 ≤ 10; omega
    have e1 : nameB s1 = false := by rw [hs1]; exact nameB_blank s
    have E1 := Lib.hid e1
    clear hs1 e1
    cases hb : nameB s
    · go_wp2_with fail
      refine (i_NameValid s1 (by unfold maxLen; omega) w1).mono ?_
      rintro e w2 ⟨rfl, rfl⟩
      rw [E1.out]
      go_wp2_with (first | (go_at_call 32; (with_reducible refine (alive_any _).mono ?_); rintro e w' ⟨rfl, rfl⟩))
      go_ret
      exact ⟨rfl, HF.out.below⟩
    · obtain ⟨q1, q2⟩ := nameB_size hb
      have q1' : (1 : Int) ≤ (s.size : Int) := by omega
      have HB := Lib.hid hb
      clear hb
      go_wp2_with fail
      refine (i_NameValid s1 (by unfold maxLen; omega) w1).mono ?_
      rintro e w2 ⟨rfl, rfl⟩
      rw [E1.out]
      go_wp2_with fail
      have hx : (s.extract 0 1).size = 1 := by rw [ByteArray.size_extract]; omega
      have hn : nameB (s.extract 0 1) = true := nameB_first HB.out hx (fun a b => by rw [ByteArray.getElem_extract])
      refine (i_NameValid (s.extract 0 1) (by rw [hx]; decide) w1).mono ?_
      rw [hn]
      rintro e w2 ⟨rfl, rfl⟩
      clear hx hn
      go_wp2_with (first | (go_at_call 32; (with_reducible refine (alive_any _).mono ?_); rintro e w' ⟨rfl, rfl⟩))
      go_ret
      exact ⟨rfl, HF.out.below⟩
  · subst hv
    have hl' : (1048576 : Int) < (l.length : Int) := by omega
    clear hl h
    unfold maxLen at hmax
    go_enter Try.func5, Try.ntmps5
    go_wp2_with fail
    go_ret
    exact ⟨rfl, Below.refl _ _⟩
set_option maxRecDepth 100000 in
theorem lifted_FnNameValid (os : Os) (started : os.Started) (H : Type) (enc : TypeId × Value → H) :
    ReturnsInHanded {} Try.checked os 5 .any (Rows.fnNameValidSpec.pre6 enc Try.prog Try.f5 Rows.fnNameValidRow.domain false) (Rows.fnNameValidSpec.post enc Try.prog Try.f5 false true false false) := by
  refine returnsInHanded_of_change (C := Try.checked) own_knob started (by kernel_rfl) Try.func5
    (ChangeSpec.witness6 (enc := enc) (C := Try.checked) false ⟨#[], #[.slice none 0 0], []⟩ 8 (by kernel_rfl) (by kernel_rfl) (by kernel_rfl) (by kernel_rfl)) ?_
  intro W base args ds gs before hval0 hW hcnd _
  have hval : ∀ (j : Nat) t v, Try.f5.params[j]? = some t → args[j]? = some v → Value.okWide Try.prog W .any base t v := hval0
  have hW' := hW
  obtain ⟨p, q, hA0, hV, rfl, hfz, hnd⟩ := hW
  have hA : DataW.TrodAll enc Try.prog W 0 (fun _ => true) true Try.f5.params.toList args.toList ds p := hA0
  rw [Try.params5] at hA hval
  obtain ⟨v0, vs0, d0, ds0, p0, q0, hargs, rfl, rfl, h0, r0⟩ := trodAll_cons hA
  obtain ⟨rfl, rfl, rfl⟩ := trodAll_nil r0
  obtain rfl : args = #[v0] := by cases args; simp_all
  obtain ⟨rfl, rfl⟩ := trodVars_none hV
  clear hA0 hval0
  have k0 := h0
  have t0 : ∀ x ∈ p0, x.block < W.heap.size := fun x hx => by simpa using hW'.lt x (by simp [hx])
  obtain ⟨l0, o0⟩ := open_bytesAt (hval 0 22 v0 rfl rfl) h0
  refine (walk_FnNameValid W v0 l0 o0).mono fun e W' ⟨he, hg⟩ => ?_
  subst he
  exact ⟨_, rfl, _, _, _, _, _, _, hW', (trodAll_cons_mk (shut_bool Try.underlying4 _) trodAll_mk0), (trodAll_cons_mk (Below.trod laid_out (by kernel_rfl) (of_decide_eq_true (by kernel_rfl)) k0 hg t0) trodAll_mk0), rfl, hg.frame _, fun h => by cases h⟩

theorem facts_FnNameValid : joinedFacts Try.prog 5 Try.f5 Rows.fnNameValidSpec Rows.fnNameValidRow = true := by
  unfold joinedFacts
  simp only [Bool.and_eq_true]
  repeat' apply And.intro
  all_goals first
    | with_reducible exact laid_out
    | with_reducible exact may_enter
    | (with_reducible rw [lifts_final]; as_aux_lemma => kernel_rfl)
    | (with_reducible rw [make_cut]; as_aux_lemma => kernel_rfl)
    | as_aux_lemma => kernel_rfl
theorem inst_FnNameValid : Try.f5.isInstance Try.prog Rows.fnNameValidRow.origin Rows.fnNameValidRow.targs := of_decide_eq_true (by kernel_rfl)
theorem wrap_FnNameValid : Try.f5.isWrapper Try.prog Rows.fnNameValidRow.wrapper Rows.fnNameValidRow.mainSum := by
  unfold Func.isWrapper
  first | (rw [if_pos (by decide +kernel)]; kernel_rfl) | (rw [if_neg (by decide +kernel)]; exact ⟨rfl, rfl⟩)
theorem named_FnNameValid : Try.prog.funcNamed Rows.fnNameValidRow.func = some 5 := by kernel_rfl
theorem over_FnNameValid : Rows.fnNameValidRow.holds Try.pinned (OpenSpec.ofChange Rows.fnNameValidSpec) :=
  OpenClaim.holds_of_wide 5 Try.f5 rfl rfl rfl rfl rfl rfl rfl ⟨rfl, rfl, rfl, rfl, rfl⟩ rfl rfl rfl rfl rfl named_FnNameValid Try.func5 facts_FnNameValid inst_FnNameValid wrap_FnNameValid
    (fun os started H enc _ => lifted_FnNameValid os started H enc)

/-- The statement. -/
theorem holds_FnNameValid : Rows.FnNameValidSaid :=
  over_FnNameValid
#print axioms holds_FnNameValid
end Go.Proofs.Ythjpdnpmdppamaa
