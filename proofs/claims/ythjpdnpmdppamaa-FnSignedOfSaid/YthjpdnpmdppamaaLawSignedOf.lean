/- Signed numbers have the same bytes: SignedOf differs from the number by a multiple of the numbers that there are, and is nearest to 0. No condition. -/
import Derived.Test.YthjpdnpmdppamaaFacts
import Derived.Test.YthjpdnpmdppamaaDrawK
import Derived.Test.YthjpdnpmdppamaaPlainA
namespace Go.Proofs.Ythjpdnpmdppamaa
open Go.ChangeShapes Go.WideShapes Go.ChangeAt Go.RowKit Go.Joins
set_option linter.unusedSimpArgs false
set_option linter.unusedVariables false
set_option maxRecDepth 100000
set_option maxHeartbeats 2000000 in
theorem walk_FnSignedOf (w : World) (v : Value) (l : List UInt8) (h : BytesAt w v l) :
    Calls Try.prog 8 #[v] w fun e w' => e = .returned (.bool true) ∧ Below w.heap.size w w' := by
  obtain ⟨a, cap, hv, hcap, hmax, hnone, hcell⟩ := h.form
  clear hnone hcell
  by_cases hl : (l.length : Int) ≤ 1048576
  · have H := Lib.hid h
    clear h
    subst hv
    unfold maxLen at hmax
    go_enter Try.func8, Try.ntmps8
    go_wp2_with fail
    refine (drawSignedOf_any _ _ l H.out).mono ?_
    rintro e w1 ⟨_, rfl, ⟨n, m, rfl, b1, b2, b3, b4⟩, hF⟩
    have HF := Lib.hid hF
    clear hF
    obtain ⟨L, hL⟩ : ∃ L, putNum n m = L := ⟨_, rfl⟩
    have hlen : L.length ≤ 4 := by rw [← hL]; exact putNum_length n m
    obtain ⟨S, hS⟩ : ∃ S, signedOf n m = S := ⟨_, rfl⟩
    have HL := Lib.hid hL
    have HS := Lib.hid hS
    clear hL hS
    go_wp2_with fail
    refine (signedOf_any n m w1).mono ?_
    rw [HS.out]
    rintro e w2 ⟨rfl, rfl⟩
    go_wp2_with fail
    refine (sSignedOf_any n m w1).mono ?_
    rw [HS.out]
    rintro e w2 ⟨rfl, rfl⟩
    go_wp2_with fail
    refine (i_PutNumber w1 n m).mono ?_
    rw [HL.out]
    rintro e w2 ⟨r, rfl, o2, h2⟩
    obtain ⟨ra, rc, rfl⟩ := owns_form o2
    have HF2 := Lib.hid (HF.out.call h2)
    clear o2 h2 HF
    cases hn : numB n m
    · have hz : L.length = 0 := by rw [← HL.out]; unfold putNum; rw [hn]; rfl
      have e0 : ((L.length : Int) == 0) = true := by simp [hz]
      have e1 : S = 0 := by rw [← HS.out]; unfold signedOf; rw [hn]; rfl
      clear hz hn HS HL
      subst e1
      go_wp2_with (first | (go_at_call 32; (with_reducible refine (alive_any _).mono ?_); rintro e w' ⟨rfl, rfl⟩))
      go_ret
      exact ⟨rfl, HF2.out.below⟩
    · obtain ⟨g1, g2⟩ := getNum_putNum hn
      rw [HL.out] at g1 g2
      have hlaw := signedOf_law n m hn
      rw [HS.out] at hlaw
      have hw : withinB m 1 4 = true := by unfold numB at hn; rw [Bool.and_eq_true] at hn; exact hn.1
      obtain ⟨l1, l2, l3⟩ := hlaw
      clear g2 hn HS HL
      rcases wide_four hw with rfl | rfl | rfl | rfl
      all_goals
        have e0 : ((L.length : Int) == 0) = false := by rw [beq_eq_false_iff_ne]; omega
        clear g1
        simp only [pow256, if_true, Int.reduceEq, if_false] at l1 l2 l3
        rcases l1 with l1 | l1
        · subst l1
          go_wp2_with fail
          go_ret
          exact ⟨rfl, HF2.out.below⟩
        · have q1 : (S == n) = false := by rw [beq_eq_false_iff_ne]; omega
          subst l1
          go_wp2_with fail
          go_ret
          exact ⟨rfl, HF2.out.below⟩
  · subst hv
    have hl' : (1048576 : Int) < (l.length : Int) := by omega
    clear hl h
    unfold maxLen at hmax
    go_enter Try.func8, Try.ntmps8
    go_wp2_with fail
    go_ret
    exact ⟨rfl, Below.refl _ _⟩
set_option maxRecDepth 100000 in
theorem lifted_FnSignedOf (os : Os) (started : os.Started) (H : Type) (enc : TypeId × Value → H) :
    ReturnsInHanded {} Try.checked os 8 .any (Rows.fnSignedOfSpec.pre6 enc Try.prog Try.f8 Rows.fnSignedOfRow.domain false) (Rows.fnSignedOfSpec.post enc Try.prog Try.f8 false true false false) := by
  refine returnsInHanded_of_change (C := Try.checked) own_knob started (by kernel_rfl) Try.func8
    (ChangeSpec.witness6 (enc := enc) (C := Try.checked) false ⟨#[], #[.slice none 0 0], []⟩ 8 (by kernel_rfl) (by kernel_rfl) (by kernel_rfl) (by kernel_rfl)) ?_
  intro W base args ds gs before hval0 hW hcnd _
  have hval : ∀ (j : Nat) t v, Try.f8.params[j]? = some t → args[j]? = some v → Value.okWide Try.prog W .any base t v := hval0
  have hW' := hW
  obtain ⟨p, q, hA0, hV, rfl, hfz, hnd⟩ := hW
  have hA : DataW.TrodAll enc Try.prog W 0 (fun _ => true) true Try.f8.params.toList args.toList ds p := hA0
  rw [Try.params8] at hA hval
  obtain ⟨v0, vs0, d0, ds0, p0, q0, hargs, rfl, rfl, h0, r0⟩ := trodAll_cons hA
  obtain ⟨rfl, rfl, rfl⟩ := trodAll_nil r0
  obtain rfl : args = #[v0] := by cases args; simp_all
  obtain ⟨rfl, rfl⟩ := trodVars_none hV
  clear hA0 hval0
  have k0 := h0
  have t0 : ∀ x ∈ p0, x.block < W.heap.size := fun x hx => by simpa using hW'.lt x (by simp [hx])
  obtain ⟨l0, o0⟩ := open_bytesAt (hval 0 22 v0 rfl rfl) h0
  refine (walk_FnSignedOf W v0 l0 o0).mono fun e W' ⟨he, hg⟩ => ?_
  subst he
  exact ⟨_, rfl, _, _, _, _, _, _, hW', (trodAll_cons_mk (shut_bool Try.underlying4 _) trodAll_mk0), (trodAll_cons_mk (Below.trod laid_out (by kernel_rfl) (of_decide_eq_true (by kernel_rfl)) k0 hg t0) trodAll_mk0), rfl, hg.frame _, fun h => by cases h⟩

theorem facts_FnSignedOf : joinedFacts Try.prog 8 Try.f8 Rows.fnSignedOfSpec Rows.fnSignedOfRow = true := by
  unfold joinedFacts
  simp only [Bool.and_eq_true]
  repeat' apply And.intro
  all_goals first
    | with_reducible exact laid_out
    | with_reducible exact may_enter
    | (with_reducible rw [lifts_final]; as_aux_lemma => kernel_rfl)
    | (with_reducible rw [make_cut]; as_aux_lemma => kernel_rfl)
    | as_aux_lemma => kernel_rfl
theorem inst_FnSignedOf : Try.f8.isInstance Try.prog Rows.fnSignedOfRow.origin Rows.fnSignedOfRow.targs := of_decide_eq_true (by kernel_rfl)
theorem wrap_FnSignedOf : Try.f8.isWrapper Try.prog Rows.fnSignedOfRow.wrapper Rows.fnSignedOfRow.mainSum := by
  unfold Func.isWrapper
  first | (rw [if_pos (by decide +kernel)]; kernel_rfl) | (rw [if_neg (by decide +kernel)]; exact ⟨rfl, rfl⟩)
theorem named_FnSignedOf : Try.prog.funcNamed Rows.fnSignedOfRow.func = some 8 := by kernel_rfl
theorem over_FnSignedOf : Rows.fnSignedOfRow.holds Try.pinned (OpenSpec.ofChange Rows.fnSignedOfSpec) :=
  OpenClaim.holds_of_wide 8 Try.f8 rfl rfl rfl rfl rfl rfl rfl ⟨rfl, rfl, rfl, rfl, rfl⟩ rfl rfl rfl rfl rfl named_FnSignedOf Try.func8 facts_FnSignedOf inst_FnSignedOf wrap_FnSignedOf
    (fun os started H enc _ => lifted_FnSignedOf os started H enc)

/-- The statement. -/
theorem holds_FnSignedOf : Rows.FnSignedOfSaid :=
  over_FnSignedOf
#print axioms holds_FnSignedOf
end Go.Proofs.Ythjpdnpmdppamaa
