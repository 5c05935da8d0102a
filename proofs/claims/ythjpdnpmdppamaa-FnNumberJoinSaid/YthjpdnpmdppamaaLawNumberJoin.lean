/- Bytes of two numbers stand behind each other: two bytes and two bytes are four bytes of the number of both. No condition. -/
import Derived.Test.YthjpdnpmdppamaaFacts
import Derived.Test.YthjpdnpmdppamaaDrawK
import Derived.Test.YthjpdnpmdppamaaPlainA
namespace Go.Proofs.Ythjpdnpmdppamaa
open Go.ChangeShapes Go.WideShapes Go.ChangeAt Go.RowKit Go.Joins
set_option linter.unusedSimpArgs false
set_option linter.unusedVariables false
set_option maxRecDepth 100000
set_option maxHeartbeats 2000000 in
theorem walk_FnNumberJoin (w : World) (v : Value) (l : List UInt8) (h : BytesAt w v l) :
    Calls Try.prog 6 #[v] w fun e w' => e = .returned (.bool true) ∧ Below w.heap.size w w' := by
  obtain ⟨a, cap, hv, hcap, hmax, hnone, hcell⟩ := h.form
  clear hnone hcell
  by_cases hl : (l.length : Int) ≤ 1048576
  · have H := Lib.hid h
    clear h
    subst hv
    unfold maxLen at hmax
    go_enter Try.func6, Try.ntmps6
    go_wp2_with fail
    refine (drawGetNumber_any _ _ l H.out).mono ?_
    rintro e w1 ⟨_, rfl, ⟨vb, k, n, m, rfl, hR, hk, b1, b2, b3, b4⟩, hF⟩
    obtain ⟨ka, kc, rfl, -⟩ := hR.form
    have HF := Lib.hid hF
    have HR := Lib.hid hR
    clear hF hR
    go_wp2_with fail
    refine (i_GetNumber w1 _ k HR.out n m).mono ?_
    rintro e w2 ⟨rfl, rfl⟩
    go_wp2_with fail
    refine (s_GetNumber w1 _ k HR.out n m).mono ?_
    rintro e w2 ⟨rfl, rfl⟩
    go_wp2_with fail
    refine (i_GetNumber w1 _ k HR.out n 4).mono ?_
    rintro e w2 ⟨rfl, rfl⟩
    by_cases hz : 0 ≤ getNum k n 4
    · have hj := numJoin k n hz
      obtain ⟨j1, j2, j3⟩ := hj
      have HJ := Lib.hid j1
      have r4 := getNum_range k n 4
      have r2 := getNum_range k n 2
      have r3 := getNum_range k (n + 2) 2
      obtain ⟨r40, r41⟩ := r4
      obtain ⟨r20, r21⟩ := r2
      obtain ⟨r30, r31⟩ := r3
      clear j1
      go_wp2_with fail
      refine (i_GetNumber w1 _ k HR.out n 2).mono ?_
      rintro e w2 ⟨rfl, rfl⟩
      go_wp2_with fail
      refine (i_GetNumber w1 _ k HR.out (n + 2) 2).mono ?_
      rintro e w2 ⟨rfl, rfl⟩
      have E : (getNum k n 4 == getNum k n 2 + 65536 * getNum k (n + 2) 2) = true := by rw [beq_iff_eq]; exact HJ.out
      generalize getNum k n 4 = x1 at *
      generalize getNum k n 2 = x2 at *
      generalize getNum k (n + 2) 2 = x3 at *
      clear HJ
      go_wp2_with fail
      go_ret
      exact ⟨rfl, HF.out.below⟩
    · have hz' : getNum k n 4 < 0 := by omega
      clear hz
      go_wp2_with (first | (go_at_call 32; (with_reducible refine (alive_any _).mono ?_); rintro e w' ⟨rfl, rfl⟩))
      go_ret
      exact ⟨rfl, HF.out.below⟩
  · subst hv
    have hl' : (1048576 : Int) < (l.length : Int) := by omega
    clear hl h
    unfold maxLen at hmax
    go_enter Try.func6, Try.ntmps6
    go_wp2_with fail
    go_ret
    exact ⟨rfl, Below.refl _ _⟩
set_option maxRecDepth 100000 in
theorem lifted_FnNumberJoin (os : Os) (started : os.Started) (H : Type) (enc : TypeId × Value → H) :
    ReturnsInHanded {} Try.checked os 6 .any (Rows.fnNumberJoinSpec.pre6 enc Try.prog Try.f6 Rows.fnNumberJoinRow.domain false) (Rows.fnNumberJoinSpec.post enc Try.prog Try.f6 false true false false) := by
  refine returnsInHanded_of_change (C := Try.checked) own_knob started (by kernel_rfl) Try.func6
    (ChangeSpec.witness6 (enc := enc) (C := Try.checked) false ⟨#[], #[.slice none 0 0], []⟩ 8 (by kernel_rfl) (by kernel_rfl) (by kernel_rfl) (by kernel_rfl)) ?_
  intro W base args ds gs before hval0 hW hcnd _
  have hval : ∀ (j : Nat) t v, Try.f6.params[j]? = some t → args[j]? = some v → Value.okWide Try.prog W .any base t v := hval0
  have hW' := hW
  obtain ⟨p, q, hA0, hV, rfl, hfz, hnd⟩ := hW
  have hA : DataW.TrodAll enc Try.prog W 0 (fun _ => true) true Try.f6.params.toList args.toList ds p := hA0
  rw [Try.params6] at hA hval
  obtain ⟨v0, vs0, d0, ds0, p0, q0, hargs, rfl, rfl, h0, r0⟩ := trodAll_cons hA
  obtain ⟨rfl, rfl, rfl⟩ := trodAll_nil r0
  obtain rfl : args = #[v0] := by cases args; simp_all
  obtain ⟨rfl, rfl⟩ := trodVars_none hV
  clear hA0 hval0
  have k0 := h0
  have t0 : ∀ x ∈ p0, x.block < W.heap.size := fun x hx => by simpa using hW'.lt x (by simp [hx])
  obtain ⟨l0, o0⟩ := open_bytesAt (hval 0 22 v0 rfl rfl) h0
  refine (walk_FnNumberJoin W v0 l0 o0).mono fun e W' ⟨he, hg⟩ => ?_
  subst he
  exact ⟨_, rfl, _, _, _, _, _, _, hW', (trodAll_cons_mk (shut_bool Try.underlying4 _) trodAll_mk0), (trodAll_cons_mk (Below.trod laid_out (by kernel_rfl) (of_decide_eq_true (by kernel_rfl)) k0 hg t0) trodAll_mk0), rfl, hg.frame _, fun h => by cases h⟩

theorem facts_FnNumberJoin : joinedFacts Try.prog 6 Try.f6 Rows.fnNumberJoinSpec Rows.fnNumberJoinRow = true := by
  unfold joinedFacts
  simp only [Bool.and_eq_true]
  repeat' apply And.intro
  all_goals first
    | with_reducible exact laid_out
    | with_reducible exact may_enter
    | (with_reducible rw [lifts_final]; as_aux_lemma => kernel_rfl)
    | (with_reducible rw [make_cut]; as_aux_lemma => kernel_rfl)
    | as_aux_lemma => kernel_rfl
theorem inst_FnNumberJoin : Try.f6.isInstance Try.prog Rows.fnNumberJoinRow.origin Rows.fnNumberJoinRow.targs := of_decide_eq_true (by kernel_rfl)
theorem wrap_FnNumberJoin : Try.f6.isWrapper Try.prog Rows.fnNumberJoinRow.wrapper Rows.fnNumberJoinRow.mainSum := by
  unfold Func.isWrapper
  first | (rw [if_pos (by decide +kernel)]; kernel_rfl) | (rw [if_neg (by decide +kernel)]; exact ⟨rfl, rfl⟩)
theorem named_FnNumberJoin : Try.prog.funcNamed Rows.fnNumberJoinRow.func = some 6 := by kernel_rfl
theorem over_FnNumberJoin : Rows.fnNumberJoinRow.holds Try.pinned (OpenSpec.ofChange Rows.fnNumberJoinSpec) :=
  OpenClaim.holds_of_wide 6 Try.f6 rfl rfl rfl rfl rfl rfl rfl ⟨rfl, rfl, rfl, rfl, rfl⟩ rfl rfl rfl rfl rfl named_FnNumberJoin Try.func6 facts_FnNumberJoin inst_FnNumberJoin wrap_FnNumberJoin
    (fun os started H enc _ => lifted_FnNumberJoin os started H enc)

/-- The statement. -/
theorem holds_FnNumberJoin : Rows.FnNumberJoinSaid :=
  over_FnNumberJoin
#print axioms holds_FnNumberJoin
end Go.Proofs.Ythjpdnpmdppamaa
