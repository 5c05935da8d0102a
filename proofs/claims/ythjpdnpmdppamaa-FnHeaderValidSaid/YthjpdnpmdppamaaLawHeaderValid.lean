/- Headers have names: a header without names is invalid. No condition. -/
import Derived.Test.YthjpdnpmdppamaaFacts
import Derived.Test.YthjpdnpmdppamaaDrawK
import Derived.Test.YthjpdnpmdppamaaHead
namespace Go.Proofs.Ythjpdnpmdppamaa
open Go.ChangeShapes Go.WideShapes Go.ChangeAt Go.RowKit Go.Joins
set_option linter.unusedSimpArgs false
set_option linter.unusedVariables false
set_option maxRecDepth 100000
set_option maxHeartbeats 2000000 in
theorem walk_FnHeaderValid (w : World) (v : Value) (l : List UInt8) (h : BytesAt w v l) :
    Calls Try.prog 4 #[v] w fun e w' => e = .returned (.bool true) ∧ Below w.heap.size w w' := by
  obtain ⟨a, cap, hv, hcap, hmax, hnone, hcell⟩ := h.form
  clear hnone hcell
  by_cases hl : (l.length : Int) ≤ 1048576
  · have H := Lib.hid h
    clear h
    subst hv
    unfold maxLen at hmax
    go_enter Try.func4, Try.ntmps4
    go_wp2_with fail
    refine (s_DrawHeaderValid _ _ l H.out).mono ?_
    rintro e w1 ⟨_, rfl, ⟨a, b, c, d, rfl⟩, hF⟩
    have HF := Lib.hid hF
    clear hF
    go_wp2_with fail
    refine (i_HeaderValid a b c d _).mono ?_
    rintro e w2 ⟨rfl, h2⟩
    have HF2 := Lib.hid ((HF.out.alloc _).call h2)
    have B2 := (Blk.new w1 (headCells a b c d) 28).call h2
    have c2 := B2.cell
    have z2 := B2.lt
    clear h2 HF
    go_wp2_with fail
    refine (s_HeaderValid a b c d _).mono ?_
    rintro e w3 ⟨rfl, h3⟩
    have HF3 := Lib.hid (HF2.out.call h3)
    have B3 := B2.call h3
    have c3 := B3.cell
    have z3 := B3.lt
    have e3 : (headerB a b c d != headerB a b c d) = false := by simp
    have E0 : Hid (headerB a b c 0 = false) := by show _ = _; unfold headerB; rw [show withinB 0 1 400 = false from rfl]; simp
    clear h3 HF2 B2 c2 z2
    generalize headerB a b c d = hb at *
    go_wp2_with fail
    refine (i_HeaderValid a b c 0 _).mono ?_
    rw [E0.out]
    rintro e w4 ⟨rfl, h4⟩
    have HF4 := Lib.hid ((HF3.out.alloc _).call h4)
    clear h4 HF3 c3 z3 B3
    go_wp2_with (first | (go_at_call 32; (with_reducible refine (alive_any _).mono ?_); rintro e w' ⟨rfl, rfl⟩))
    go_ret
    exact ⟨rfl, HF4.out.below⟩
  · subst hv
    have hl' : (1048576 : Int) < (l.length : Int) := by omega
    clear hl h
    unfold maxLen at hmax
    go_enter Try.func4, Try.ntmps4
    go_wp2_with fail
    go_ret
    exact ⟨rfl, Below.refl _ _⟩
set_option maxRecDepth 100000 in
theorem lifted_FnHeaderValid (os : Os) (started : os.Started) (H : Type) (enc : TypeId × Value → H) :
    ReturnsInHanded {} Try.checked os 4 .any (Rows.fnHeaderValidSpec.pre6 enc Try.prog Try.f4 Rows.fnHeaderValidRow.domain false) (Rows.fnHeaderValidSpec.post enc Try.prog Try.f4 false true false false) := by
  refine returnsInHanded_of_change (C := Try.checked) own_knob started (by kernel_rfl) Try.func4
    (ChangeSpec.witness6 (enc := enc) (C := Try.checked) false ⟨#[], #[.slice none 0 0], []⟩ 8 (by kernel_rfl) (by kernel_rfl) (by kernel_rfl) (by kernel_rfl)) ?_
  intro W base args ds gs before hval0 hW hcnd _
  have hval : ∀ (j : Nat) t v, Try.f4.params[j]? = some t → args[j]? = some v → Value.okWide Try.prog W .any base t v := hval0
  have hW' := hW
  obtain ⟨p, q, hA0, hV, rfl, hfz, hnd⟩ := hW
  have hA : DataW.TrodAll enc Try.prog W 0 (fun _ => true) true Try.f4.params.toList args.toList ds p := hA0
  rw [Try.params4] at hA hval
  obtain ⟨v0, vs0, d0, ds0, p0, q0, hargs, rfl, rfl, h0, r0⟩ := trodAll_cons hA
  obtain ⟨rfl, rfl, rfl⟩ := trodAll_nil r0
  obtain rfl : args = #[v0] := by cases args; simp_all
  obtain ⟨rfl, rfl⟩ := trodVars_none hV
  clear hA0 hval0
  have k0 := h0
  have t0 : ∀ x ∈ p0, x.block < W.heap.size := fun x hx => by simpa using hW'.lt x (by simp [hx])
  obtain ⟨l0, o0⟩ := open_bytesAt (hval 0 22 v0 rfl rfl) h0
  refine (walk_FnHeaderValid W v0 l0 o0).mono fun e W' ⟨he, hg⟩ => ?_
  subst he
  exact ⟨_, rfl, _, _, _, _, _, _, hW', (trodAll_cons_mk (shut_bool Try.underlying4 _) trodAll_mk0), (trodAll_cons_mk (Below.trod laid_out (by kernel_rfl) (of_decide_eq_true (by kernel_rfl)) k0 hg t0) trodAll_mk0), rfl, hg.frame _, fun h => by cases h⟩

theorem facts_FnHeaderValid : joinedFacts Try.prog 4 Try.f4 Rows.fnHeaderValidSpec Rows.fnHeaderValidRow = true := by
  unfold joinedFacts
  simp only [Bool.and_eq_true]
  repeat' apply And.intro
  all_goals first
    | with_reducible exact laid_out
    | with_reducible exact may_enter
    | (with_reducible rw [lifts_final]; as_aux_lemma => kernel_rfl)
    | (with_reducible rw [make_cut]; as_aux_lemma => kernel_rfl)
    | as_aux_lemma => kernel_rfl
theorem inst_FnHeaderValid : Try.f4.isInstance Try.prog Rows.fnHeaderValidRow.origin Rows.fnHeaderValidRow.targs := of_decide_eq_true (by kernel_rfl)
theorem wrap_FnHeaderValid : Try.f4.isWrapper Try.prog Rows.fnHeaderValidRow.wrapper Rows.fnHeaderValidRow.mainSum := by
  unfold Func.isWrapper
  first | (rw [if_pos (by decide +kernel)]; kernel_rfl) | (rw [if_neg (by decide +kernel)]; exact ⟨rfl, rfl⟩)
theorem named_FnHeaderValid : Try.prog.funcNamed Rows.fnHeaderValidRow.func = some 4 := by kernel_rfl
theorem over_FnHeaderValid : Rows.fnHeaderValidRow.holds Try.pinned (OpenSpec.ofChange Rows.fnHeaderValidSpec) :=
  OpenClaim.holds_of_wide 4 Try.f4 rfl rfl rfl rfl rfl rfl rfl ⟨rfl, rfl, rfl, rfl, rfl⟩ rfl rfl rfl rfl rfl named_FnHeaderValid Try.func4 facts_FnHeaderValid inst_FnHeaderValid wrap_FnHeaderValid
    (fun os started H enc _ => lifted_FnHeaderValid os started H enc)

/-- The statement. -/
theorem holds_FnHeaderValid : Rows.FnHeaderValidSaid :=
  over_FnHeaderValid
#print axioms holds_FnHeaderValid
end Go.Proofs.Ythjpdnpmdppamaa
