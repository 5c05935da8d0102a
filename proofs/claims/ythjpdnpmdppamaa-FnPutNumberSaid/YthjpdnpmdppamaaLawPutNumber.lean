/- Bytes of numbers can be read: GetNumber of PutNumber's bytes returns the number; there are as many as were asked for. No condition. -/
import Derived.Test.YthjpdnpmdppamaaFacts
import Derived.Test.YthjpdnpmdppamaaDrawK
import Derived.Test.YthjpdnpmdppamaaPlainA
namespace Go.Proofs.Ythjpdnpmdppamaa
open Go.ChangeShapes Go.WideShapes Go.ChangeAt Go.RowKit Go.Joins
set_option linter.unusedSimpArgs false
set_option linter.unusedVariables false
set_option maxRecDepth 100000
set_option maxHeartbeats 2000000 in
theorem walk_FnPutNumber (w : World) (v : Value) (l : List UInt8) (h : BytesAt w v l) :
    Calls Try.prog 12 #[v] w fun e w' => e = .returned (.bool true) ∧ Below w.heap.size w w' := by
  obtain ⟨a, cap, hv, hcap, hmax, hnone, hcell⟩ := h.form
  clear hnone hcell
  by_cases hl : (l.length : Int) ≤ 1048576
  · have H := Lib.hid h
    clear h
    subst hv
    unfold maxLen at hmax
    go_enter Try.func12, Try.ntmps12
    go_wp2_with fail
    refine (drawPutNumber_any _ _ l H.out).mono ?_
    rintro e w1 ⟨_, rfl, ⟨n, m, rfl, b1, b2, b3, b4⟩, hF⟩
    have HF := Lib.hid hF
    clear hF
    obtain ⟨L, hL⟩ : ∃ L, putNum n m = L := ⟨_, rfl⟩
    have hlen : L.length ≤ 4 := by rw [← hL]; exact putNum_length n m
    have HL := Lib.hid hL
    clear hL
    go_wp2_with fail
    refine (i_PutNumber w1 n m).mono ?_
    rw [HL.out]
    rintro e w2 ⟨r, rfl, o2, h2⟩
    obtain ⟨ra, rc, rfl⟩ := owns_form o2
    have O2 := Lib.hid o2
    have HF2 := Lib.hid (HF.out.call h2)
    clear o2 h2 HF
    go_wp2_with fail
    refine (s_PutNumber w2 n m).mono ?_
    rw [HL.out]
    rintro e w3 ⟨r, rfl, o3, h3⟩
    have R2 := O2.out.reads.below (Nat.le_refl _) h3
    have HR2 := Lib.hid R2
    have HR3 := Lib.hid o3.reads
    have HF3 := Lib.hid (HF2.out.call h3)
    clear o3 h3 HF2 R2 O2
    go_wp2_with fail
    refine (l_sameBytes w3 _ _ L L HR2.out HR3.out).mono ?_
    rw [eqB_self]
    rintro e w4 ⟨rfl, h4⟩
    have HR4 := Lib.hid (HR2.out.below (Nat.le_refl _) h4)
    have HF4 := Lib.hid (HF3.out.call h4)
    clear h4 HR2 HR3 HF3
    by_cases hz : L.length = 0
    · have e0 : ((L.length : Int) == 0) = true := by simp [hz]
      clear hz
      go_wp2_with (first | (go_at_call 32; (with_reducible refine (alive_any _).mono ?_); rintro e w' ⟨rfl, rfl⟩))
      go_ret
      exact ⟨rfl, HF4.out.below⟩
    · have e0 : ((L.length : Int) == 0) = false := by rw [beq_eq_false_iff_ne]; omega
      have hn : numB n m = true := putNum_good (by rw [HL.out]; intro e; rw [e] at hz; exact hz rfl)
      obtain ⟨g1, g2⟩ := getNum_putNum hn
      rw [HL.out] at g1 g2
      have e1 : ((L.length : Int) == m) = true := by rw [beq_iff_eq]; exact g1
      have G2 := Lib.hid g2
      clear g1 g2 hz hn
      go_wp2_with fail
      refine (i_GetNumber w4 _ L HR4.out 0 m).mono ?_
      rw [G2.out]
      rintro e w5 ⟨rfl, rfl⟩
      go_wp2_with fail
      go_ret
      exact ⟨rfl, HF4.out.below⟩
  · subst hv
    have hl' : (1048576 : Int) < (l.length : Int) := by omega
    clear hl h
    unfold maxLen at hmax
    go_enter Try.func12, Try.ntmps12
    go_wp2_with fail
    go_ret
    exact ⟨rfl, Below.refl _ _⟩
set_option maxRecDepth 100000 in
theorem lifted_FnPutNumber (os : Os) (started : os.Started) (H : Type) (enc : TypeId × Value → H) :
    ReturnsInHanded {} Try.checked os 12 .any (Rows.fnPutNumberSpec.pre6 enc Try.prog Try.f12 Rows.fnPutNumberRow.domain false) (Rows.fnPutNumberSpec.post enc Try.prog Try.f12 false true false false) := by
  refine returnsInHanded_of_change (C := Try.checked) own_knob started (by kernel_rfl) Try.func12
    (ChangeSpec.witness6 (enc := enc) (C := Try.checked) false ⟨#[], #[.slice none 0 0], []⟩ 8 (by kernel_rfl) (by kernel_rfl) (by kernel_rfl) (by kernel_rfl)) ?_
  intro W base args ds gs before hval0 hW hcnd _
  have hval : ∀ (j : Nat) t v, Try.f12.params[j]? = some t → args[j]? = some v → Value.okWide Try.prog W .any base t v := hval0
  have hW' := hW
  obtain ⟨p, q, hA0, hV, rfl, hfz, hnd⟩ := hW
  have hA : DataW.TrodAll enc Try.prog W 0 (fun _ => true) true Try.f12.params.toList args.toList ds p := hA0
  rw [Try.params12] at hA hval
  obtain ⟨v0, vs0, d0, ds0, p0, q0, hargs, rfl, rfl, h0, r0⟩ := trodAll_cons hA
  obtain ⟨rfl, rfl, rfl⟩ := trodAll_nil r0
  obtain rfl : args = #[v0] := by cases args; simp_all
  obtain ⟨rfl, rfl⟩ := trodVars_none hV
  clear hA0 hval0
  have k0 := h0
  have t0 : ∀ x ∈ p0, x.block < W.heap.size := fun x hx => by simpa using hW'.lt x (by simp [hx])
  obtain ⟨l0, o0⟩ := open_bytesAt (hval 0 22 v0 rfl rfl) h0
  refine (walk_FnPutNumber W v0 l0 o0).mono fun e W' ⟨he, hg⟩ => ?_
  subst he
  exact ⟨_, rfl, _, _, _, _, _, _, hW', (trodAll_cons_mk (shut_bool Try.underlying4 _) trodAll_mk0), (trodAll_cons_mk (Below.trod laid_out (by kernel_rfl) (of_decide_eq_true (by kernel_rfl)) k0 hg t0) trodAll_mk0), rfl, hg.frame _, fun h => by cases h⟩

theorem facts_FnPutNumber : joinedFacts Try.prog 12 Try.f12 Rows.fnPutNumberSpec Rows.fnPutNumberRow = true := by
  unfold joinedFacts
  simp only [Bool.and_eq_true]
  repeat' apply And.intro
  all_goals first
    | with_reducible exact laid_out
    | with_reducible exact may_enter
    | (with_reducible rw [lifts_final]; as_aux_lemma => kernel_rfl)
    | (with_reducible rw [make_cut]; as_aux_lemma => kernel_rfl)
    | as_aux_lemma => kernel_rfl
theorem inst_FnPutNumber : Try.f12.isInstance Try.prog Rows.fnPutNumberRow.origin Rows.fnPutNumberRow.targs := of_decide_eq_true (by kernel_rfl)
theorem wrap_FnPutNumber : Try.f12.isWrapper Try.prog Rows.fnPutNumberRow.wrapper Rows.fnPutNumberRow.mainSum := by
  unfold Func.isWrapper
  first | (rw [if_pos (by decide +kernel)]; kernel_rfl) | (rw [if_neg (by decide +kernel)]; exact ⟨rfl, rfl⟩)
theorem named_FnPutNumber : Try.prog.funcNamed Rows.fnPutNumberRow.func = some 12 := by kernel_rfl
theorem over_FnPutNumber : Rows.fnPutNumberRow.holds Try.pinned (OpenSpec.ofChange Rows.fnPutNumberSpec) :=
  OpenClaim.holds_of_wide 12 Try.f12 rfl rfl rfl rfl rfl rfl rfl ⟨rfl, rfl, rfl, rfl, rfl⟩ rfl rfl rfl rfl rfl named_FnPutNumber Try.func12 facts_FnPutNumber inst_FnPutNumber wrap_FnPutNumber
    (fun os started H enc _ => lifted_FnPutNumber os started H enc)

/-- The statement. -/
theorem holds_FnPutNumber : Rows.FnPutNumberSaid :=
  over_FnPutNumber
#print axioms holds_FnPutNumber
end Go.Proofs.Ythjpdnpmdppamaa
