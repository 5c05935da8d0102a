/- Hexadecimal digits can be read: ReadHex of HexText's text returns the bytes; there are two digits for each. No condition. -/
import Derived.Test.YthjpdnpmdppamaaFacts
import Derived.Test.YthjpdnpmdppamaaDrawK
import Derived.Test.YthjpdnpmdppamaaPlainB
namespace Go.Proofs.Ythjpdnpmdppamaa
open Go.ChangeShapes Go.WideShapes Go.ChangeAt Go.RowKit Go.Joins
set_option linter.unusedSimpArgs false
set_option linter.unusedVariables false
set_option maxRecDepth 100000
set_option maxHeartbeats 2000000 in
theorem walk_FnHexText (w : World) (v : Value) (l : List UInt8) (h : BytesAt w v l) :
    Calls Try.prog 9 #[v] w fun e w' => e = .returned (.bool true) ∧ Below w.heap.size w w' := by
  obtain ⟨a, cap, hv, hcap, hmax, hnone, hcell⟩ := h.form
  clear hnone hcell
  by_cases hl : (l.length : Int) ≤ 1048576
  · have H := Lib.hid h
    clear h
    subst hv
    unfold maxLen at hmax
    go_enter Try.func9, Try.ntmps9
    go_wp2_with fail
    refine (drawHexText_any _ _ l H.out).mono ?_
    rintro e w1 ⟨_, rfl, ⟨k, hR, hk⟩, hF⟩
    obtain ⟨ka, kc, rfl, -⟩ := hR.form
    have HF := Lib.hid hF
    have HR := Lib.hid hR
    clear hF hR
    obtain ⟨T, hT⟩ : ∃ T : ByteArray, ⟨(hexText k).toArray⟩ = T := ⟨_, rfl⟩
    have hTl : T.size = 2 * k.length := by rw [← hT]; show (hexText k).toArray.size = _; have := hexText_length k; simp; omega
    have hTr : readHexL (bytesT T) = some k := by rw [← hT]; unfold bytesT; simp [readHex_hexText]
    have HT := Lib.hid hT
    have HTR := Lib.hid hTr
    have hTl2 := Lib.hid hTl
    have hT18 : T.size ≤ 18 := by omega
    clear hT hTr hTl
    go_wp2_with fail
    refine (i_HexText w1 _ k HR.out (by omega)).mono ?_
    rw [HT.out]
    rintro e w2 ⟨rfl, h2⟩
    have HF2 := Lib.hid (HF.out.call h2)
    have HR2 := Lib.hid (HR.out.below (Nat.le_refl _) h2)
    clear h2 HF HR
    go_wp2_with fail
    refine (s_HexText w2 _ k HR2.out (by omega)).mono ?_
    rw [HT.out]
    rintro e w3 ⟨rfl, h3⟩
    have HF3 := Lib.hid (HF2.out.call h3)
    have HR3 := Lib.hid (HR2.out.below (Nat.le_refl _) h3)
    clear h3 HF2 HR2
    go_wp2_with fail
    refine (i_ReadHex w3 T (by omega)).mono ?_
    rw [HTR.out]
    rintro e w4 ⟨r, rfl, o4, h4⟩
    obtain ⟨ra, rc, rfl⟩ := owns_form o4
    have HF4 := Lib.hid (HF3.out.call h4)
    have HR4 := Lib.hid (HR3.out.below (Nat.le_refl _) h4)
    have HO4 := Lib.hid o4.reads
    clear h4 HF3 HR3 o4
    go_wp2_with fail
    refine (l_sameBytes w4 _ _ k k HO4.out HR4.out).mono ?_
    rw [eqB_self]
    rintro e w5 ⟨rfl, h5⟩
    have HF5 := Lib.hid (HF4.out.call h5)
    have e1 : ((T.size : Int) == 2 * (k.length : Int)) = true := by rw [beq_iff_eq]; have := hTl2.out; omega
    clear h5 HF4 HR4 HO4
    go_wp2_with (first | (go_at_call 32; (with_reducible refine (alive_any _).mono ?_); rintro e w' ⟨rfl, rfl⟩))
    go_ret
    exact ⟨rfl, HF5.out.below⟩
  · subst hv
    have hl' : (1048576 : Int) < (l.length : Int) := by omega
    clear hl h
    unfold maxLen at hmax
    go_enter Try.func9, Try.ntmps9
    go_wp2_with fail
    go_ret
    exact ⟨rfl, Below.refl _ _⟩
set_option maxRecDepth 100000 in
theorem lifted_FnHexText (os : Os) (started : os.Started) (H : Type) (enc : TypeId × Value → H) :
    ReturnsInHanded {} Try.checked os 9 .any (Rows.fnHexTextSpec.pre6 enc Try.prog Try.f9 Rows.fnHexTextRow.domain false) (Rows.fnHexTextSpec.post enc Try.prog Try.f9 false true false false) := by
  refine returnsInHanded_of_change (C := Try.checked) own_knob started (by kernel_rfl) Try.func9
    (ChangeSpec.witness6 (enc := enc) (C := Try.checked) false ⟨#[], #[.slice none 0 0], []⟩ 8 (by kernel_rfl) (by kernel_rfl) (by kernel_rfl) (by kernel_rfl)) ?_
  intro W base args ds gs before hval0 hW hcnd _
  have hval : ∀ (j : Nat) t v, Try.f9.params[j]? = some t → args[j]? = some v → Value.okWide Try.prog W .any base t v := hval0
  have hW' := hW
  obtain ⟨p, q, hA0, hV, rfl, hfz, hnd⟩ := hW
  have hA : DataW.TrodAll enc Try.prog W 0 (fun _ => true) true Try.f9.params.toList args.toList ds p := hA0
  rw [Try.params9] at hA hval
  obtain ⟨v0, vs0, d0, ds0, p0, q0, hargs, rfl, rfl, h0, r0⟩ := trodAll_cons hA
  obtain ⟨rfl, rfl, rfl⟩ := trodAll_nil r0
  obtain rfl : args = #[v0] := by cases args; simp_all
  obtain ⟨rfl, rfl⟩ := trodVars_none hV
  clear hA0 hval0
  have k0 := h0
  have t0 : ∀ x ∈ p0, x.block < W.heap.size := fun x hx => by simpa using hW'.lt x (by simp [hx])
  obtain ⟨l0, o0⟩ := open_bytesAt (hval 0 22 v0 rfl rfl) h0
  refine (walk_FnHexText W v0 l0 o0).mono fun e W' ⟨he, hg⟩ => ?_
  subst he
  exact ⟨_, rfl, _, _, _, _, _, _, hW', (trodAll_cons_mk (shut_bool Try.underlying4 _) trodAll_mk0), (trodAll_cons_mk (Below.trod laid_out (by kernel_rfl) (of_decide_eq_true (by kernel_rfl)) k0 hg t0) trodAll_mk0), rfl, hg.frame _, fun h => by cases h⟩

theorem facts_FnHexText : joinedFacts Try.prog 9 Try.f9 Rows.fnHexTextSpec Rows.fnHexTextRow = true := by
  unfold joinedFacts
  simp only [Bool.and_eq_true]
  repeat' apply And.intro
  all_goals first
    | with_reducible exact laid_out
    | with_reducible exact may_enter
    | (with_reducible rw [lifts_final]; as_aux_lemma => kernel_rfl)
    | (with_reducible rw [make_cut]; as_aux_lemma => kernel_rfl)
    | as_aux_lemma => kernel_rfl
theorem inst_FnHexText : Try.f9.isInstance Try.prog Rows.fnHexTextRow.origin Rows.fnHexTextRow.targs := of_decide_eq_true (by kernel_rfl)
theorem wrap_FnHexText : Try.f9.isWrapper Try.prog Rows.fnHexTextRow.wrapper Rows.fnHexTextRow.mainSum := by
  unfold Func.isWrapper
  first | (rw [if_pos (by decide +kernel)]; kernel_rfl) | (rw [if_neg (by decide +kernel)]; exact ⟨rfl, rfl⟩)
theorem named_FnHexText : Try.prog.funcNamed Rows.fnHexTextRow.func = some 9 := by kernel_rfl
theorem over_FnHexText : Rows.fnHexTextRow.holds Try.pinned (OpenSpec.ofChange Rows.fnHexTextSpec) :=
  OpenClaim.holds_of_wide 9 Try.f9 rfl rfl rfl rfl rfl rfl rfl ⟨rfl, rfl, rfl, rfl, rfl⟩ rfl rfl rfl rfl rfl named_FnHexText Try.func9 facts_FnHexText inst_FnHexText wrap_FnHexText
    (fun os started H enc _ => lifted_FnHexText os started H enc)

/-- The statement. -/
theorem holds_FnHexText : Rows.FnHexTextSaid :=
  over_FnHexText
#print axioms holds_FnHexText
end Go.Proofs.Ythjpdnpmdppamaa
