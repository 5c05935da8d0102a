/- Accepted texts are canonical: HexText of ReadHex's bytes is the text; with a digit more it is refused. No condition. -/
import Derived.Test.YthjpdnpmdppamaaFacts
import Derived.Test.YthjpdnpmdppamaaDrawK
import Derived.Test.YthjpdnpmdppamaaPlainB
namespace Go.Proofs.Ythjpdnpmdppamaa
open Go.ChangeShapes Go.WideShapes Go.ChangeAt Go.RowKit Go.Joins
set_option linter.unusedSimpArgs false
set_option linter.unusedVariables false
set_option maxRecDepth 100000
set_option maxHeartbeats 2000000 in
theorem walk_FnReadHex (w : World) (v : Value) (l : List UInt8) (h : BytesAt w v l) :
    Calls Try.prog 14 #[v] w fun e w' => e = .returned (.bool true) ∧ Below w.heap.size w w' := by
  obtain ⟨a, cap, hv, hcap, hmax, hnone, hcell⟩ := h.form
  clear hnone hcell
  by_cases hl : (l.length : Int) ≤ 1048576
  · have H := Lib.hid h
    clear h
    subst hv
    unfold maxLen at hmax
    go_enter Try.func14, Try.ntmps14
    go_wp2_with fail
    refine (drawReadHex_any _ _ l H.out).mono ?_
    rintro e w1 ⟨_, rfl, ⟨s, rfl, hs⟩, hF⟩
    have HF := Lib.hid hF
    clear hF
    go_wp2_with fail
    refine (i_ReadHex w1 s (by omega)).mono ?_
    rintro e w2 ⟨r2, rfl, o2, h2⟩
    have HF2 := Lib.hid (HF.out.call h2)
    obtain ⟨ra, rc, hr2⟩ := owns_form o2
    have HO2 := Lib.hid o2
    clear o2 h2 HF
    subst hr2
    go_wp2_with fail
    refine (s_ReadHex w2 s (by omega)).mono ?_
    rintro e w3 ⟨r3, rfl, o3, h3⟩
    have HF3 := Lib.hid (HF2.out.call h3)
    have HR3 := Lib.hid (HO2.out.reads.below (Nat.le_refl _) h3)
    obtain ⟨rb, rd, rfl⟩ := owns_form o3
    have HO3 := Lib.hid o3.reads
    clear o3 h3 HF2 HO2
    cases hk : readHexL (bytesT s) with
    | none =>
      rw [hk] at HR3 HO3
      simp only [Option.getD_none, Option.isSome_none, List.length_nil] at HR3 HO3 ⊢
      clear hk
      go_wp2_with fail
      refine (l_sameBytes w3 _ _ [] [] HR3.out HO3.out).mono ?_
      rw [eqB_self]
      rintro e w4 ⟨rfl, h4⟩
      have HF4 := Lib.hid (HF3.out.call h4)
      clear h4 HF3 HR3 HO3
      go_wp2_with (first | (go_at_call 32; (with_reducible refine (alive_any _).mono ?_); rintro e w' ⟨rfl, rfl⟩))
      go_ret
      exact ⟨rfl, HF4.out.below⟩
    | some b =>
      rw [hk] at HR3 HO3
      simp only [Option.getD_some, Option.isSome_some] at HR3 HO3 ⊢
      have hb := readHexL_length _ _ hk
      rw [bytesT_length] at hb
      obtain ⟨s1, hs1, hr1⟩ := str_sum s ⟨#[48]⟩ (by show s.size + 1 ≤ _; omega)
      have z1 : s1.size ≤ 14 := by rw [hs1, ByteArray.size_append]; show s.size + 1 ≤ 14; omega
      have E1 : Hid (readHexL (bytesT s1) = none) := by
        show _ = _
        have : bytesT s1 = bytesT s ++ [48] := by rw [hs1]; unfold bytesT; simp
        rw [this]; exact readHex_more hk 48
      obtain ⟨T, hT⟩ : ∃ T : ByteArray, ⟨(hexText b).toArray⟩ = T := ⟨_, rfl⟩
      have e1 : (T.toList == s.toList) = true := str_eq (by rw [← hT, hexText_readHex _ _ hk]; unfold bytesS bytesT; simp)
      have HT := Lib.hid hT
      clear hk hs1 hT
      go_wp2_with fail
      refine (l_sameBytes w3 _ _ b b HR3.out HO3.out).mono ?_
      rw [eqB_self]
      rintro e w4 ⟨rfl, h4⟩
      have HF4 := Lib.hid (HF3.out.call h4)
      have HR4 := Lib.hid (HR3.out.below (Nat.le_refl _) h4)
      clear h4 HF3 HR3 HO3
      go_wp2_with fail
      refine (i_ReadHex w4 s1 (by omega)).mono ?_
      rw [E1.out]
      rintro e w5 ⟨r5, rfl, o5, h5⟩
      have HF5 := Lib.hid (HF4.out.call h5)
      have HR5 := Lib.hid (HR4.out.below (Nat.le_refl _) h5)
      obtain ⟨r5a, r5c, rfl⟩ := owns_form o5
      clear h5 HF4 HR4 o5
      simp only [Option.isSome_none]
      go_wp2_with fail
      refine (i_HexText w5 _ b HR5.out (by omega)).mono ?_
      rw [HT.out]
      rintro e w6 ⟨rfl, h6⟩
      have HF6 := Lib.hid (HF5.out.call h6)
      clear h6 HF5 HR5 hr1
      go_wp2_with fail
      go_ret
      exact ⟨rfl, HF6.out.below⟩
  · subst hv
    have hl' : (1048576 : Int) < (l.length : Int) := by omega
    clear hl h
    unfold maxLen at hmax
    go_enter Try.func14, Try.ntmps14
    go_wp2_with fail
    go_ret
    exact ⟨rfl, Below.refl _ _⟩
set_option maxRecDepth 100000 in
theorem lifted_FnReadHex (os : Os) (started : os.Started) (H : Type) (enc : TypeId × Value → H) :
    ReturnsInHanded {} Try.checked os 14 .any (Rows.fnReadHexSpec.pre6 enc Try.prog Try.f14 Rows.fnReadHexRow.domain false) (Rows.fnReadHexSpec.post enc Try.prog Try.f14 false true false false) := by
  refine returnsInHanded_of_change (C := Try.checked) own_knob started (by kernel_rfl) Try.func14
    (ChangeSpec.witness6 (enc := enc) (C := Try.checked) false ⟨#[], #[.slice none 0 0], []⟩ 8 (by kernel_rfl) (by kernel_rfl) (by kernel_rfl) (by kernel_rfl)) ?_
  intro W base args ds gs before hval0 hW hcnd _
  have hval : ∀ (j : Nat) t v, Try.f14.params[j]? = some t → args[j]? = some v → Value.okWide Try.prog W .any base t v := hval0
  have hW' := hW
  obtain ⟨p, q, hA0, hV, rfl, hfz, hnd⟩ := hW
  have hA : DataW.TrodAll enc Try.prog W 0 (fun _ => true) true Try.f14.params.toList args.toList ds p := hA0
  rw [Try.params14] at hA hval
  obtain ⟨v0, vs0, d0, ds0, p0, q0, hargs, rfl, rfl, h0, r0⟩ := trodAll_cons hA
  obtain ⟨rfl, rfl, rfl⟩ := trodAll_nil r0
  obtain rfl : args = #[v0] := by cases args; simp_all
  obtain ⟨rfl, rfl⟩ := trodVars_none hV
  clear hA0 hval0
  have k0 := h0
  have t0 : ∀ x ∈ p0, x.block < W.heap.size := fun x hx => by simpa using hW'.lt x (by simp [hx])
  obtain ⟨l0, o0⟩ := open_bytesAt (hval 0 22 v0 rfl rfl) h0
  refine (walk_FnReadHex W v0 l0 o0).mono fun e W' ⟨he, hg⟩ => ?_
  subst he
  exact ⟨_, rfl, _, _, _, _, _, _, hW', (trodAll_cons_mk (shut_bool Try.underlying4 _) trodAll_mk0), (trodAll_cons_mk (Below.trod laid_out (by kernel_rfl) (of_decide_eq_true (by kernel_rfl)) k0 hg t0) trodAll_mk0), rfl, hg.frame _, fun h => by cases h⟩

theorem facts_FnReadHex : joinedFacts Try.prog 14 Try.f14 Rows.fnReadHexSpec Rows.fnReadHexRow = true := by
  unfold joinedFacts
  simp only [Bool.and_eq_true]
  repeat' apply And.intro
  all_goals first
    | with_reducible exact laid_out
    | with_reducible exact may_enter
    | (with_reducible rw [lifts_final]; as_aux_lemma => kernel_rfl)
    | (with_reducible rw [make_cut]; as_aux_lemma => kernel_rfl)
    | as_aux_lemma => kernel_rfl
theorem inst_FnReadHex : Try.f14.isInstance Try.prog Rows.fnReadHexRow.origin Rows.fnReadHexRow.targs := of_decide_eq_true (by kernel_rfl)
theorem wrap_FnReadHex : Try.f14.isWrapper Try.prog Rows.fnReadHexRow.wrapper Rows.fnReadHexRow.mainSum := by
  unfold Func.isWrapper
  first | (rw [if_pos (by decide +kernel)]; kernel_rfl) | (rw [if_neg (by decide +kernel)]; exact ⟨rfl, rfl⟩)
theorem named_FnReadHex : Try.prog.funcNamed Rows.fnReadHexRow.func = some 14 := by kernel_rfl
theorem over_FnReadHex : Rows.fnReadHexRow.holds Try.pinned (OpenSpec.ofChange Rows.fnReadHexSpec) :=
  OpenClaim.holds_of_wide 14 Try.f14 rfl rfl rfl rfl rfl rfl rfl ⟨rfl, rfl, rfl, rfl, rfl⟩ rfl rfl rfl rfl rfl named_FnReadHex Try.func14 facts_FnReadHex inst_FnReadHex wrap_FnReadHex
    (fun os started H enc _ => lifted_FnReadHex os started H enc)

/-- The statement. -/
theorem holds_FnReadHex : Rows.FnReadHexSaid :=
  over_FnReadHex
#print axioms holds_FnReadHex
end Go.Proofs.Ythjpdnpmdppamaa
