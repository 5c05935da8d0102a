/- The program's GetHeader returns what the reference's returns, for all arguments. No condition. -/
import Derived.Test.YthjpdnpmdppamaaFacts
import Derived.Test.YthjpdnpmdppamaaGetHeadA
namespace Go.Proofs.Ythjpdnpmdppamaa
open Go.ChangeShapes Go.WideShapes Go.ChangeAt Go.RowKit Go.Joins
set_option linter.unusedSimpArgs false
set_option linter.unusedVariables false
set_option maxRecDepth 100000
set_option maxHeartbeats 1000000 in
theorem walk_FnExactGetHeader (w : World) (v : Value) (l : List UInt8) (h : BytesAt w v l) :
    Calls Try.prog 17 #[v] w fun e w' => e = .returned (.bool true) ∧ Below w.heap.size w w' := by
  obtain ⟨a, cap, hv, hcap, hmax, hnone, hcell⟩ := h.form
  clear hnone hcell
  by_cases hl : (l.length : Int) ≤ 1048576
  · have hl' : l.length ≤ 1073741824 := by omega
    have H := Lib.hid h
    obtain ⟨G, hG⟩ : ∃ G, getHead l = G := ⟨_, rfl⟩
    have HG := Lib.hid hG
    clear h hG
    subst hv
    unfold maxLen at hmax
    go_enter Try.func17, Try.ntmps17
    go_wp2_with fail
    refine (toByteS_any w _ l H.out hl').mono ?_
    rintro e w1 ⟨r1, rfl, o1, h1⟩
    have HF1 := Lib.hid ((From.start w).call h1)
    have HA1 := Lib.hid (H.out.below (Nat.le_refl _) h1)
    have HR1 := Lib.hid o1.reads
    clear h1 o1
    go_wp2_with fail
    refine (s_GetHeader_all w1 _ l HR1.out).mono ?_
    rw [HG.out]
    rintro e w2 ⟨rfl, h2⟩
    have HF2 := Lib.hid (HF1.out.call h2)
    have HA2 := Lib.hid (HA1.out.below (Nat.le_refl _) h2)
    clear h2 HF1 HA1 HR1
    obtain ⟨a0, b0, c0, d0, hH⟩ : ∃ a b c d, headOpt G = headerV a b c d := by
      rcases G with _ | ⟨a, b, c, d⟩
      · exact ⟨0, 0, 0, 0, rfl⟩
      · exact ⟨a, b, c, d, rfl⟩
    obtain ⟨ok, hok⟩ : ∃ ok, G.isSome = ok := ⟨_, rfl⟩
    rw [hH, hok]
    have HH := Lib.hid hH
    have HOK := Lib.hid hok
    have eo : (ok != ok) = false := by simp
    clear hH hok
    go_wp2_with fail
    refine (toByteS_any _ _ l (HA2.out.below (Nat.le_refl _) ((From.start w2).alloc _).below) hl').mono ?_
    rintro e w3 ⟨r3, rfl, o3, h3⟩
    have HF3 := Lib.hid ((HF2.out.alloc _).call h3)
    have HA3 := Lib.hid ((HA2.out.below (Nat.le_refl _) ((From.start w2).alloc _).below).below (Nat.le_refl _) h3)
    have HR3 := Lib.hid o3.reads
    have HB3 := Lib.hid ((Blk.new w2 #[.int .i64 a0, .int .i64 b0, .int .i64 c0, .int .i64 d0] 28).call h3)
    clear h3 o3 HF2 HA2
    go_wp2_with fail
    refine (i_GetHeader_all w3 _ l HR3.out).mono ?_
    rw [HG.out]
    unfold RetHead
    rw [HH.out, HOK.out]
    rintro e w4 ⟨rfl, h4⟩
    have HF4 := Lib.hid (HF3.out.call h4)
    have HA4 := Lib.hid (HA3.out.below (Nat.le_refl _) h4)
    have HR4 := Lib.hid (HR3.out.below (Nat.le_refl _) h4)
    have B4 := HB3.out.call h4
    have cb := B4.cell
    have zb := B4.lt
    clear h4 HF3 HA3 HR3 HB3
    go_wp2_with fail
    refine (eqHeader_same a0 b0 c0 d0 _).mono ?_
    rintro e w5 ⟨rfl, h5⟩
    have hb := ((From.start w4).alloc (.cells #[.int .i64 a0, .int .i64 b0, .int .i64 c0, .int .i64 d0] 28)).call h5
    have HF5 := Lib.hid (HF4.out.trans (hb.below.mono HF4.out.le))
    have HA5 := Lib.hid (HA4.out.below (Nat.le_refl _) hb.below)
    have HR5 := Lib.hid (HR4.out.below (Nat.le_refl _) hb.below)
    clear hb h5 HF4 HA4 HR4 B4 cb zb
    go_wp2_with fail
    refine (toByteS_any _ _ l HA5.out hl').mono ?_
    rintro e w6 ⟨r6, rfl, o6, h6⟩
    have HF6 := Lib.hid (HF5.out.call h6)
    have HR6 := Lib.hid (HR5.out.below (Nat.le_refl _) h6)
    have HO6 := Lib.hid o6.reads
    clear h6 o6 HF5 HA5 HR5
    go_wp2_with fail
    refine (l_eqByteS _ _ _ l l HR6.out HO6.out).mono ?_
    rw [eqB_self]
    rintro e w7 ⟨rfl, h7⟩
    have HF7 := Lib.hid (HF6.out.call h7)
    clear h7 HF6 HR6 HO6
    go_wp2_with fail
    go_ret
    exact ⟨rfl, HF7.out.below⟩
  · subst hv
    have hl' : (1048576 : Int) < (l.length : Int) := by omega
    clear hl h
    unfold maxLen at hmax
    go_enter Try.func17, Try.ntmps17
    go_wp2_with fail
    go_ret
    exact ⟨rfl, Below.refl _ _⟩
set_option maxRecDepth 100000 in
theorem lifted_FnExactGetHeader (os : Os) (started : os.Started) (H : Type) (enc : TypeId × Value → H) :
    ReturnsInHanded {} Try.checked os 17 .any (Rows.fnExactGetHeaderSpec.pre6 enc Try.prog Try.f17 Rows.fnExactGetHeaderRow.domain false) (Rows.fnExactGetHeaderSpec.post enc Try.prog Try.f17 false true false false) := by
  refine returnsInHanded_of_change (C := Try.checked) own_knob started (by kernel_rfl) Try.func17
    (ChangeSpec.witness6 (enc := enc) (C := Try.checked) false ⟨#[], #[.slice none 0 0], []⟩ 8 (by kernel_rfl) (by kernel_rfl) (by kernel_rfl) (by kernel_rfl)) ?_
  intro W base args ds gs before hval0 hW hcnd _
  have hval : ∀ (j : Nat) t v, Try.f17.params[j]? = some t → args[j]? = some v → Value.okWide Try.prog W .any base t v := hval0
  have hW' := hW
  obtain ⟨p, q, hA0, hV, rfl, hfz, hnd⟩ := hW
  have hA : DataW.TrodAll enc Try.prog W 0 (fun _ => true) true Try.f17.params.toList args.toList ds p := hA0
  rw [Try.params17] at hA hval
  obtain ⟨v0, vs0, d0, ds0, p0, q0, hargs, rfl, rfl, h0, r0⟩ := trodAll_cons hA
  obtain ⟨rfl, rfl, rfl⟩ := trodAll_nil r0
  obtain rfl : args = #[v0] := by cases args; simp_all
  obtain ⟨rfl, rfl⟩ := trodVars_none hV
  clear hA0 hval0
  have k0 := h0
  have t0 : ∀ x ∈ p0, x.block < W.heap.size := fun x hx => by simpa using hW'.lt x (by simp [hx])
  obtain ⟨l0, o0⟩ := open_bytesAt (hval 0 22 v0 rfl rfl) h0
  refine (walk_FnExactGetHeader W v0 l0 o0).mono fun e W' ⟨he, hg⟩ => ?_
  subst he
  exact ⟨_, rfl, _, _, _, _, _, _, hW', (trodAll_cons_mk (shut_bool Try.underlying4 _) trodAll_mk0), (trodAll_cons_mk (Below.trod laid_out (by kernel_rfl) (of_decide_eq_true (by kernel_rfl)) k0 hg t0) trodAll_mk0), rfl, hg.frame _, fun h => by cases h⟩

theorem facts_FnExactGetHeader : joinedFacts Try.prog 17 Try.f17 Rows.fnExactGetHeaderSpec Rows.fnExactGetHeaderRow = true := by
  unfold joinedFacts
  simp only [Bool.and_eq_true]
  repeat' apply And.intro
  all_goals first
    | with_reducible exact laid_out
    | with_reducible exact may_enter
    | (with_reducible rw [lifts_final]; as_aux_lemma => kernel_rfl)
    | (with_reducible rw [make_cut]; as_aux_lemma => kernel_rfl)
    | as_aux_lemma => kernel_rfl
theorem inst_FnExactGetHeader : Try.f17.isInstance Try.prog Rows.fnExactGetHeaderRow.origin Rows.fnExactGetHeaderRow.targs := of_decide_eq_true (by kernel_rfl)
theorem wrap_FnExactGetHeader : Try.f17.isWrapper Try.prog Rows.fnExactGetHeaderRow.wrapper Rows.fnExactGetHeaderRow.mainSum := by
  unfold Func.isWrapper
  first | (rw [if_pos (by decide +kernel)]; kernel_rfl) | (rw [if_neg (by decide +kernel)]; exact ⟨rfl, rfl⟩)
theorem named_FnExactGetHeader : Try.prog.funcNamed Rows.fnExactGetHeaderRow.func = some 17 := by kernel_rfl
theorem over_FnExactGetHeader : Rows.fnExactGetHeaderRow.holds Try.pinned (OpenSpec.ofChange Rows.fnExactGetHeaderSpec) :=
  OpenClaim.holds_of_wide 17 Try.f17 rfl rfl rfl rfl rfl rfl rfl ⟨rfl, rfl, rfl, rfl, rfl⟩ rfl rfl rfl rfl rfl named_FnExactGetHeader Try.func17 facts_FnExactGetHeader inst_FnExactGetHeader wrap_FnExactGetHeader
    (fun os started H enc _ => lifted_FnExactGetHeader os started H enc)

/-- The statement. -/
theorem holds_FnExactGetHeader : Rows.FnExactGetHeaderSaid :=
  over_FnExactGetHeader
#print axioms holds_FnExactGetHeader
end Go.Proofs.Ythjpdnpmdppamaa
