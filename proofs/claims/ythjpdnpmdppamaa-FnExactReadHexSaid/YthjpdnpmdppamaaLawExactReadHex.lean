/- The program's ReadHex returns what the reference's returns, for all arguments. No condition. -/
import Derived.Test.YthjpdnpmdppamaaFacts
import Derived.Test.YthjpdnpmdppamaaBase
import Derived.Test.YthjpdnpmdppamaaNum
import Derived.Test.YthjpdnpmdppamaaBytes
import Derived.Test.YthjpdnpmdppamaaMark
import Derived.Test.YthjpdnpmdppamaaReadHex
namespace Go.Proofs.Ythjpdnpmdppamaa
open Go.ChangeShapes Go.WideShapes Go.ChangeAt Go.RowKit Go.Joins
set_option linter.unusedSimpArgs false
set_option linter.unusedVariables false
set_option maxRecDepth 100000
set_option maxHeartbeats 1000000 in
theorem walk_FnExactReadHex (w : World) (s : ByteArray) (hs : s.size ≤ maxLen) :
    Calls Try.prog 7 #[.string s] w fun e w' => e = .returned (.bool true) ∧ Below w.heap.size w w' := by
  unfold maxLen at hs
  by_cases hl : (s.size : Int) ≤ 1048576
  · have hl' : s.size ≤ 1073741824 := by omega
    obtain ⟨ok, hok⟩ : ∃ ok, (readHexL (bytesT s)).isSome = ok := ⟨_, rfl⟩
    obtain ⟨out, hout⟩ : ∃ out, (readHexL (bytesT s)).getD [] = out := ⟨_, rfl⟩
    have hlen : out.length ≤ 1073741824 := by
      rw [← hout]
      rcases h : readHexL (bytesT s) with _ | b
      · simp
      · have := readHexL_length _ _ h
        rw [bytesT_length] at this
        simp; omega
    have ee := eqB_self out
    have HK := Lib.hid hok
    have HU := Lib.hid hout
    clear hok hout
    go_enter Try.func7, Try.ntmps7
    go_wp2_with fail
    refine (s_ReadHex w s hl').mono ?_
    rintro e w1 ⟨r0, rfl, o0, h1⟩
    rw [HU.out] at o0
    rw [HK.out]
    have F1 := (From.start w).call h1
    have R0 := o0.reads
    clear h1 o0
    go_wp2_with fail
    refine (i_ReadHex w1 s hl').mono ?_
    rintro e w2 ⟨g0, rfl, O0, h2⟩
    rw [HU.out] at O0
    rw [HK.out]
    have R0' := R0.below (Nat.le_refl _) h2
    have G0 := O0.reads
    go_wp2_with fail
    refine (l_eqByteS w2 _ _ _ _ G0 R0').mono ?_
    rintro e w3 ⟨rfl, h3⟩
    have O3 : OwnB w3 w1.heap.size g0 out := O0.call (w' := w3) h3
    have B3 : Below w1.heap.size w1 w3 := h2.trans (h3.mono h2.size)
    clear h3 h2 O0 G0 R0'
    go_wp2_with fail
    refine (markByteS_any w3 _ g0 _ O3 B3.size 1 (by omega) hlen).mono ?_
    rintro e w4 ⟨rfl, O4, h4⟩
    have B4 := B3.trans h4
    have M4 := O4.reads
    clear h4 B3 O3 O4
    go_wp2_with fail
    refine (heldByteS_any w4 g0 1 _ M4 (by omega) hlen).mono ?_
    rintro e w5 ⟨rfl, rfl⟩
    go_wp2_with fail
    refine (i_ReadHex w4 s hl').mono ?_
    rintro e w6 ⟨g1, rfl, O6, h6⟩
    rw [HU.out] at O6
    rw [HK.out]
    have G6 := O6.reads
    have B6 := B4.trans (h6.mono B4.size)
    have M6 := M4.below (Nat.le_refl _) h6
    have R6 := R0.below (Nat.le_refl _) B6
    clear O6 h6 M4
    go_wp2_with fail
    refine (l_eqByteS w6 _ _ _ _ G6 R6).mono ?_
    rintro e w7 ⟨rfl, h7⟩
    have M7 := M6.below (Nat.le_refl _) h7
    have F7 := (F1.call B6).call h7
    clear h7 M6 G6 R6 B6 B4 R0 F1
    go_wp2_with fail
    refine (heldByteS_any w7 g0 1 _ M7 (by omega) hlen).mono ?_
    rintro e w8 ⟨rfl, rfl⟩
    go_wp2_with fail
    go_ret
    exact ⟨rfl, F7.below⟩
  · have hl' : (1048576 : Int) < (s.size : Int) := by omega
    clear hl
    go_enter Try.func7, Try.ntmps7
    go_wp2_with fail
    go_ret
    exact ⟨rfl, Below.refl _ _⟩
set_option maxRecDepth 100000 in
theorem lifted_FnExactReadHex (os : Os) (started : os.Started) (H : Type) (enc : TypeId × Value → H) :
    ReturnsInHanded {} Try.checked os 7 .any (Rows.fnExactReadHexSpec.pre6 enc Try.prog Try.f7 Rows.fnExactReadHexRow.domain false) (Rows.fnExactReadHexSpec.post enc Try.prog Try.f7 false true false false) := by
  refine returnsInHanded_of_change (C := Try.checked) own_knob started (by kernel_rfl) Try.func7
    (ChangeSpec.witness6 (enc := enc) (C := Try.checked) false ⟨#[], #[.string ⟨#[]⟩], []⟩ 8 (by kernel_rfl) (by kernel_rfl) (by kernel_rfl) (by kernel_rfl)) ?_
  intro W base args ds gs before hval0 hW hcnd _
  have hval : ∀ (j : Nat) t v, Try.f7.params[j]? = some t → args[j]? = some v → Value.okWide Try.prog W .any base t v := hval0
  have hW' := hW
  obtain ⟨p, q, hA0, hV, rfl, hfz, hnd⟩ := hW
  have hA : DataW.TrodAll enc Try.prog W 0 (fun _ => true) true Try.f7.params.toList args.toList ds p := hA0
  rw [Try.params7] at hA hval
  obtain ⟨v0, vs0, d0, ds0, p0, q0, hargs, rfl, rfl, h0, r0⟩ := trodAll_cons hA
  obtain ⟨rfl, rfl, rfl⟩ := trodAll_nil r0
  obtain rfl : args = #[v0] := by cases args; simp_all
  obtain ⟨rfl, rfl⟩ := trodVars_none hV
  clear hA0 hval0
  have k0 := h0
  have t0 : ∀ x ∈ p0, x.block < W.heap.size := fun x hx => by simpa using hW'.lt x (by simp [hx])
  obtain ⟨s0, rfl, rfl, rfl, w0⟩ := ChangeMaps.open_string Try.underlying9 (hval 0 9 v0 rfl rfl) h0
  refine (walk_FnExactReadHex W s0 w0).mono fun e W' ⟨he, hg⟩ => ?_
  subst he
  exact ⟨_, rfl, _, _, _, _, _, _, hW', (trodAll_cons_mk (shut_bool Try.underlying4 _) trodAll_mk0), (trodAll_cons_mk (Below.trod laid_out (by kernel_rfl) (of_decide_eq_true (by kernel_rfl)) k0 hg t0) trodAll_mk0), rfl, hg.frame _, fun h => by cases h⟩

theorem facts_FnExactReadHex : joinedFacts Try.prog 7 Try.f7 Rows.fnExactReadHexSpec Rows.fnExactReadHexRow = true := by
  unfold joinedFacts
  simp only [Bool.and_eq_true]
  repeat' apply And.intro
  all_goals first
    | with_reducible exact laid_out
    | with_reducible exact may_enter
    | (with_reducible rw [lifts_final]; as_aux_lemma => kernel_rfl)
    | (with_reducible rw [make_cut]; as_aux_lemma => kernel_rfl)
    | as_aux_lemma => kernel_rfl
theorem inst_FnExactReadHex : Try.f7.isInstance Try.prog Rows.fnExactReadHexRow.origin Rows.fnExactReadHexRow.targs := of_decide_eq_true (by kernel_rfl)
theorem wrap_FnExactReadHex : Try.f7.isWrapper Try.prog Rows.fnExactReadHexRow.wrapper Rows.fnExactReadHexRow.mainSum := by
  unfold Func.isWrapper
  first | (rw [if_pos (by decide +kernel)]; kernel_rfl) | (rw [if_neg (by decide +kernel)]; exact ⟨rfl, rfl⟩)
theorem named_FnExactReadHex : Try.prog.funcNamed Rows.fnExactReadHexRow.func = some 7 := by kernel_rfl
theorem over_FnExactReadHex : Rows.fnExactReadHexRow.holds Try.pinned (OpenSpec.ofChange Rows.fnExactReadHexSpec) :=
  OpenClaim.holds_of_wide 7 Try.f7 rfl rfl rfl rfl rfl rfl rfl ⟨rfl, rfl, rfl, rfl, rfl⟩ rfl rfl rfl rfl rfl named_FnExactReadHex Try.func7 facts_FnExactReadHex inst_FnExactReadHex wrap_FnExactReadHex
    (fun os started H enc _ => lifted_FnExactReadHex os started H enc)

/-- The statement. -/
theorem holds_FnExactReadHex : Rows.FnExactReadHexSaid :=
  over_FnExactReadHex
#print axioms holds_FnExactReadHex
end Go.Proofs.Ythjpdnpmdppamaa
