/- The program's PutHeader returns what the reference's returns, for all arguments. No condition. -/
import Derived.Test.YthjpdnpmdppamaaBase
import Derived.Test.YthjpdnpmdppamaaFacts
import Derived.Test.YthjpdnpmdppamaaNum
import Derived.Test.YthjpdnpmdppamaaHead
import Derived.Test.YthjpdnpmdppamaaBytes
import Derived.Test.YthjpdnpmdppamaaMark
import Derived.Test.YthjpdnpmdppamaaPutHead
namespace Go.Proofs.Ythjpdnpmdppamaa
open Go.ChangeShapes Go.WideShapes Go.ChangeAt Go.RowKit Go.Joins
set_option linter.unusedSimpArgs false
set_option linter.unusedVariables false
set_option maxRecDepth 100000
set_option maxHeartbeats 1000000 in
theorem walk_FnExactPutHeader (w : World) (v : Value) (x : Int × Int × Int × Int) (hv : v = headerV x.1 x.2.1 x.2.2.1 x.2.2.2) :
    Calls Try.prog 11 #[v] w fun e w' => e = .returned (.bool true) ∧ Below w.heap.size w w' := by
  obtain ⟨a, b, c, d⟩ := x
  subst hv
  have hl := putHead_length a b c d
  have ee := eqB_self (putHead a b c d)
  obtain ⟨out, hout⟩ : ∃ out, putHead a b c d = out := ⟨_, rfl⟩
  rw [hout] at hl ee
  have HO := Lib.hid hout
  clear hout
  go_enter Try.func11, Try.ntmps11
  go_wp2_with fail
  refine (toHeader_any _ _ _ _ _).mono ?_
  rintro e u1 ⟨rfl, g1⟩
  have F0 := ((From.start w).alloc _).call g1
  have B0 := (Blk.new w _ _).call g1
  clear g1
  go_wp2_with fail
  refine (s_PutHeader _ _ _ _ _).mono ?_
  rw [HO.out]
  rintro e w1 ⟨r0, rfl, o0, h1⟩
  have F1 := F0.call h1
  have B1 := B0.call h1
  have C1 := B1.cell
  have R0 := o0.reads
  clear h1 o0 F0 B0
  go_wp2_with fail
  refine (toHeader_any _ _ _ _ _).mono ?_
  rintro e u2 ⟨rfl, g2⟩
  have F2 := F1.call g2
  have R1 := R0.below (Nat.le_refl _) g2
  have B2 := B1.call g2
  clear g2 F1 R0 C1 B1
  go_wp2_with fail
  refine (i_PutHeader _ _ _ _ _).mono ?_
  rw [HO.out]
  rintro e w2 ⟨g0, rfl, O0, h2⟩
  have R0' := R1.below (Nat.le_refl _) h2
  have B3 := B2.call h2
  have G0 := O0.reads
  go_wp2_with fail
  refine (l_eqByteS w2 _ _ _ _ G0 R0').mono ?_
  rintro e w3 ⟨rfl, h3⟩
  have O3 : OwnB w3 u2.heap.size g0 out := O0.call (w' := w3) h3
  have B23 : Below u2.heap.size u2 w3 := h2.trans (h3.mono h2.size)
  have B4 := B3.call h3
  clear h3 h2 O0 G0 R0' B3
  go_wp2_with fail
  refine (markByteS_any w3 _ g0 _ O3 B23.size 1 (by omega) (by omega)).mono ?_
  rintro e w4 ⟨rfl, O4, h4⟩
  have B24 := B23.trans h4
  have B5 := B2.below B24 B2.lt
  have C5 := B5.cell
  have M4 := O4.reads
  clear h4 B23 O3 O4 B4
  go_wp2_with fail
  refine (heldByteS_any w4 g0 1 _ M4 (by omega) (by omega)).mono ?_
  rintro e w5 ⟨rfl, rfl⟩
  go_wp2_with fail
  refine (toHeader_any _ _ _ _ _).mono ?_
  rintro e u5 ⟨rfl, g5⟩
  have M5 := M4.below (Nat.le_refl _) g5
  have B25 := B24.trans (g5.mono B24.size)
  clear g5 M4 B5 C5 B24
  go_wp2_with fail
  refine (i_PutHeader _ _ _ _ _).mono ?_
  rw [HO.out]
  rintro e w6 ⟨g1, rfl, O6, h6⟩
  have G6 := O6.reads
  have B6 := B25.trans (h6.mono B25.size)
  have M6 := M5.below (Nat.le_refl _) h6
  have R6 := R1.below (Nat.le_refl _) B6
  clear O6 h6 M5
  go_wp2_with fail
  refine (l_eqByteS w6 _ _ _ _ G6 R6).mono ?_
  rintro e w7 ⟨rfl, h7⟩
  have M7 := M6.below (Nat.le_refl _) h7
  have F7 := (F2.call B6).call h7
  clear h7 M6 G6 R6 B6 B25 R1 F2
  go_wp2_with fail
  refine (heldByteS_any w7 g0 1 _ M7 (by omega) (by omega)).mono ?_
  rintro e w8 ⟨rfl, rfl⟩
  go_wp2_with fail
  go_ret
  exact ⟨rfl, F7.below⟩
set_option maxRecDepth 100000 in
theorem lifted_FnExactPutHeader (os : Os) (started : os.Started) (H : Type) (enc : TypeId × Value → H) :
    ReturnsInHanded {} Try.checked os 11 .any (Rows.fnExactPutHeaderSpec.pre6 enc Try.prog Try.f11 Rows.fnExactPutHeaderRow.domain false) (Rows.fnExactPutHeaderSpec.post enc Try.prog Try.f11 false true false false) := by
  refine returnsInHanded_of_change (C := Try.checked) own_knob started (by kernel_rfl) Try.func11
    (ChangeSpec.witness6 (enc := enc) (C := Try.checked) false ⟨#[], #[.agg #[.int .i64 0, .int .i64 0, .int .i64 0, .int .i64 0]], []⟩ 8 (by kernel_rfl) (by kernel_rfl) (by kernel_rfl) (by kernel_rfl)) ?_
  intro W base args ds gs before hval0 hW hcnd _
  have hval : ∀ (j : Nat) t v, Try.f11.params[j]? = some t → args[j]? = some v → Value.okWide Try.prog W .any base t v := hval0
  have hW' := hW
  obtain ⟨p, q, hA0, hV, rfl, hfz, hnd⟩ := hW
  have hA : DataW.TrodAll enc Try.prog W 0 (fun _ => true) true Try.f11.params.toList args.toList ds p := hA0
  rw [Try.params11] at hA hval
  obtain ⟨v0, vs0, d0, ds0, p0, q0, hargs, rfl, rfl, h0, r0⟩ := trodAll_cons hA
  obtain ⟨rfl, rfl, rfl⟩ := trodAll_nil r0
  obtain rfl : args = #[v0] := by cases args; simp_all
  obtain ⟨rfl, rfl⟩ := trodVars_none hV
  clear hA0 hval0
  have k0 := h0
  have t0 : ∀ x ∈ p0, x.block < W.heap.size := fun x hx => by simpa using hW'.lt x (by simp [hx])
  obtain ⟨x0, o0⟩ := open_headerAt (hval 0 45 v0 rfl rfl) h0
  refine (walk_FnExactPutHeader W v0 x0 o0).mono fun e W' ⟨he, hg⟩ => ?_
  subst he
  exact ⟨_, rfl, _, _, _, _, _, _, hW', (trodAll_cons_mk (shut_bool Try.underlying4 _) trodAll_mk0), (trodAll_cons_mk (Below.trod laid_out (by kernel_rfl) (of_decide_eq_true (by kernel_rfl)) k0 hg t0) trodAll_mk0), rfl, hg.frame _, fun h => by cases h⟩

theorem facts_FnExactPutHeader : joinedFacts Try.prog 11 Try.f11 Rows.fnExactPutHeaderSpec Rows.fnExactPutHeaderRow = true := by
  unfold joinedFacts
  simp only [Bool.and_eq_true]
  repeat' apply And.intro
  all_goals first
    | with_reducible exact laid_out
    | with_reducible exact may_enter
    | (with_reducible rw [lifts_final]; as_aux_lemma => kernel_rfl)
    | (with_reducible rw [make_cut]; as_aux_lemma => kernel_rfl)
    | as_aux_lemma => kernel_rfl
theorem inst_FnExactPutHeader : Try.f11.isInstance Try.prog Rows.fnExactPutHeaderRow.origin Rows.fnExactPutHeaderRow.targs := of_decide_eq_true (by kernel_rfl)
theorem wrap_FnExactPutHeader : Try.f11.isWrapper Try.prog Rows.fnExactPutHeaderRow.wrapper Rows.fnExactPutHeaderRow.mainSum := by
  unfold Func.isWrapper
  first | (rw [if_pos (by decide +kernel)]; kernel_rfl) | (rw [if_neg (by decide +kernel)]; exact ⟨rfl, rfl⟩)
theorem named_FnExactPutHeader : Try.prog.funcNamed Rows.fnExactPutHeaderRow.func = some 11 := by kernel_rfl
theorem over_FnExactPutHeader : Rows.fnExactPutHeaderRow.holds Try.pinned (OpenSpec.ofChange Rows.fnExactPutHeaderSpec) :=
  OpenClaim.holds_of_wide 11 Try.f11 rfl rfl rfl rfl rfl rfl rfl ⟨rfl, rfl, rfl, rfl, rfl⟩ rfl rfl rfl rfl rfl named_FnExactPutHeader Try.func11 facts_FnExactPutHeader inst_FnExactPutHeader wrap_FnExactPutHeader
    (fun os started H enc _ => lifted_FnExactPutHeader os started H enc)

/-- The statement. -/
theorem holds_FnExactPutHeader : Rows.FnExactPutHeaderSaid :=
  over_FnExactPutHeader
#print axioms holds_FnExactPutHeader
end Go.Proofs.Ythjpdnpmdppamaa
