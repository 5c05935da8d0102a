/- The program's PutNumber returns what the reference's returns, for all arguments. No condition. -/
import Derived.Test.YtiilfpdjajacmaaBase
import Derived.Test.YtiilfpdjajacmaaNum
import Derived.Test.YtiilfpdjajacmaaBytes
import Derived.Test.YtiilfpdjajacmaaMark
namespace Go.Proofs.Ytiilfpdjajacmaa
open Go.ChangeShapes Go.WideShapes Go.ChangeAt Go.RowKit Go.Joins
set_option linter.unusedSimpArgs false
set_option linter.unusedVariables false
set_option maxHeartbeats 1000000 in
theorem walk_FnExactPutNumber (w : World) (n : Int) (hn : (Lit.int .i64 n).wf = true) (wide : Int) (hw : (Lit.int .i64 wide).wf = true) :
    Calls Try.prog 14 #[.int .i64 n, .int .i64 wide] w fun e w' => e = .returned (.bool true) ∧ Below w.heap.size w w' := by
  have hl := putNum_length n wide
  have ee := eqB_self (putNum n wide)
  go_enter Try.func14, Try.ntmps14
  go_wp2_with fail
  refine (s_PutNumber w n wide).mono ?_
  rintro e w1 ⟨r0, rfl, o0, h1⟩
  have F1 := (From.start w).call h1
  have R0 := o0.reads
  clear h1 o0
  go_wp2_with fail
  refine (i_PutNumber w1 n wide).mono ?_
  rintro e w2 ⟨g0, rfl, O0, h2⟩
  have R0' := R0.below (Nat.le_refl _) h2
  have G0 := O0.reads
  go_wp2_with fail
  refine (l_eqByteS w2 _ _ _ _ G0 R0').mono ?_
  rintro e w3 ⟨rfl, h3⟩
  have O3 : OwnB w3 w1.heap.size g0 (putNum n wide) := O0.call (w' := w3) h3
  have B3 : Below w1.heap.size w1 w3 := h2.trans (h3.mono h2.size)
  clear h3 h2 O0 G0 R0'
  go_wp2_with fail
  refine (markByteS_any w3 _ g0 _ O3 B3.size 1 (by omega) (by omega)).mono ?_
  rintro e w4 ⟨rfl, O4, h4⟩
  have B4 := B3.trans h4
  have M4 := O4.reads
  clear h4 B3 O3 O4
  go_wp2_with fail
  refine (heldByteS_any w4 g0 1 _ M4 (by omega) (by omega)).mono ?_
  rintro e w5 ⟨rfl, rfl⟩
  go_wp2_with fail
  refine (i_PutNumber w4 n wide).mono ?_
  rintro e w6 ⟨g1, rfl, O6, h6⟩
  have G6 := O6.reads
  have B6 := B4.trans (h6.mono B4.size)
  have M6 := M4.below (Nat.le_refl _) h6
  have R6 := R0.below (Nat.le_refl _) B6
  clear O6 h6 M4
  go_wp2_with fail
  refine (l_eqByteS w6 _ _ _ _ G6 R6).mono ?_
  rintro e w7 ⟨rfl, h7⟩
  have M7 := M6.below (Nat.le_refl _) h7
  have F7 := (F1.call B6).call h7
  clear h7 M6 G6 R6 B6 B4 R0 F1
  go_wp2_with fail
  refine (heldByteS_any w7 g0 1 _ M7 (by omega) (by omega)).mono ?_
  rintro e w8 ⟨rfl, rfl⟩
  go_wp2_with fail
  go_ret
  exact ⟨rfl, F7.below⟩
set_option maxRecDepth 100000 in
theorem lifted_FnExactPutNumber (os : Os) (started : os.Started) (H : Type) (enc : TypeId × Value → H) :
    ReturnsInHanded {} Try.checked os 14 .any (Rows.fnExactPutNumberSpec.pre6 enc Try.prog Try.f14 Rows.fnExactPutNumberRow.domain false) (Rows.fnExactPutNumberSpec.post enc Try.prog Try.f14 false true false false) := by
  refine returnsInHanded_of_change (C := Try.checked) own_knob started (by kernel_rfl) Try.func14
    (ChangeSpec.witness6 (enc := enc) (C := Try.checked) false ⟨#[], #[.int .i64 0, .int .i64 0], []⟩ 8 (by kernel_rfl) (by kernel_rfl) (by kernel_rfl) (by kernel_rfl)) ?_
  intro W base args ds gs before hval0 hW hcnd _
  have hval : ∀ (j : Nat) t v, Try.f14.params[j]? = some t → args[j]? = some v → Value.okWide Try.prog W .any base t v := hval0
  have hW' := hW
  obtain ⟨p, q, hA0, hV, rfl, hfz, hnd⟩ := hW
  have hA : DataW.TrodAll enc Try.prog W 0 (fun _ => true) true Try.f14.params.toList args.toList ds p := hA0
  rw [Try.params14] at hA hval
  obtain ⟨v0, vs0, d0, ds0, p0, q0, hargs, rfl, rfl, h0, r0⟩ := trodAll_cons hA
  obtain ⟨v1, vs1, d1, ds1, p1, q1, rfl, rfl, rfl, h1, r1⟩ := trodAll_cons r0
  obtain ⟨rfl, rfl, rfl⟩ := trodAll_nil r1
  obtain rfl : args = #[v0, v1] := by cases args; simp_all
  obtain ⟨rfl, rfl⟩ := trodVars_none hV
  clear hA0 hval0
  have k0 := h0
  have t0 : ∀ x ∈ p0, x.block < W.heap.size := fun x hx => by simpa using hW'.lt x (by simp [hx])
  have k1 := h1
  have t1 : ∀ x ∈ p1, x.block < W.heap.size := fun x hx => by simpa using hW'.lt x (by simp [hx])
  obtain ⟨a0, rfl, rfl, rfl, w0⟩ := open_int Try.underlying3 (hval 0 3 v0 rfl rfl) h0
  obtain ⟨a1, rfl, rfl, rfl, w1⟩ := open_int Try.underlying3 (hval 1 3 v1 rfl rfl) h1
  refine (walk_FnExactPutNumber W a0 w0 a1 w1).mono fun e W' ⟨he, hg⟩ => ?_
  subst he
  exact ⟨_, rfl, _, _, _, _, _, _, hW', (trodAll_cons_mk (shut_bool Try.underlying4 _) trodAll_mk0), (trodAll_cons_mk (Below.trod laid_out (by kernel_rfl) (of_decide_eq_true (by kernel_rfl)) k0 hg t0) (trodAll_cons_mk (Below.trod laid_out (by kernel_rfl) (of_decide_eq_true (by kernel_rfl)) k1 hg t1) trodAll_mk0)), rfl, hg.frame _, fun h => by cases h⟩

theorem over_FnExactPutNumber : Rows.fnExactPutNumberRow.holds Try.pinned (OpenSpec.ofChange Rows.fnExactPutNumberSpec) :=
  OpenClaim.holds_of_wide 14 Try.f14 rfl rfl rfl rfl rfl rfl rfl ⟨rfl, rfl, rfl, rfl, rfl⟩ rfl rfl rfl rfl rfl (by kernel_rfl) Try.func14 (by kernel_rfl)
    (of_decide_eq_true (by kernel_rfl)) (by unfold Func.isWrapper; first | (rw [if_pos (by decide +kernel)]; kernel_rfl) | (rw [if_neg (by decide +kernel)]; exact ⟨rfl, rfl⟩))
    (fun os started H enc _ => lifted_FnExactPutNumber os started H enc)

/-- The statement. -/
theorem holds_FnExactPutNumber : Rows.FnExactPutNumberSaid :=
  over_FnExactPutNumber
#print axioms holds_FnExactPutNumber
end Go.Proofs.Ytiilfpdjajacmaa
