/- The program's GetNumber returns what the reference's returns, for all arguments. No condition. -/
import Derived.Test.YtiilfpdjajacmaaBase
import Derived.Test.YtiilfpdjajacmaaNum
import Derived.Test.YtiilfpdjajacmaaBytes
namespace Go.Proofs.Ytiilfpdjajacmaa
open Go.ChangeShapes Go.WideShapes Go.ChangeAt Go.RowKit Go.Joins
set_option linter.unusedSimpArgs false
set_option linter.unusedVariables false
set_option maxHeartbeats 1000000 in
theorem walk_FnExactGetNumber (w : World) (v : Value) (l : List UInt8) (h : BytesAt w v l) (at' : Int) (ha : (Lit.int .i64 at').wf = true) (wide : Int) (hw : (Lit.int .i64 wide).wf = true) :
    Calls Try.prog 10 #[v, .int .i64 at', .int .i64 wide] w fun e w' => e = .returned (.bool true) ∧ Below w.heap.size w w' := by
  obtain ⟨a, cap, hv, hcap, hmax, hnone, hcell⟩ := h.form
  clear hnone hcell
  by_cases hl : (l.length : Int) ≤ 1048576
  · have hl' : l.length ≤ 1073741824 := by omega
    have H := Lib.hid h
    have HV := Lib.hid hv
    clear h
    subst hv
    go_enter Try.func10, Try.ntmps10
    go_wp2_with fail
    refine (toByteS_any w _ l H.out hl').mono ?_
    rintro e w1 ⟨r1, rfl, o1, h1⟩
    have F1 := (From.start w).call h1
    have A1 := H.out.below (Nat.le_refl _) h1
    have R1 := o1.reads
    clear h1 o1
    go_wp2_with fail
    refine (s_GetNumber w1 _ l R1 at' wide).mono ?_
    rintro e w2 ⟨rfl, rfl⟩
    go_wp2_with fail
    refine (toByteS_any w1 _ l A1 hl').mono ?_
    rintro e w3 ⟨r3, rfl, o3, h3⟩
    have F3 := F1.call h3
    have A3 := A1.below (Nat.le_refl _) h3
    have R3 := o3.reads
    clear h3 o3 F1 R1 A1
    go_wp2_with fail
    refine (i_GetNumber w3 _ l R3 at' wide).mono ?_
    rintro e w4 ⟨rfl, rfl⟩
    go_wp2_with fail
    refine (toByteS_any w3 _ l A3 hl').mono ?_
    rintro e w5 ⟨r5, rfl, o5, h5⟩
    have F5 := F3.call h5
    have A5 := R3.below (Nat.le_refl _) h5
    have R5 := o5.reads
    clear h5 o5 F3 R3 A3
    go_wp2_with fail
    refine (l_eqByteS w5 _ _ l l A5 R5).mono ?_
    rintro e w6 ⟨rfl, h6⟩
    have F6 := F5.call h6
    have e6 := eqB_self l
    clear h6 F5
    go_wp2_with fail
    go_ret
    exact ⟨rfl, F6.below⟩
  · subst hv
    have hl' : (1048576 : Int) < (l.length : Int) := by omega
    clear hl h
    unfold maxLen at hmax
    go_enter Try.func10, Try.ntmps10
    go_wp2_with fail
    go_ret
    exact ⟨rfl, Below.refl _ _⟩
set_option maxRecDepth 100000 in
theorem lifted_FnExactGetNumber (os : Os) (started : os.Started) (H : Type) (enc : TypeId × Value → H) :
    ReturnsInHanded {} Try.checked os 10 .any (Rows.fnExactGetNumberSpec.pre6 enc Try.prog Try.f10 Rows.fnExactGetNumberRow.domain false) (Rows.fnExactGetNumberSpec.post enc Try.prog Try.f10 false true false false) := by
  refine returnsInHanded_of_change (C := Try.checked) own_knob started (by kernel_rfl) Try.func10
    (ChangeSpec.witness6 (enc := enc) (C := Try.checked) false ⟨#[], #[.slice none 0 0, .int .i64 0, .int .i64 0], []⟩ 8 (by kernel_rfl) (by kernel_rfl) (by kernel_rfl) (by kernel_rfl)) ?_
  intro W base args ds gs before hval0 hW hcnd _
  have hval : ∀ (j : Nat) t v, Try.f10.params[j]? = some t → args[j]? = some v → Value.okWide Try.prog W .any base t v := hval0
  have hW' := hW
  obtain ⟨p, q, hA0, hV, rfl, hfz, hnd⟩ := hW
  have hA : DataW.TrodAll enc Try.prog W 0 (fun _ => true) true Try.f10.params.toList args.toList ds p := hA0
  rw [Try.params10] at hA hval
  obtain ⟨v0, vs0, d0, ds0, p0, q0, hargs, rfl, rfl, h0, r0⟩ := trodAll_cons hA
  obtain ⟨v1, vs1, d1, ds1, p1, q1, rfl, rfl, rfl, h1, r1⟩ := trodAll_cons r0
  obtain ⟨v2, vs2, d2, ds2, p2, q2, rfl, rfl, rfl, h2, r2⟩ := trodAll_cons r1
  obtain ⟨rfl, rfl, rfl⟩ := trodAll_nil r2
  obtain rfl : args = #[v0, v1, v2] := by cases args; simp_all
  obtain ⟨rfl, rfl⟩ := trodVars_none hV
  clear hA0 hval0
  have k0 := h0
  have t0 : ∀ x ∈ p0, x.block < W.heap.size := fun x hx => by simpa using hW'.lt x (by simp [hx])
  have k1 := h1
  have t1 : ∀ x ∈ p1, x.block < W.heap.size := fun x hx => by simpa using hW'.lt x (by simp [hx])
  have k2 := h2
  have t2 : ∀ x ∈ p2, x.block < W.heap.size := fun x hx => by simpa using hW'.lt x (by simp [hx])
  obtain ⟨l0, o0⟩ := open_bytesAt (hval 0 34 v0 rfl rfl) h0
  obtain ⟨a1, rfl, rfl, rfl, w1⟩ := open_int Try.underlying3 (hval 1 3 v1 rfl rfl) h1
  obtain ⟨a2, rfl, rfl, rfl, w2⟩ := open_int Try.underlying3 (hval 2 3 v2 rfl rfl) h2
  refine (walk_FnExactGetNumber W v0 l0 o0 a1 w1 a2 w2).mono fun e W' ⟨he, hg⟩ => ?_
  subst he
  exact ⟨_, rfl, _, _, _, _, _, _, hW', (trodAll_cons_mk (shut_bool Try.underlying4 _) trodAll_mk0), (trodAll_cons_mk (Below.trod laid_out (by kernel_rfl) (of_decide_eq_true (by kernel_rfl)) k0 hg t0) (trodAll_cons_mk (Below.trod laid_out (by kernel_rfl) (of_decide_eq_true (by kernel_rfl)) k1 hg t1) (trodAll_cons_mk (Below.trod laid_out (by kernel_rfl) (of_decide_eq_true (by kernel_rfl)) k2 hg t2) trodAll_mk0))), rfl, hg.frame _, fun h => by cases h⟩

theorem over_FnExactGetNumber : Rows.fnExactGetNumberRow.holds Try.pinned (OpenSpec.ofChange Rows.fnExactGetNumberSpec) :=
  OpenClaim.holds_of_wide 10 Try.f10 rfl rfl rfl rfl rfl rfl rfl ⟨rfl, rfl, rfl, rfl, rfl⟩ rfl rfl rfl rfl rfl (by kernel_rfl) Try.func10 (by kernel_rfl)
    (of_decide_eq_true (by kernel_rfl)) (by unfold Func.isWrapper; first | (rw [if_pos (by decide +kernel)]; kernel_rfl) | (rw [if_neg (by decide +kernel)]; exact ⟨rfl, rfl⟩))
    (fun os started H enc _ => lifted_FnExactGetNumber os started H enc)

/-- The statement. -/
theorem holds_FnExactGetNumber : Rows.FnExactGetNumberSaid :=
  over_FnExactGetNumber
#print axioms holds_FnExactGetNumber
end Go.Proofs.Ytiilfpdjajacmaa
