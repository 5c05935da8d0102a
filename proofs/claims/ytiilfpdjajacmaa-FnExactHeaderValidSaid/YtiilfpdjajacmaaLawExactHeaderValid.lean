/- The program's HeaderValid returns what the reference's returns, for all arguments. No condition. -/
import Derived.Test.YtiilfpdjajacmaaBase
import Derived.Test.YtiilfpdjajacmaaNum
import Derived.Test.YtiilfpdjajacmaaHead
namespace Go.Proofs.Ytiilfpdjajacmaa
open Go.ChangeShapes Go.WideShapes Go.ChangeAt Go.RowKit Go.Joins
set_option linter.unusedSimpArgs false
set_option linter.unusedVariables false
set_option maxHeartbeats 1000000 in
theorem walk_FnExactHeaderValid (w : World) (v : Value) (x : Int × Int × Int × Int) (hv : v = headerV x.1 x.2.1 x.2.2.1 x.2.2.2) :
    Calls Try.prog 4 #[v] w fun e w' => e = .returned (.bool true) ∧ Below w.heap.size w w' := by
  obtain ⟨a, b, c, d⟩ := x
  subst hv
  go_enter Try.func4, Try.ntmps4
  go_wp2_with fail
  refine (toHeader_any _ _ _ _ _).mono ?_
  rintro e w1 ⟨rfl, h1⟩
  have F1 := ((From.start w).alloc _).call h1
  have b1 := (Blk.new w _ _).call h1
  go_wp2_with fail
  refine (s_HeaderValid _ _ _ _ _).mono ?_
  rintro e w2 ⟨rfl, h2⟩
  have F2 := F1.call h2
  have b2 := b1.call h2
  have c2 := b2.cell
  clear h1 h2 F1 b1
  go_wp2_with fail
  refine (toHeader_any _ _ _ _ _).mono ?_
  rintro e w3 ⟨rfl, h3⟩
  have F3 := F2.call h3
  clear h3 F2
  go_wp2_with fail
  refine (i_HeaderValid _ _ _ _ _).mono ?_
  rintro e w4 ⟨rfl, h4⟩
  have F4 := F3.call h4
  clear h4 F3
  go_wp2
  go_ret
  exact ⟨rfl, F4.below⟩
set_option maxRecDepth 100000 in
theorem lifted_FnExactHeaderValid (os : Os) (started : os.Started) (H : Type) (enc : TypeId × Value → H) :
    ReturnsInHanded {} Try.checked os 4 .any (Rows.fnExactHeaderValidSpec.pre6 enc Try.prog Try.f4 Rows.fnExactHeaderValidRow.domain false) (Rows.fnExactHeaderValidSpec.post enc Try.prog Try.f4 false true false false) := by
  refine returnsInHanded_of_change (C := Try.checked) own_knob started (by kernel_rfl) Try.func4
    (ChangeSpec.witness6 (enc := enc) (C := Try.checked) false ⟨#[], #[.agg #[.int .i64 0, .int .i64 0, .int .i64 0, .int .i64 0]], []⟩ 8 (by kernel_rfl) (by kernel_rfl) (by kernel_rfl) (by kernel_rfl)) ?_
  intro W base args ds gs before hval0 hW hcnd _
  have hval : ∀ (j : Nat) t v, Try.f4.params[j]? = some t → args[j]? = some v → Value.okWide Try.prog W .any base t v := hval0
  have hW' := hW
  obtain ⟨p, q, hA0, hV, rfl, hfz, hnd⟩ := hW
  have hA : DataW.TrodAll enc Try.prog W 0 (fun _ => true) true Try.f4.params.toList args.toList ds p := hA0
  rw [Try.params4] at hA hval
  obtain ⟨v0, vs0, d0, ds0, p0, q0, hargs, rfl, rfl, h0, r0⟩ := trodAll_cons hA
  obtain ⟨rfl, rfl, rfl⟩ := trodAll_nil r0
  obtain rfl : args = #[v0] := by cases args; simp_all
  obtain ⟨rfl, rfl⟩ := trodVars_none hV
  clear hA0 hval0
  have k0 := h0
  have t0 : ∀ x ∈ p0, x.block < W.heap.size := fun x hx => by simpa using hW'.lt x (by simp [hx])
  obtain ⟨x0, o0⟩ := open_headerAt (hval 0 24 v0 rfl rfl) h0
  refine (walk_FnExactHeaderValid W v0 x0 o0).mono fun e W' ⟨he, hg⟩ => ?_
  subst he
  exact ⟨_, rfl, _, _, _, _, _, _, hW', (trodAll_cons_mk (shut_bool Try.underlying4 _) trodAll_mk0), (trodAll_cons_mk (Below.trod laid_out (by kernel_rfl) (of_decide_eq_true (by kernel_rfl)) k0 hg t0) trodAll_mk0), rfl, hg.frame _, fun h => by cases h⟩

theorem over_FnExactHeaderValid : Rows.fnExactHeaderValidRow.holds Try.pinned (OpenSpec.ofChange Rows.fnExactHeaderValidSpec) :=
  OpenClaim.holds_of_wide 4 Try.f4 rfl rfl rfl rfl rfl rfl rfl ⟨rfl, rfl, rfl, rfl, rfl⟩ rfl rfl rfl rfl rfl (by kernel_rfl) Try.func4 (by kernel_rfl)
    (of_decide_eq_true (by kernel_rfl)) (by unfold Func.isWrapper; first | (rw [if_pos (by decide +kernel)]; kernel_rfl) | (rw [if_neg (by decide +kernel)]; exact ⟨rfl, rfl⟩))
    (fun os started H enc _ => lifted_FnExactHeaderValid os started H enc)

/-- The statement. -/
theorem holds_FnExactHeaderValid : Rows.FnExactHeaderValidSaid :=
  over_FnExactHeaderValid
#print axioms holds_FnExactHeaderValid
end Go.Proofs.Ytiilfpdjajacmaa
