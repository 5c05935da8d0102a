/- Fixups fill bytes: each kind but the first one fills twice as many as the one before. No condition. -/
import Derived.Test.YtiilfpdjajacmaaFacts
import Derived.Test.YtiilfpdjajacmaaDrawK
import Derived.Test.YtiilfpdjajacmaaHead
namespace Go.Proofs.Ytiilfpdjajacmaa
open Go.ChangeShapes Go.WideShapes Go.ChangeAt Go.RowKit Go.Joins
set_option linter.unusedSimpArgs false
set_option linter.unusedVariables false
set_option maxRecDepth 100000
set_option maxHeartbeats 1000000 in
theorem walk_FnFixupWide (w : World) (v : Value) (l : List UInt8) (h : BytesAt w v l) :
    Calls Try.prog 13 #[v] w fun e w' => e = .returned (.bool true) ∧ Below w.heap.size w w' := by
  obtain ⟨a, cap, hv, hcap, hmax, hnone, hcell⟩ := h.form
  clear hnone hcell
  by_cases hl : (l.length : Int) ≤ 1048576
  · have H := Lib.hid h
    clear h
    subst hv
    unfold maxLen at hmax
    go_enter Try.func13, Try.ntmps13
    go_wp2_with fail
    refine (drawFixupWide_any _ _ l H.out).mono ?_
    rintro e w1 ⟨_, rfl, ⟨n, rfl, hn0, hn1⟩, hF⟩
    have HF := Lib.hid hF
    clear hF
    have hn : n = 0 ∨ n = 1 ∨ n = 2 ∨ n = 3 ∨ n = 4 := by omega
    rcases hn with rfl | rfl | rfl | rfl | rfl
    · have c1 : ∀ wx : World, Calls Try.prog 21 #[.int .i64 0] wx fun e w' => e = .returned (.int .i64 0) ∧ wx = w' := fun wx => fixupWide_any 0 wx
      have c2 : ∀ wx : World, Calls Try.prog 20 #[.int .i64 0] wx fun e w' => e = .returned (.int .i64 0) ∧ Below wx.heap.size wx w' := fun wx => sFixupWide_any 0 wx
      have c3 : ∀ wx : World, Calls Try.prog 21 #[.int .i64 9] wx fun e w' => e = .returned (.int .i64 0) ∧ wx = w' := fun wx => fixupWide_any 9 wx
      go_wp2_with fail
      refine (c1 _).mono ?_
      rintro e w2 ⟨rfl, rfl⟩
      go_wp2_with fail
      refine (c2 _).mono ?_
      rintro e w3 ⟨rfl, h3⟩
      have HF3 := Lib.hid (HF.out.call h3)
      clear h3
      go_wp2_with (first | (go_at_call 33; (with_reducible refine (alive_any _).mono ?_); rintro e w' ⟨rfl, rfl⟩) | (go_at_call 21; (with_reducible refine (c3 _).mono ?_); rintro e w' ⟨rfl, rfl⟩))
      go_ret
      exact ⟨rfl, HF3.out.below⟩
    · have c1 : ∀ wx : World, Calls Try.prog 21 #[.int .i64 1] wx fun e w' => e = .returned (.int .i64 1) ∧ wx = w' := fun wx => fixupWide_any 1 wx
      have c2 : ∀ wx : World, Calls Try.prog 20 #[.int .i64 1] wx fun e w' => e = .returned (.int .i64 1) ∧ Below wx.heap.size wx w' := fun wx => sFixupWide_any 1 wx
      have c3 : ∀ wx : World, Calls Try.prog 21 #[.int .i64 0] wx fun e w' => e = .returned (.int .i64 0) ∧ wx = w' := fun wx => fixupWide_any 0 wx
      go_wp2_with fail
      refine (c1 _).mono ?_
      rintro e w2 ⟨rfl, rfl⟩
      go_wp2_with fail
      refine (c2 _).mono ?_
      rintro e w3 ⟨rfl, h3⟩
      have HF3 := Lib.hid (HF.out.call h3)
      clear h3
      go_wp2_with (first | (go_at_call 33; (with_reducible refine (alive_any _).mono ?_); rintro e w' ⟨rfl, rfl⟩) | (go_at_call 21; (with_reducible refine (c3 _).mono ?_); rintro e w' ⟨rfl, rfl⟩))
      go_ret
      exact ⟨rfl, HF3.out.below⟩
    · have c1 : ∀ wx : World, Calls Try.prog 21 #[.int .i64 2] wx fun e w' => e = .returned (.int .i64 2) ∧ wx = w' := fun wx => fixupWide_any 2 wx
      have c2 : ∀ wx : World, Calls Try.prog 20 #[.int .i64 2] wx fun e w' => e = .returned (.int .i64 2) ∧ Below wx.heap.size wx w' := fun wx => sFixupWide_any 2 wx
      have c3 : ∀ wx : World, Calls Try.prog 21 #[.int .i64 1] wx fun e w' => e = .returned (.int .i64 1) ∧ wx = w' := fun wx => fixupWide_any 1 wx
      go_wp2_with fail
      refine (c1 _).mono ?_
      rintro e w2 ⟨rfl, rfl⟩
      go_wp2_with fail
      refine (c2 _).mono ?_
      rintro e w3 ⟨rfl, h3⟩
      have HF3 := Lib.hid (HF.out.call h3)
      clear h3
      go_wp2_with (first | (go_at_call 33; (with_reducible refine (alive_any _).mono ?_); rintro e w' ⟨rfl, rfl⟩) | (go_at_call 21; (with_reducible refine (c3 _).mono ?_); rintro e w' ⟨rfl, rfl⟩))
      go_ret
      exact ⟨rfl, HF3.out.below⟩
    · have c1 : ∀ wx : World, Calls Try.prog 21 #[.int .i64 3] wx fun e w' => e = .returned (.int .i64 4) ∧ wx = w' := fun wx => fixupWide_any 3 wx
      have c2 : ∀ wx : World, Calls Try.prog 20 #[.int .i64 3] wx fun e w' => e = .returned (.int .i64 4) ∧ Below wx.heap.size wx w' := fun wx => sFixupWide_any 3 wx
      have c3 : ∀ wx : World, Calls Try.prog 21 #[.int .i64 2] wx fun e w' => e = .returned (.int .i64 2) ∧ wx = w' := fun wx => fixupWide_any 2 wx
      go_wp2_with fail
      refine (c1 _).mono ?_
      rintro e w2 ⟨rfl, rfl⟩
      go_wp2_with fail
      refine (c2 _).mono ?_
      rintro e w3 ⟨rfl, h3⟩
      have HF3 := Lib.hid (HF.out.call h3)
      clear h3
      go_wp2_with (first | (go_at_call 33; (with_reducible refine (alive_any _).mono ?_); rintro e w' ⟨rfl, rfl⟩) | (go_at_call 21; (with_reducible refine (c3 _).mono ?_); rintro e w' ⟨rfl, rfl⟩))
      go_ret
      exact ⟨rfl, HF3.out.below⟩
    · have c1 : ∀ wx : World, Calls Try.prog 21 #[.int .i64 4] wx fun e w' => e = .returned (.int .i64 0) ∧ wx = w' := fun wx => fixupWide_any 4 wx
      have c2 : ∀ wx : World, Calls Try.prog 20 #[.int .i64 4] wx fun e w' => e = .returned (.int .i64 0) ∧ Below wx.heap.size wx w' := fun wx => sFixupWide_any 4 wx
      have c3 : ∀ wx : World, Calls Try.prog 21 #[.int .i64 3] wx fun e w' => e = .returned (.int .i64 4) ∧ wx = w' := fun wx => fixupWide_any 3 wx
      go_wp2_with fail
      refine (c1 _).mono ?_
      rintro e w2 ⟨rfl, rfl⟩
      go_wp2_with fail
      refine (c2 _).mono ?_
      rintro e w3 ⟨rfl, h3⟩
      have HF3 := Lib.hid (HF.out.call h3)
      clear h3
      go_wp2_with (first | (go_at_call 33; (with_reducible refine (alive_any _).mono ?_); rintro e w' ⟨rfl, rfl⟩) | (go_at_call 21; (with_reducible refine (c3 _).mono ?_); rintro e w' ⟨rfl, rfl⟩))
      go_ret
      exact ⟨rfl, HF3.out.below⟩
  · subst hv
    have hl' : (1048576 : Int) < (l.length : Int) := by omega
    clear hl h
    unfold maxLen at hmax
    go_enter Try.func13, Try.ntmps13
    go_wp2_with fail
    go_ret
    exact ⟨rfl, Below.refl _ _⟩
set_option maxRecDepth 100000 in
theorem lifted_FnFixupWide (os : Os) (started : os.Started) (H : Type) (enc : TypeId × Value → H) :
    ReturnsInHanded {} Try.checked os 13 .any (Rows.fnFixupWideSpec.pre6 enc Try.prog Try.f13 Rows.fnFixupWideRow.domain false) (Rows.fnFixupWideSpec.post enc Try.prog Try.f13 false true false false) := by
  refine returnsInHanded_of_change (C := Try.checked) own_knob started (by kernel_rfl) Try.func13
    (ChangeSpec.witness6 (enc := enc) (C := Try.checked) false ⟨#[], #[.slice none 0 0], []⟩ 8 (by kernel_rfl) (by kernel_rfl) (by kernel_rfl) (by kernel_rfl)) ?_
  intro W base args ds gs before hval0 hW hcnd _
  have hval : ∀ (j : Nat) t v, Try.f13.params[j]? = some t → args[j]? = some v → Value.okWide Try.prog W .any base t v := hval0
  have hW' := hW
  obtain ⟨p, q, hA0, hV, rfl, hfz, hnd⟩ := hW
  have hA : DataW.TrodAll enc Try.prog W 0 (fun _ => true) true Try.f13.params.toList args.toList ds p := hA0
  rw [Try.params13] at hA hval
  obtain ⟨v0, vs0, d0, ds0, p0, q0, hargs, rfl, rfl, h0, r0⟩ := trodAll_cons hA
  obtain ⟨rfl, rfl, rfl⟩ := trodAll_nil r0
  obtain rfl : args = #[v0] := by cases args; simp_all
  obtain ⟨rfl, rfl⟩ := trodVars_none hV
  clear hA0 hval0
  have k0 := h0
  have t0 : ∀ x ∈ p0, x.block < W.heap.size := fun x hx => by simpa using hW'.lt x (by simp [hx])
  obtain ⟨l0, o0⟩ := open_bytesAt (hval 0 34 v0 rfl rfl) h0
  refine (walk_FnFixupWide W v0 l0 o0).mono fun e W' ⟨he, hg⟩ => ?_
  subst he
  exact ⟨_, rfl, _, _, _, _, _, _, hW', (trodAll_cons_mk (shut_bool Try.underlying4 _) trodAll_mk0), (trodAll_cons_mk (Below.trod laid_out (by kernel_rfl) (of_decide_eq_true (by kernel_rfl)) k0 hg t0) trodAll_mk0), rfl, hg.frame _, fun h => by cases h⟩

theorem facts_FnFixupWide : joinedFacts Try.prog 13 Try.f13 Rows.fnFixupWideSpec Rows.fnFixupWideRow = true := by
  unfold joinedFacts
  simp only [Bool.and_eq_true]
  repeat' apply And.intro
  all_goals first
    | with_reducible exact laid_out
    | with_reducible exact may_enter
    | (with_reducible rw [lifts_final]; as_aux_lemma => kernel_rfl)
    | (with_reducible rw [make_cut]; as_aux_lemma => kernel_rfl)
    | as_aux_lemma => kernel_rfl
theorem inst_FnFixupWide : Try.f13.isInstance Try.prog Rows.fnFixupWideRow.origin Rows.fnFixupWideRow.targs := of_decide_eq_true (by kernel_rfl)
theorem wrap_FnFixupWide : Try.f13.isWrapper Try.prog Rows.fnFixupWideRow.wrapper Rows.fnFixupWideRow.mainSum := by
  unfold Func.isWrapper
  first | (rw [if_pos (by decide +kernel)]; kernel_rfl) | (rw [if_neg (by decide +kernel)]; exact ⟨rfl, rfl⟩)
theorem named_FnFixupWide : Try.prog.funcNamed Rows.fnFixupWideRow.func = some 13 := by kernel_rfl
theorem over_FnFixupWide : Rows.fnFixupWideRow.holds Try.pinned (OpenSpec.ofChange Rows.fnFixupWideSpec) :=
  OpenClaim.holds_of_wide 13 Try.f13 rfl rfl rfl rfl rfl rfl rfl ⟨rfl, rfl, rfl, rfl, rfl⟩ rfl rfl rfl rfl rfl named_FnFixupWide Try.func13 facts_FnFixupWide inst_FnFixupWide wrap_FnFixupWide
    (fun os started H enc _ => lifted_FnFixupWide os started H enc)

/-- The statement. -/
theorem holds_FnFixupWide : Rows.FnFixupWideSaid :=
  over_FnFixupWide
#print axioms holds_FnFixupWide
end Go.Proofs.Ytiilfpdjajacmaa
