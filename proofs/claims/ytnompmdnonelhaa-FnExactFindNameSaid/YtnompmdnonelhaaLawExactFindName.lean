/- The program's FindName returns what the reference's returns, for all arguments. No condition. -/
import Derived.Test.YtnompmdnonelhaaFacts
import Derived.Test.YtnompmdnonelhaaFindX
namespace Go.Proofs.Ytnompmdnonelhaa
open Go.ChangeShapes Go.WideShapes Go.ChangeAt Go.RowKit Go.Joins
set_option linter.unusedSimpArgs false
set_option linter.unusedVariables false
set_option maxRecDepth 100000
theorem objsLen_wf {l : List ObjD} (h : ∀ o ∈ l, objWf o) : ObjsLen l := fun o ho => ⟨fun s hs => ((h o ho).1 s hs).1, fun s hs => ((h o ho).2 s hs).1⟩
set_option maxHeartbeats 1000000 in
theorem walk_FnExactFindName (w : World) (v : Value) (l : List ObjD) (oo : ObjsAt w v l ∧ ∀ o ∈ l, objWf o) (nm : ByteArray) (hn : nm.size ≤ maxLen) :
    Calls Try.prog 13 #[v, .string nm] w fun e w' => e = .returned (.bool true) ∧ Below w.heap.size w w' := by
  obtain ⟨h1, hw⟩ := oo
  have HN := Lib.hid (objsLen_wf hw)
  have H1 := Lib.hid h1
  obtain ⟨a, cap, rfl, hcap, hmax, -⟩ := h1.each
  unfold maxLen at hmax hn
  clear hw h1
  by_cases hnm : (1048576 : Int) < (nm.size : Int)
  · go_enter Try.func13, Try.ntmps13
    go_wp2_with fail
    go_ret
    exact ⟨rfl, Below.refl _ _⟩
  have n0 := objsCost_nonneg l
  by_cases hc : (l.length : Int) + objsCost l ≤ 1048576
  case neg =>
    have E : szV 1048576 ((l.length : Int) + objsCost l) = -1 := by unfold szV; rw [if_neg hc]
    clear hc n0
    go_enter Try.func13, Try.ntmps13
    go_wp2_with fail
    refine (szObjectS_any _ _ l H1.out HN.out 1048576 (by omega) (by omega)).mono ?_
    rw [E]
    rintro e w1 ⟨rfl, g1⟩
    go_wp2_with fail
    go_ret
    exact ⟨rfl, g1⟩
  have HW := Lib.hid (few_objs (show objsCost l ≤ 1048576 by omega))
  have HLl : Hid (l.length ≤ 1048576) := by show _ ≤ _; omega
  have E : szV 1048576 ((l.length : Int) + objsCost l) = 1048576 - ((l.length : Int) + objsCost l) := by unfold szV; rw [if_pos hc]
  obtain ⟨L, hL⟩ : ∃ L, 1048576 - ((l.length : Int) + objsCost l) = L := ⟨_, rfl⟩
  have z0 : 0 ≤ L := by omega
  rw [hL] at E
  clear hL hc n0
  go_enter Try.func13, Try.ntmps13
  go_wp2_with fail
  refine (szObjectS_any _ _ l H1.out HN.out 1048576 (by omega) (by omega)).mono ?_
  rw [E]
  rintro e w1 ⟨rfl, g1⟩
  have F1 := Lib.hid ((From.start w).call g1)
  clear g1 E
  go_wp2_with fail
  refine (toObjectS_any _ _ l (H1.out.below (Nat.le_refl _) F1.out.below) HLl.out HW.out).mono ?_
  rintro e w2 ⟨r2, rfl, o2, g2⟩
  have F2 := Lib.hid (F1.out.call g2)
  clear g2 F1
  go_wp2_with fail
  refine (s_FindName _ _ l o2 HN.out nm).mono ?_
  rintro e w3 ⟨rfl, g3⟩
  have F3 := Lib.hid (F2.out.call g3)
  clear g3 F2 o2
  obtain ⟨R, hR⟩ : ∃ R, findV l nm = R := ⟨_, rfl⟩
  have HR := Lib.hid hR
  rw [hR]
  clear hR
  unfold giveV
  obtain ⟨p, hp⟩ : ∃ p, R.getD (0, 0) = p := ⟨_, rfl⟩
  obtain ⟨f, hf⟩ : ∃ f, R.isSome = f := ⟨_, rfl⟩
  obtain ⟨p1, p2⟩ := p
  rw [hp, hf]
  have HV : Hid (giveV (findV l nm) = .agg #[.int .i64 p1, .int .i64 p2] ∧ (findV l nm).isSome = f) := by show _ ∧ _; rw [HR.out]; unfold giveV; rw [hp, hf]; exact ⟨rfl, rfl⟩
  clear hp hf HR
  go_wp2_with fail
  have hb4 := Blk.new w3 #[.int .i64 p1, .int .i64 p2] 50
  have HB4 := Lib.hid hb4
  have F4 := Lib.hid (F3.out.alloc (.cells #[.int .i64 p1, .int .i64 p2] 50))
  clear hb4 F3
  generalize hw4 : w3.alloc (.cells #[.int .i64 p1, .int .i64 p2] 50) = w4 at HB4 F4 ⊢
  clear hw4
  generalize w3.heap.size = z3 at *
  refine (toObjectS_any _ _ l (H1.out.below (Nat.le_refl _) F4.out.below) HLl.out HW.out).mono ?_
  rintro e w5 ⟨r4, rfl, o4, g4⟩
  have F5 := Lib.hid (F4.out.call g4)
  have HB5 := Lib.hid (HB4.out.call g4)
  have R4 := Lib.hid o4
  obtain ⟨ra, rc, rfl, -⟩ := o4.each
  clear g4 F4 HB4 o4
  go_wp2_with fail
  refine (i_FindName _ _ l R4.out HN.out nm).mono ?_
  rintro e w6 ⟨rfl, g5⟩
  have F6 := Lib.hid (F5.out.call g5)
  have HB6 := Lib.hid (HB5.out.call g5)
  have R5 := Lib.hid (R4.out.below (Nat.le_refl _) g5)
  rw [HV.out.1, HV.out.2]
  clear g5 F5 R4 HB5 HV
  have cb := HB6.out.cell
  have zb := HB6.out.lt
  go_wp2_with fail
  have F7 := Lib.hid (F6.out.alloc (.cells #[.int .i64 p1, .int .i64 p2] 50))
  have HA := Lib.hid ((From.start w6).alloc (.cells #[.int .i64 p1, .int .i64 p2] 50))
  generalize hw7 : w6.alloc (.cells #[.int .i64 p1, .int .i64 p2] 50) = w7 at F7 HA ⊢
  have R7 := Lib.hid (R5.out.below (Nat.le_refl _) HA.out.below)
  clear hw7 R5 HA cb zb HB6 F6
  generalize w6.heap.size = z6 at *
  refine (eqGiven_same p1 p2 w7).mono ?_
  rintro e w8 ⟨rfl, g8⟩
  have F8 := Lib.hid (F7.out.call g8)
  have R8 := Lib.hid (R7.out.below (Nat.le_refl _) g8)
  clear g8 F7 R7
  go_wp2_with fail
  refine (toObjectS_any _ _ l (H1.out.below (Nat.le_refl _) F8.out.below) HLl.out HW.out).mono ?_
  rintro e w9 ⟨r6, rfl, o6, g9⟩
  have F9 := Lib.hid (F8.out.call g9)
  have R9 := Lib.hid (R8.out.below (Nat.le_refl _) g9)
  clear g9 F8 R8
  go_wp2_with fail
  refine (eqObjectS_same _ _ _ l R9.out o6).mono ?_
  rintro e w10 ⟨rfl, g10⟩
  have F10 := Lib.hid (F9.out.call g10)
  clear g10 F9 R9 o6
  go_wp2_with fail
  go_ret
  exact ⟨rfl, F10.out.below⟩
set_option maxRecDepth 100000 in
theorem lifted_FnExactFindName (os : Os) (started : os.Started) (H : Type) (enc : TypeId × Value → H) :
    ReturnsInHanded {} Try.checked os 13 .any (Rows.fnExactFindNameSpec.pre6 enc Try.prog Try.f13 Rows.fnExactFindNameRow.domain false) (Rows.fnExactFindNameSpec.post enc Try.prog Try.f13 false true false false) := by
  refine returnsInHanded_of_change (C := Try.checked) own_knob started (by kernel_rfl) Try.func13
    (ChangeSpec.witness6 (enc := enc) (C := Try.checked) false ⟨#[], #[.slice none 0 0, .string ⟨#[]⟩], []⟩ 8 (by kernel_rfl) (by kernel_rfl) (by kernel_rfl) (by kernel_rfl)) ?_
  intro W base args ds gs before hval0 hW hcnd _
  have hval : ∀ (j : Nat) t v, Try.f13.params[j]? = some t → args[j]? = some v → Value.okWide Try.prog W .any base t v := hval0
  have hW' := hW
  obtain ⟨p, q, hA0, hV, rfl, hfz, hnd⟩ := hW
  have hA : DataW.TrodAll enc Try.prog W 0 (fun _ => true) true Try.f13.params.toList args.toList ds p := hA0
  rw [Try.params13] at hA hval
  obtain ⟨v0, vs0, d0, ds0, p0, q0, hargs, rfl, rfl, h0, r0⟩ := trodAll_cons hA
  obtain ⟨v1, vs1, d1, ds1, p1, q1, rfl, rfl, rfl, h1, r1⟩ := trodAll_cons r0
  obtain ⟨rfl, rfl, rfl⟩ := trodAll_nil r1
  obtain rfl : args = #[v0, v1] := by cases args; simp_all
  obtain ⟨rfl, rfl⟩ := trodVars_none hV
  clear hA0 hval0
  have k0 := h0
  have t0 : ∀ x ∈ p0, x.block < W.heap.size := fun x hx => by simpa using hW'.lt x (by simp [hx])
  have k1 := h1
  have t1 : ∀ x ∈ p1, x.block < W.heap.size := fun x hx => by simpa using hW'.lt x (by simp [hx])
  obtain ⟨x0, o0⟩ := open_objectsAt (hval 0 66 v0 rfl rfl) h0
  obtain ⟨s1, rfl, rfl, rfl, w1⟩ := ChangeMaps.open_string Try.underlying9 (hval 1 9 v1 rfl rfl) h1
  refine (walk_FnExactFindName W v0 x0 o0 s1 w1).mono fun e W' ⟨he, hg⟩ => ?_
  subst he
  exact ⟨_, rfl, _, _, _, _, _, _, hW', (trodAll_cons_mk (shut_bool Try.underlying4 _) trodAll_mk0), (trodAll_cons_mk (Below.trod laid_out (by kernel_rfl) (of_decide_eq_true (by kernel_rfl)) k0 hg t0) (trodAll_cons_mk (Below.trod laid_out (by kernel_rfl) (of_decide_eq_true (by kernel_rfl)) k1 hg t1) trodAll_mk0)), rfl, hg.frame _, fun h => by cases h⟩

theorem facts_FnExactFindName : joinedFacts Try.prog 13 Try.f13 Rows.fnExactFindNameSpec Rows.fnExactFindNameRow = true := by
  unfold joinedFacts
  simp only [Bool.and_eq_true]
  repeat' apply And.intro
  all_goals first
    | with_reducible exact laid_out
    | with_reducible exact may_enter
    | (with_reducible rw [lifts_final]; as_aux_lemma => kernel_rfl)
    | (with_reducible rw [make_cut]; as_aux_lemma => kernel_rfl)
    | as_aux_lemma => kernel_rfl
theorem inst_FnExactFindName : Try.f13.isInstance Try.prog Rows.fnExactFindNameRow.origin Rows.fnExactFindNameRow.targs := of_decide_eq_true (by kernel_rfl)
theorem wrap_FnExactFindName : Try.f13.isWrapper Try.prog Rows.fnExactFindNameRow.wrapper Rows.fnExactFindNameRow.mainSum := by
  unfold Func.isWrapper
  first | (rw [if_pos (by decide +kernel)]; kernel_rfl) | (rw [if_neg (by decide +kernel)]; exact ⟨rfl, rfl⟩)
theorem named_FnExactFindName : Try.prog.funcNamed Rows.fnExactFindNameRow.func = some 13 := by kernel_rfl
theorem over_FnExactFindName : Rows.fnExactFindNameRow.holds Try.pinned (OpenSpec.ofChange Rows.fnExactFindNameSpec) :=
  OpenClaim.holds_of_wide 13 Try.f13 rfl rfl rfl rfl rfl rfl rfl ⟨rfl, rfl, rfl, rfl, rfl⟩ rfl rfl rfl rfl rfl named_FnExactFindName Try.func13 facts_FnExactFindName inst_FnExactFindName wrap_FnExactFindName
    (fun os started H enc _ => lifted_FnExactFindName os started H enc)

/-- The statement. -/
theorem holds_FnExactFindName : Rows.FnExactFindNameSaid :=
  over_FnExactFindName
#print axioms holds_FnExactFindName
end Go.Proofs.Ytnompmdnonelhaa
