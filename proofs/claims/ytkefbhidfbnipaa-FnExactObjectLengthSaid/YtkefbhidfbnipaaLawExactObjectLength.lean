/- The program's ObjectLength returns what the reference's returns, for all arguments. No condition. -/
import Derived.Test.YtkefbhidfbnipaaBase
import Derived.Test.YtkefbhidfbnipaaLen
import Derived.Test.YtkefbhidfbnipaaObjX
import Derived.Test.YtkefbhidfbnipaaOpen
namespace Go.Proofs.Ytkefbhidfbnipaa
open Go.ChangeShapes Go.WideShapes Go.ChangeAt Go.RowKit Go.Joins
set_option linter.unusedSimpArgs false
set_option linter.unusedVariables false
set_option maxRecDepth 100000
set_option maxHeartbeats 1000000 in
theorem walk_FnExactObjectLength (w : World) (v : Value) (o : ObjD) (oo : ObjAt w v o ∧ objWf o) :
    Calls Try.prog 4 #[v] w fun e w' => e = .returned (.bool true) ∧ Below w.heap.size w w' := by
  obtain ⟨h1, hw⟩ := oo
  have hs : (∀ s ∈ o.secs, s.name.size ≤ maxLen) ∧ ∀ s ∈ o.syms, s.name.size ≤ maxLen := ⟨fun s h => (hw.1 s h).1, fun s h => (hw.2 s h).1⟩
  have HN := Lib.hid hs
  have H1 := Lib.hid h1
  obtain ⟨xa, xc, ya, yc, rfl⟩ := h1.agg
  clear hw hs h1
  have n0 := objCost_nonneg o
  by_cases hc : objCost o ≤ 1048576
  case neg =>
    have E : szV 1048576 (objCost o) = -1 := by unfold szV; rw [if_neg hc]
    clear hc n0
    go_enter Try.func4, Try.ntmps4
    go_wp2_with fail
    refine (szObject_any _ _ o (H1.out.below (Nat.le_refl _) ((From.start w).alloc _).below) HN.out 1048576 (by omega) (by omega)).mono ?_
    rw [E]
    rintro e w1 ⟨rfl, g1⟩
    have F1 := ((From.start w).alloc _).call g1
    clear g1
    go_wp2_with fail
    go_ret
    exact ⟨rfl, F1.below⟩
  have HW := Lib.hid (few_obj hc)
  have E : szV 1048576 (objCost o) = 1048576 - objCost o := by unfold szV; rw [if_pos hc]
  obtain ⟨L, hL⟩ : ∃ L, 1048576 - objCost o = L := ⟨_, rfl⟩
  have z0 : 0 ≤ L := by omega
  rw [hL] at E
  clear hL hc n0
  obtain ⟨T, hT⟩ : ∃ T, lenO o = T := ⟨_, rfl⟩
  have HT := Lib.hid hT
  have eT : (T != T) = false := by simp
  clear hT
  go_enter Try.func4, Try.ntmps4
  go_wp2_with fail
  refine (szObject_any _ _ o (H1.out.below (Nat.le_refl _) ((From.start w).alloc _).below) HN.out 1048576 (by omega) (by omega)).mono ?_
  rw [E]
  rintro e w1 ⟨rfl, g1⟩
  have F1 := Lib.hid (((From.start w).alloc _).call g1)
  have HB1 := Lib.hid ((Blk.newAt w _ _ w.heap.size rfl).call g1)
  have H2 := Lib.hid (H1.out.below (Nat.le_refl _) F1.out.below)
  have c := HB1.out.cell
  clear g1 E H1
  go_wp2_with fail
  refine (toObject_any _ _ o H2.out HW.out).mono ?_
  rintro e w2 ⟨r2, rfl, o2, g2⟩
  have F2 := Lib.hid (F1.out.call g2)
  have HB2 := Lib.hid (HB1.out.call g2)
  have H3 := Lib.hid (H2.out.below (Nat.le_refl _) g2)
  have R2 := o2.reads
  clear c
  have c := HB2.out.cell
  clear g2 F1 HB1 H2 o2
  go_wp2_with fail
  refine (s_ObjectLength _ _ o R2 HN.out).mono ?_
  rw [HT.out]
  rintro e w3 ⟨rfl, g3⟩
  have F3 := Lib.hid (F2.out.call g3)
  have HB3 := Lib.hid (HB2.out.call g3)
  have H4 := Lib.hid (H3.out.below (Nat.le_refl _) g3)
  clear c
  have c := HB3.out.cell
  clear g3 F2 HB2 H3 R2
  go_wp2_with fail
  refine (toObject_any _ _ o H4.out HW.out).mono ?_
  rintro e w4 ⟨r4, rfl, o4, g4⟩
  have F4 := Lib.hid (F3.out.call g4)
  have HB4 := Lib.hid (HB3.out.call g4)
  have H5 := Lib.hid (H4.out.below (Nat.le_refl _) g4)
  have R4 := Lib.hid o4.reads
  obtain ⟨ra, rc, rb, rd, rfl⟩ := R4.out.agg
  clear c
  have c := HB4.out.cell
  clear g4 F3 HB3 H4 o4
  go_wp2_with fail
  have X5 := (From.start w4).alloc (.cells #[.slice ra o.secs.length rc, .slice rb o.syms.length rd] 26)
  have BX0 := Lib.hid (Blk.newAt w4 #[.slice ra o.secs.length rc, .slice rb o.syms.length rd] 26 w4.heap.size rfl)
  refine (i_ObjectLength _ _ o (R4.out.below (Nat.le_refl _) X5.below) HN.out).mono ?_
  rw [HT.out]
  rintro e w5 ⟨rfl, g5⟩
  have HX5 := Lib.hid (X5.call g5)
  have F5 := Lib.hid (F4.out.call HX5.out.below)
  have H6 := Lib.hid (H5.out.below (Nat.le_refl _) HX5.out.below)
  have HB5 := Lib.hid (HB4.out.call HX5.out.below)
  have R5 := Lib.hid (R4.out.below (Nat.le_refl _) HX5.out.below)
  have HBX := Lib.hid (BX0.out.call g5)
  clear c g5 F4 HB4 H5 R4 X5 HX5 BX0
  have c := HB5.out.cell
  have cx := HBX.out.cell
  go_wp2_with fail
  have keepS : ∀ u, From w5.heap.size w5 u → (∀ o', u.cell? ⟨w.heap.size, o', none⟩ = #[Value.slice xa o.secs.length xc, Value.slice ya o.syms.length yc][o']?) ∧
      (∀ o', u.cell? ⟨w4.heap.size, o', none⟩ = #[Value.slice ra o.secs.length rc, Value.slice rb o.syms.length rd][o']?) ∧ From w5.heap.size w5 u := fun u hu => ⟨(HB5.out.call hu.below).cell, (HBX.out.call hu.below).cell, hu⟩
  have first := keepS _ (From.start w5)
  clear c cx
  go_region_held3 (fun u => (∀ o', u.cell? ⟨w.heap.size, o', none⟩ = #[Value.slice xa o.secs.length xc, Value.slice ya o.syms.length yc][o']?) ∧
      (∀ o', u.cell? ⟨w4.heap.size, o', none⟩ = #[Value.slice ra o.secs.length rc, Value.slice rb o.syms.length rd][o']?) ∧ From w5.heap.size w5 u)
    (first | assumption | exact keepS _ (From.drew (From.start w5)) | exact keepS _ (From.call (‹_ ∧ _ ∧ From _ _ _›).2.2 (by assumption)))
    (first
      | (go_at_call 16; refine (toObject_any _ _ o (H6.out.below (Nat.le_refl _) (‹_ ∧ _ ∧ From _ _ _›).2.2.below) HW.out).mono ?_; rintro e w6 ⟨r6, rfl, o6, g6⟩; have Q6 := o6.reads)
      | (go_at_call 17; refine (eqObject_same _ _ _ o (R5.out.below (Nat.le_refl _) (‹_ ∧ _ ∧ From _ _ _›).2.2.below) (by assumption)).mono ?_; rintro e w7 ⟨rfl, g7⟩))
  have HL := Lib.hid (F5.out.trans (‹_ ∧ _ ∧ From w5.heap.size w5 _›.2.2.below.mono F5.out.le))
  clear keepS first
  go_wp2_with fail
  go_ret
  exact ⟨rfl, HL.out.below⟩
set_option maxRecDepth 100000 in
theorem lifted_FnExactObjectLength (os : Os) (started : os.Started) (H : Type) (enc : TypeId × Value → H) :
    ReturnsInHanded {} Try.checked os 4 .any (Rows.fnExactObjectLengthSpec.pre6 enc Try.prog Try.f4 Rows.fnExactObjectLengthRow.domain false) (Rows.fnExactObjectLengthSpec.post enc Try.prog Try.f4 false true false false) := by
  refine returnsInHanded_of_change (C := Try.checked) own_knob started (by kernel_rfl) Try.func4
    (ChangeSpec.witness6 (enc := enc) (C := Try.checked) false ⟨#[], #[.agg #[.slice none 0 0, .slice none 0 0]], []⟩ 8 (by kernel_rfl) (by kernel_rfl) (by kernel_rfl) (by kernel_rfl)) ?_
  intro W base args ds gs before hval0 hW hcnd _
  have hval : ∀ (j : Nat) t v, Try.f4.params[j]? = some t → args[j]? = some v → Value.okWide Try.prog W .any base t v := hval0
  have hW' := hW
  obtain ⟨p, q, hA0, hV, rfl, hfz, hnd⟩ := hW
  have hA : DataW.TrodAll enc Try.prog W 0 (fun _ => true) true Try.f4.params.toList args.toList ds p := hA0
  rw [Try.params4] at hA hval
  obtain ⟨v0, vs0, d0, ds0, p0, q0, hargs, rfl, rfl, h0, r0⟩ := trodAll_cons hA
  obtain ⟨rfl, rfl, rfl⟩ := trodAll_nil r0
  obtain rfl : args = #[v0] := by cases args; simp_all
  obtain ⟨rfl, rfl⟩ := trodVars_none hV
  clear hA0 hval0
  have k0 := h0
  have t0 : ∀ x ∈ p0, x.block < W.heap.size := fun x hx => by simpa using hW'.lt x (by simp [hx])
  obtain ⟨x0, o0⟩ := open_objectAt (hval 0 40 v0 rfl rfl) h0
  refine (walk_FnExactObjectLength W v0 x0 o0).mono fun e W' ⟨he, hg⟩ => ?_
  subst he
  exact ⟨_, rfl, _, _, _, _, _, _, hW', (trodAll_cons_mk (shut_bool Try.underlying4 _) trodAll_mk0), (trodAll_cons_mk (Below.trod laid_out (by kernel_rfl) (of_decide_eq_true (by kernel_rfl)) k0 hg t0) trodAll_mk0), rfl, hg.frame _, fun h => by cases h⟩

set_option maxHeartbeats 2000000 in
theorem facts_FnExactObjectLength : joinedFacts Try.prog 4 Try.f4 Rows.fnExactObjectLengthSpec Rows.fnExactObjectLengthRow = true := by
  unfold joinedFacts
  simp only [Bool.and_eq_true]
  repeat' apply And.intro
  all_goals first
    | with_reducible exact laid_out
    | with_reducible exact may_enter
    | (with_reducible rw [lifts_final]; as_aux_lemma => kernel_rfl)
    | (with_reducible rw [make_cut]; as_aux_lemma => kernel_rfl)
    | as_aux_lemma => kernel_rfl
theorem inst_FnExactObjectLength : Try.f4.isInstance Try.prog Rows.fnExactObjectLengthRow.origin Rows.fnExactObjectLengthRow.targs := of_decide_eq_true (by kernel_rfl)
theorem wrap_FnExactObjectLength : Try.f4.isWrapper Try.prog Rows.fnExactObjectLengthRow.wrapper Rows.fnExactObjectLengthRow.mainSum := by
  unfold Func.isWrapper
  first | (rw [if_pos (by decide +kernel)]; kernel_rfl) | (rw [if_neg (by decide +kernel)]; exact ⟨rfl, rfl⟩)
theorem named_FnExactObjectLength : Try.prog.funcNamed Rows.fnExactObjectLengthRow.func = some 4 := by kernel_rfl
theorem over_FnExactObjectLength : Rows.fnExactObjectLengthRow.holds Try.pinned (OpenSpec.ofChange Rows.fnExactObjectLengthSpec) :=
  OpenClaim.holds_of_wide 4 Try.f4 rfl rfl rfl rfl rfl rfl rfl ⟨rfl, rfl, rfl, rfl, rfl⟩ rfl rfl rfl rfl rfl named_FnExactObjectLength Try.func4 facts_FnExactObjectLength inst_FnExactObjectLength wrap_FnExactObjectLength
    (fun os started H enc _ => lifted_FnExactObjectLength os started H enc)

/-- The statement. -/
theorem holds_FnExactObjectLength : Rows.FnExactObjectLengthSaid :=
  over_FnExactObjectLength
#print axioms holds_FnExactObjectLength
end Go.Proofs.Ytkefbhidfbnipaa
