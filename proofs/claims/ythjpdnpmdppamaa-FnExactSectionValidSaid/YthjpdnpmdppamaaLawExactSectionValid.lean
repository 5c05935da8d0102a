/- The program's SectionValid returns what the reference's returns, for all arguments. No condition. -/
import Derived.Test.YthjpdnpmdppamaaFacts
import Derived.Test.YthjpdnpmdppamaaBase
import Derived.Test.YthjpdnpmdppamaaNum
import Derived.Test.YthjpdnpmdppamaaBytes
import Derived.Test.YthjpdnpmdppamaaFix
import Derived.Test.YthjpdnpmdppamaaSec
import Derived.Test.YthjpdnpmdppamaaName
import Derived.Test.YthjpdnpmdppamaaHead
import Derived.Test.YthjpdnpmdppamaaSecVal
import Derived.Test.YthjpdnpmdppamaaSecValS
namespace Go.Proofs.Ythjpdnpmdppamaa
open Go.ChangeShapes Go.WideShapes Go.ChangeAt Go.RowKit Go.Joins
set_option linter.unusedSimpArgs false
set_option linter.unusedVariables false
set_option maxRecDepth 100000
set_option maxHeartbeats 1000000 in
theorem walk_FnExactSectionValid (w : World) (v : Value) (s : SecD) (o : SecAt w v s ∧ secWf s) (many : Int) (hm : (Lit.int .i64 many).wf = true) :
    Calls Try.prog 23 #[v, .int .i64 many] w fun e w' => e = .returned (.bool true) ∧ Below w.heap.size w w' := by
  obtain ⟨h, hs, hw⟩ := o
  clear hw
  have H0 := Lib.hid h
  obtain ⟨vb, vf, rfl, hb, hf⟩ := h
  clear hb hf
  by_cases hc : secCost s ≤ 1048576
  · have E : szV 1048576 (secCost s) = 1048576 - secCost s := by unfold szV; rw [if_pos hc]
    have q0 : 0 ≤ 1048576 - secCost s := by omega
    have q1 : s.bytes.length ≤ 1073741824 := by unfold secCost at hc; omega
    have q2 : s.fix.length ≤ 1073741824 := by unfold secCost at hc; omega
    obtain ⟨left, hleft⟩ : ∃ left, 1048576 - secCost s = left := ⟨_, rfl⟩
    rw [hleft] at E q0
    clear hleft hc
    go_enter Try.func23, Try.ntmps23
    go_wp2_with fail
    refine (szSection_any _ (secV s vb vf) s (H0.out.below (Nat.le_refl _) ((From.start w).alloc _).below) hs 1048576 (by omega) (by omega)).mono ?_
    rw [E]
    rintro e w1 ⟨rfl, g1⟩
    have F1 := ((From.start w).alloc _).call g1
    have B1 := (Blk.newAt w _ _ w.heap.size rfl).call g1
    have c := B1.cell
    have H1 := Lib.hid (H0.out.below (Nat.le_refl _) F1.below)
    have HF := Lib.hid F1
    have HB := Lib.hid B1
    clear g1 H0 F1 B1
    go_wp2_with fail
    refine (toSection_any w1 (secV s vb vf) s H1.out q1 q2).mono ?_
    rintro e w2 ⟨r2, rfl, o2, g2⟩
    have HF2 := Lib.hid (HF.out.call g2)
    have H2 := Lib.hid (H1.out.below (Nat.le_refl _) g2)
    have HB2 := Lib.hid (HB.out.call g2)
    clear c
    have c := HB2.out.cell
    have R2 := o2.reads
    clear g2 H1 o2 HF HB
    go_wp2_with fail
    refine (s_SectionValid w2 r2 s R2 hs many).mono ?_
    rintro e w3 ⟨rfl, g3⟩
    have HF3 := Lib.hid (HF2.out.call g3)
    have H3 := Lib.hid (H2.out.below (Nat.le_refl _) g3)
    have HB3 := Lib.hid (HB2.out.call g3)
    clear c
    have c := HB3.out.cell
    clear g3 H2 R2 HF2 HB2
    go_wp2_with fail
    refine (toSection_any w3 (secV s vb vf) s H3.out q1 q2).mono ?_
    rintro e w4 ⟨r4, rfl, o4, g4⟩
    have HF4 := Lib.hid (HF3.out.call g4)
    have H4 := Lib.hid (H3.out.below (Nat.le_refl _) g4)
    have HB4 := Lib.hid (HB3.out.call g4)
    have R4 := Lib.hid o4.reads
    obtain ⟨va, vc, rfl, oa, oc⟩ := o4
    obtain ⟨ra, rc, rfl⟩ := owns_form oa
    obtain ⟨rb, rd, rfl⟩ := owns_form oc
    clear c g4 H3 oa oc HF3 HB3
    have c := HB4.out.cell
    go_wp2_with fail
    have X5 := (From.start w4).alloc (.cells #[.string s.name, .int .i64 s.kind, .int .i64 s.align, .slice ra s.bytes.length rc, .int .i64 s.size, .slice rb s.fix.length rd] 51)
    refine (i_SectionValid _ _ s (R4.out.below (Nat.le_refl _) X5.below) hs many).mono ?_
    rintro e w5 ⟨rfl, g5⟩
    have HX5 := Lib.hid (X5.call g5)
    have HF5 := Lib.hid (HF4.out.call HX5.out.below)
    have H5 := Lib.hid (H4.out.below (Nat.le_refl _) HX5.out.below)
    have HB5 := Lib.hid (HB4.out.call HX5.out.below)
    have R5 := Lib.hid (R4.out.below (Nat.le_refl _) HX5.out.below)
    have BX := (Blk.newAt w4 _ _ w4.heap.size rfl).call g5
    have HBX := Lib.hid BX
    clear c g5 H4 HF4 HB4 R4 X5 HX5 BX
    have c := HB5.out.cell
    have cx := HBX.out.cell
    go_wp2_with fail
    have keepS : ∀ u, From w5.heap.size w5 u → (∀ o, u.cell? ⟨w.heap.size, o, none⟩ = #[Value.string s.name, Value.int IntKind.i64 s.kind, Value.int IntKind.i64 s.align, vb, Value.int IntKind.i64 s.size, vf][o]?) ∧
        (∀ o, u.cell? ⟨w4.heap.size, o, none⟩ = #[.string s.name, .int .i64 s.kind, .int .i64 s.align, .slice ra s.bytes.length rc, .int .i64 s.size, .slice rb s.fix.length rd][o]?) ∧ From w5.heap.size w5 u := fun u hu => ⟨(HB5.out.call hu.below).cell, (HBX.out.call hu.below).cell, hu⟩
    have first : (∀ o, w5.cell? ⟨w.heap.size, o, none⟩ = #[Value.string s.name, Value.int IntKind.i64 s.kind, Value.int IntKind.i64 s.align, vb, Value.int IntKind.i64 s.size, vf][o]?) ∧
        (∀ o, w5.cell? ⟨w4.heap.size, o, none⟩ = #[.string s.name, .int .i64 s.kind, .int .i64 s.align, .slice ra s.bytes.length rc, .int .i64 s.size, .slice rb s.fix.length rd][o]?) ∧ From w5.heap.size w5 w5 := keepS _ (From.start w5)
    clear c cx
    go_region_held3 (fun u => (∀ o, u.cell? ⟨w.heap.size, o, none⟩ = #[Value.string s.name, Value.int IntKind.i64 s.kind, Value.int IntKind.i64 s.align, vb, Value.int IntKind.i64 s.size, vf][o]?) ∧
        (∀ o, u.cell? ⟨w4.heap.size, o, none⟩ = #[.string s.name, .int .i64 s.kind, .int .i64 s.align, .slice ra s.bytes.length rc, .int .i64 s.size, .slice rb s.fix.length rd][o]?) ∧ From w5.heap.size w5 u)
      (first | assumption | exact keepS _ (From.drew (From.start w5)) | exact keepS _ (From.call (‹_ ∧ _ ∧ From _ _ _›).2.2 (by assumption)))
      (first
        | (go_at_call 64; refine (toSection_any _ (secV s vb vf) s (H5.out.below (Nat.le_refl _) (‹_ ∧ _ ∧ From _ _ _›).2.2.below) q1 q2).mono ?_; rintro e w6 ⟨r6, rfl, o6, g6⟩; have Q6 := o6.reads)
        | (go_at_call 65; refine (eqSection_same _ _ _ s (R5.out.below (Nat.le_refl _) (‹_ ∧ _ ∧ From _ _ _›).2.2.below) (by assumption)).mono ?_; rintro e w7 ⟨rfl, g7⟩))
    have HL := Lib.hid (HF5.out.trans (‹_ ∧ _ ∧ From w5.heap.size w5 _›.2.2.below.mono HF5.out.le))
    clear keepS first
    go_wp2_with fail
    go_ret
    exact ⟨rfl, HL.out.below⟩
  · have E : szV 1048576 (secCost s) = -1 := by unfold szV; rw [if_neg hc]
    clear hc
    go_enter Try.func23, Try.ntmps23
    go_wp2_with fail
    refine (szSection_any _ (secV s vb vf) s (H0.out.below (Nat.le_refl _) ((From.start w).alloc _).below) hs 1048576 (by omega) (by omega)).mono ?_
    rw [E]
    rintro e w1 ⟨rfl, g1⟩
    have F1 := ((From.start w).alloc _).call g1
    clear g1 H0
    go_wp2_with fail
    go_ret
    exact ⟨rfl, F1.below⟩
set_option maxRecDepth 100000 in
theorem lifted_FnExactSectionValid (os : Os) (started : os.Started) (H : Type) (enc : TypeId × Value → H) :
    ReturnsInHanded {} Try.checked os 23 .any (Rows.fnExactSectionValidSpec.pre6 enc Try.prog Try.f23 Rows.fnExactSectionValidRow.domain false) (Rows.fnExactSectionValidSpec.post enc Try.prog Try.f23 false true false false) := by
  refine returnsInHanded_of_change (C := Try.checked) own_knob started (by kernel_rfl) Try.func23
    (ChangeSpec.witness6 (enc := enc) (C := Try.checked) false ⟨#[], #[.agg #[.string ⟨#[]⟩, .int .i64 0, .int .i64 0, .slice none 0 0, .int .i64 0, .slice none 0 0], .int .i64 0], []⟩ 8 (by kernel_rfl) (by kernel_rfl) (by kernel_rfl) (by kernel_rfl)) ?_
  intro W base args ds gs before hval0 hW hcnd _
  have hval : ∀ (j : Nat) t v, Try.f23.params[j]? = some t → args[j]? = some v → Value.okWide Try.prog W .any base t v := hval0
  have hW' := hW
  obtain ⟨p, q, hA0, hV, rfl, hfz, hnd⟩ := hW
  have hA : DataW.TrodAll enc Try.prog W 0 (fun _ => true) true Try.f23.params.toList args.toList ds p := hA0
  rw [Try.params23] at hA hval
  obtain ⟨v0, vs0, d0, ds0, p0, q0, hargs, rfl, rfl, h0, r0⟩ := trodAll_cons hA
  obtain ⟨v1, vs1, d1, ds1, p1, q1, rfl, rfl, rfl, h1, r1⟩ := trodAll_cons r0
  obtain ⟨rfl, rfl, rfl⟩ := trodAll_nil r1
  obtain rfl : args = #[v0, v1] := by cases args; simp_all
  obtain ⟨rfl, rfl⟩ := trodVars_none hV
  clear hA0 hval0
  have k0 := h0
  have t0 : ∀ x ∈ p0, x.block < W.heap.size := fun x hx => by simpa using hW'.lt x (by simp [hx])
  have k1 := h1
  have t1 : ∀ x ∈ p1, x.block < W.heap.size := fun x hx => by simpa using hW'.lt x (by simp [hx])
  obtain ⟨x0, o0⟩ := open_sectionAt (hval 0 60 v0 rfl rfl) h0
  obtain ⟨a1, rfl, rfl, rfl, w1⟩ := open_int Try.underlying3 (hval 1 3 v1 rfl rfl) h1
  refine (walk_FnExactSectionValid W v0 x0 o0 a1 w1).mono fun e W' ⟨he, hg⟩ => ?_
  subst he
  exact ⟨_, rfl, _, _, _, _, _, _, hW', (trodAll_cons_mk (shut_bool Try.underlying4 _) trodAll_mk0), (trodAll_cons_mk (Below.trod laid_out (by kernel_rfl) (of_decide_eq_true (by kernel_rfl)) k0 hg t0) (trodAll_cons_mk (Below.trod laid_out (by kernel_rfl) (of_decide_eq_true (by kernel_rfl)) k1 hg t1) trodAll_mk0)), rfl, hg.frame _, fun h => by cases h⟩

theorem facts_FnExactSectionValid : joinedFacts Try.prog 23 Try.f23 Rows.fnExactSectionValidSpec Rows.fnExactSectionValidRow = true := by
  unfold joinedFacts
  simp only [Bool.and_eq_true]
  repeat' apply And.intro
  all_goals first
    | with_reducible exact laid_out
    | with_reducible exact may_enter
    | (with_reducible rw [lifts_final]; as_aux_lemma => kernel_rfl)
    | (with_reducible rw [make_cut]; as_aux_lemma => kernel_rfl)
    | as_aux_lemma => kernel_rfl
theorem inst_FnExactSectionValid : Try.f23.isInstance Try.prog Rows.fnExactSectionValidRow.origin Rows.fnExactSectionValidRow.targs := of_decide_eq_true (by kernel_rfl)
theorem wrap_FnExactSectionValid : Try.f23.isWrapper Try.prog Rows.fnExactSectionValidRow.wrapper Rows.fnExactSectionValidRow.mainSum := by
  unfold Func.isWrapper
  first | (rw [if_pos (by decide +kernel)]; kernel_rfl) | (rw [if_neg (by decide +kernel)]; exact ⟨rfl, rfl⟩)
theorem named_FnExactSectionValid : Try.prog.funcNamed Rows.fnExactSectionValidRow.func = some 23 := by kernel_rfl
theorem over_FnExactSectionValid : Rows.fnExactSectionValidRow.holds Try.pinned (OpenSpec.ofChange Rows.fnExactSectionValidSpec) :=
  OpenClaim.holds_of_wide 23 Try.f23 rfl rfl rfl rfl rfl rfl rfl ⟨rfl, rfl, rfl, rfl, rfl⟩ rfl rfl rfl rfl rfl named_FnExactSectionValid Try.func23 facts_FnExactSectionValid inst_FnExactSectionValid wrap_FnExactSectionValid
    (fun os started H enc _ => lifted_FnExactSectionValid os started H enc)

/-- The statement. -/
theorem holds_FnExactSectionValid : Rows.FnExactSectionValidSaid :=
  over_FnExactSectionValid
#print axioms holds_FnExactSectionValid
end Go.Proofs.Ythjpdnpmdppamaa
