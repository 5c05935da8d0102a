/- Lengths are lengths: ObjectLength is the number of bytes of WriteObject. No condition. -/
import Derived.Test.YthenijikmjffjaaBase
import Derived.Test.YthenijikmjffjaaDrawK
import Derived.Test.YthenijikmjffjaaDrawO
import Derived.Test.YthenijikmjffjaaLen
import Derived.Test.YthenijikmjffjaaWrI
namespace Go.Proofs.Ythenijikmjffjaa
open Go.ChangeShapes Go.WideShapes Go.ChangeAt Go.RowKit Go.Joins
set_option linter.unusedSimpArgs false
set_option linter.unusedVariables false
set_option maxRecDepth 100000
theorem lenO_write (o : ObjD) : lenO o = ((writeL o).length : Int) := by
  unfold lenO
  by_cases h : objB o = true
  · rw [if_pos h, writeL_len h]
    push_cast
    omega
  · rw [if_neg h]
    unfold writeL
    rw [if_neg h]
    rfl
set_option maxHeartbeats 1000000 in
theorem walk_FnObjectLength (w : World) (v : Value) (l : List UInt8) (h : BytesAt w v l) :
    Calls Try.prog 3 #[v] w fun e w' => e = .returned (.bool true) ∧ Below w.heap.size w w' := by
  obtain ⟨a, cap, hv, hcap, hmax, hnone, hcell⟩ := h.form
  clear hnone hcell
  by_cases hl : (l.length : Int) ≤ 1048576
  · have H := Lib.hid h
    clear h
    subst hv
    unfold maxLen at hmax
    go_enter Try.func3, Try.ntmps3
    go_wp2_with fail
    refine (s_DrawObjectLength_any _ _ l H.out).mono ?_
    rintro e w1 ⟨_, rfl, ⟨o, ho, hn1, hn2, hl1, hl2, -⟩, hF⟩
    obtain ⟨sa, sc, ya, yc, rfl⟩ := ho.agg
    have HF := Lib.hid hF
    have HO := Lib.hid ho
    have HN := Lib.hid (⟨fun s hs => by have := hn1 s hs; unfold maxLen; omega, fun s hs => by have := hn2 s hs; unfold maxLen; omega⟩ : (∀ s ∈ o.secs, s.name.size ≤ maxLen) ∧ ∀ s ∈ o.syms, s.name.size ≤ maxLen)
    obtain ⟨m, hm⟩ : ∃ m, (writeL o).length = m := ⟨_, rfl⟩
    have hm2 := writeL_le o
    rw [hm] at hm2
    have E : Hid (lenO o = (m : Int)) := by show _ = _; rw [lenO_write, hm]
    have HM := Lib.hid hm
    clear hF ho hn1 hn2 hm
    go_wp2_with fail
    refine (i_ObjectLength _ _ o (HO.out.below (Nat.le_refl _) ((From.start w1).alloc _).below) HN.out).mono ?_
    rw [E.out]
    rintro e w2 ⟨rfl, h2⟩
    have HG2 := Lib.hid (((From.start w1).alloc _).call h2)
    have HF2 := Lib.hid ((HF.out.alloc _).call h2)
    have B2 := (Blk.new w1 #[.slice sa o.secs.length sc, .slice ya o.syms.length yc] 26).call h2
    have HB2 := Lib.hid B2
    have c2 := B2.cell
    have z2 := B2.lt
    clear h2 HF B2
    go_wp2_with fail
    refine (s_ObjectLength _ _ o (HO.out.below (Nat.le_refl _) HG2.out.below) HN.out).mono ?_
    rw [E.out]
    rintro e w3 ⟨rfl, h3⟩
    have HF3 := Lib.hid (HF2.out.call h3)
    have HG3 := Lib.hid (HG2.out.call h3)
    have HT3 := Lib.hid (HB2.out.call h3)
    clear c2 z2
    have c3 := HT3.out.cell
    have z3 := HT3.out.lt
    have e3 : ((m : Int) != (m : Int)) = false := by simp
    clear h3 HF2 HG2 HB2
    go_wp2_with fail
    refine (i_WriteObject _ _ o (HO.out.below (Nat.le_refl _) HG3.out.below) HN.out).mono ?_
    rintro e w4 ⟨r, rfl, o4, h4⟩
    obtain ⟨ra, rc, rfl⟩ := owns_form o4
    rw [HM.out]
    have HF4 := Lib.hid (HF3.out.call h4)
    have e4 : ((m : Int) == (m : Int)) = true := by simp
    clear h4 o4 HF3 HG3 c3 z3 HT3
    go_wp2_with (first | (go_at_call 18; (with_reducible refine (alive_any _).mono ?_); rintro e w' ⟨rfl, rfl⟩))
    go_ret
    exact ⟨rfl, HF4.out.below⟩
  · subst hv
    have hl' : (1048576 : Int) < (l.length : Int) := by omega
    clear hl h
    unfold maxLen at hmax
    go_enter Try.func3, Try.ntmps3
    go_wp2_with fail
    go_ret
    exact ⟨rfl, Below.refl _ _⟩
set_option maxRecDepth 100000 in
theorem lifted_FnObjectLength (os : Os) (started : os.Started) (H : Type) (enc : TypeId × Value → H) :
    ReturnsInHanded {} Try.checked os 3 .any (Rows.fnObjectLengthSpec.pre6 enc Try.prog Try.f3 Rows.fnObjectLengthRow.domain false) (Rows.fnObjectLengthSpec.post enc Try.prog Try.f3 false true false false) := by
  refine returnsInHanded_of_change (C := Try.checked) own_knob started (by kernel_rfl) Try.func3
    (ChangeSpec.witness6 (enc := enc) (C := Try.checked) false ⟨#[], #[.slice none 0 0], []⟩ 8 (by kernel_rfl) (by kernel_rfl) (by kernel_rfl) (by kernel_rfl)) ?_
  intro W base args ds gs before hval0 hW hcnd _
  have hval : ∀ (j : Nat) t v, Try.f3.params[j]? = some t → args[j]? = some v → Value.okWide Try.prog W .any base t v := hval0
  have hW' := hW
  obtain ⟨p, q, hA0, hV, rfl, hfz, hnd⟩ := hW
  have hA : DataW.TrodAll enc Try.prog W 0 (fun _ => true) true Try.f3.params.toList args.toList ds p := hA0
  rw [Try.params3] at hA hval
  obtain ⟨v0, vs0, d0, ds0, p0, q0, hargs, rfl, rfl, h0, r0⟩ := trodAll_cons hA
  obtain ⟨rfl, rfl, rfl⟩ := trodAll_nil r0
  obtain rfl : args = #[v0] := by cases args; simp_all
  obtain ⟨rfl, rfl⟩ := trodVars_none hV
  clear hA0 hval0
  have k0 := h0
  have t0 : ∀ x ∈ p0, x.block < W.heap.size := fun x hx => by simpa using hW'.lt x (by simp [hx])
  obtain ⟨l0, o0⟩ := open_bytesAt (hval 0 22 v0 rfl rfl) h0
  refine (walk_FnObjectLength W v0 l0 o0).mono fun e W' ⟨he, hg⟩ => ?_
  subst he
  exact ⟨_, rfl, _, _, _, _, _, _, hW', (trodAll_cons_mk (shut_bool Try.underlying4 _) trodAll_mk0), (trodAll_cons_mk (Below.trod laid_out (by kernel_rfl) (of_decide_eq_true (by kernel_rfl)) k0 hg t0) trodAll_mk0), rfl, hg.frame _, fun h => by cases h⟩

set_option maxHeartbeats 2000000 in
theorem facts_FnObjectLength : joinedFacts Try.prog 3 Try.f3 Rows.fnObjectLengthSpec Rows.fnObjectLengthRow = true := by
  unfold joinedFacts
  simp only [Bool.and_eq_true]
  repeat' apply And.intro
  all_goals first
    | with_reducible exact laid_out
    | with_reducible exact may_enter
    | (with_reducible rw [lifts_final]; as_aux_lemma => kernel_rfl)
    | (with_reducible rw [make_cut]; as_aux_lemma => kernel_rfl)
    | as_aux_lemma => kernel_rfl
theorem inst_FnObjectLength : Try.f3.isInstance Try.prog Rows.fnObjectLengthRow.origin Rows.fnObjectLengthRow.targs := of_decide_eq_true (by kernel_rfl)
theorem wrap_FnObjectLength : Try.f3.isWrapper Try.prog Rows.fnObjectLengthRow.wrapper Rows.fnObjectLengthRow.mainSum := by
  unfold Func.isWrapper
  first | (rw [if_pos (by decide +kernel)]; kernel_rfl) | (rw [if_neg (by decide +kernel)]; exact ⟨rfl, rfl⟩)
theorem named_FnObjectLength : Try.prog.funcNamed Rows.fnObjectLengthRow.func = some 3 := by kernel_rfl
theorem over_FnObjectLength : Rows.fnObjectLengthRow.holds Try.pinned (OpenSpec.ofChange Rows.fnObjectLengthSpec) :=
  OpenClaim.holds_of_wide 3 Try.f3 rfl rfl rfl rfl rfl rfl rfl ⟨rfl, rfl, rfl, rfl, rfl⟩ rfl rfl rfl rfl rfl named_FnObjectLength Try.func3 facts_FnObjectLength inst_FnObjectLength wrap_FnObjectLength
    (fun os started H enc _ => lifted_FnObjectLength os started H enc)

/-- The statement. -/
theorem holds_FnObjectLength : Rows.FnObjectLengthSaid :=
  over_FnObjectLength
#print axioms holds_FnObjectLength
end Go.Proofs.Ythenijikmjffjaa
