/- Sections have kinds: with the kind 4 a section is invalid; without fixups a valid section is valid. No condition. -/
import Derived.Test.YtnompmdnonelhaaFacts
import Derived.Test.YtnompmdnonelhaaDrawK
import Derived.Test.YtnompmdnonelhaaDrawU
import Derived.Test.YtnompmdnonelhaaSecValS
namespace Go.Proofs.Ytnompmdnonelhaa
open Go.ChangeShapes Go.WideShapes Go.ChangeAt Go.RowKit Go.Joins
set_option linter.unusedSimpArgs false
set_option linter.unusedVariables false
set_option maxRecDepth 100000
theorem secB_kind4 (s : SecD) (m : Int) : secB { s with kind := 4 } m = false := by
  unfold secB
  rw [show withinB 4 1 3 = false from rfl]
  simp
theorem secB_plain {s : SecD} {m : Int} (h : secB s m = true) : secB { s with fix := [] } 0 = true := by
  unfold secB at h ⊢
  simp only [Bool.and_eq_true] at h ⊢
  refine ⟨h.1, ?_⟩
  have h2 := h.2
  split at h2
  · rename_i hk
    rw [if_pos hk]
    simp only [Bool.and_eq_true] at h2
    have hb : s.bytes = [] := List.eq_nil_of_length_eq_zero (by simpa using h2.1.2)
    simp [h2.1.1, hb]
  · rename_i hk
    rw [if_neg hk]
    simp only [Bool.and_eq_true] at h2
    simp [h2.1.1, fixesB]
set_option maxHeartbeats 1000000 in
theorem walk_FnSectionValid (w : World) (v : Value) (l : List UInt8) (h : BytesAt w v l) :
    Calls Try.prog 4 #[v] w fun e w' => e = .returned (.bool true) ∧ Below w.heap.size w w' := by
  obtain ⟨a, cap, hv, hcap, hmax, hnone, hcell⟩ := h.form
  clear hnone hcell
  by_cases hl : (l.length : Int) ≤ 1048576
  · have H := Lib.hid h
    clear h
    subst hv
    unfold maxLen at hmax
    go_enter Try.func4, Try.ntmps4
    go_wp2_with fail
    refine (drawSectionValid_any _ _ l H.out).mono ?_
    rintro e w1 ⟨_, rfl, ⟨_, m, rfl, s, vb, vf, rfl, hb, hf, hn, -⟩, hF⟩
    obtain ⟨ba, bc, rfl, -⟩ := hb.form
    obtain ⟨fa, fc, rfl, -⟩ := hf.form
    have HF := Lib.hid hF
    have HX : Hid (SecAt w1 (secV s (.slice ba s.bytes.length bc) (.slice fa s.fix.length fc)) s) := ⟨_, _, rfl, hb, hf⟩
    have HY : Hid (SecAt w1 (secV { s with kind := 4 } (.slice ba s.bytes.length bc) (.slice fa s.fix.length fc)) { s with kind := 4 }) := ⟨_, _, rfl, hb, hf⟩
    have HZ : Hid (SecAt w1 (secV { s with fix := [] } (.slice ba s.bytes.length bc) (.slice none 0 0)) { s with fix := [] }) := ⟨_, _, rfl, hb, Reads.nil _ _⟩
    have HN : Hid (s.name.size ≤ maxLen) := Lib.hid (by unfold maxLen; omega : s.name.size ≤ maxLen)
    clear hF hb hf hn
    go_wp2_with fail
    refine (i_SectionValid _ (secV s (.slice ba s.bytes.length bc) (.slice fa s.fix.length fc)) s (HX.out.below (Nat.le_refl _) ((From.start w1).alloc _).below) HN.out m).mono ?_
    rintro e w2 ⟨rfl, h2⟩
    have HF1 := Lib.hid (((From.start w1).alloc _).call h2)
    have HF2 := Lib.hid ((HF.out.alloc _).call h2)
    have B2 := (Blk.new w1 (secCells s (.slice ba s.bytes.length bc) (.slice fa s.fix.length fc)) 25).call h2
    have HB2 := Lib.hid B2
    have c2 := B2.cell
    have z2 := B2.lt
    clear h2 HF B2
    go_wp2_with fail
    refine (s_SectionValid _ (secV s (.slice ba s.bytes.length bc) (.slice fa s.fix.length fc)) s (HX.out.below (Nat.le_refl _) HF1.out.below) HN.out m).mono ?_
    rintro e w3 ⟨rfl, h3⟩
    have HF3 := Lib.hid (HF2.out.call h3)
    have HG3 := Lib.hid (HF1.out.call h3)
    have B3 := HB2.out.call h3
    have HB3 := Lib.hid B3
    have c3 := B3.cell
    have z3 := B3.lt
    have e3 : (secB s m != secB s m) = false := by simp
    have HP : Hid (secB s m = true → secB { s with fix := [] } 0 = true) := secB_plain
    clear h3 HF2 HF1 HX B3 c2 z2 HB2
    generalize secB s m = sv at *
    go_wp2_with fail
    have HF4 := Lib.hid ((HF3.out.alloc (.cells (secCells { s with kind := 4 } (.slice ba s.bytes.length bc) (.slice fa s.fix.length fc)) 25)).alloc (.cells (secCells { s with fix := [] } (.slice ba s.bytes.length bc) (.slice none 0 0)) 25))
    have HG4 := Lib.hid ((HG3.out.alloc (.cells (secCells { s with kind := 4 } (.slice ba s.bytes.length bc) (.slice fa s.fix.length fc)) 25)).alloc (.cells (secCells { s with fix := [] } (.slice ba s.bytes.length bc) (.slice none 0 0)) 25))
    refine (i_SectionValid _ (secV { s with kind := 4 } (.slice ba s.bytes.length bc) (.slice fa s.fix.length fc)) { s with kind := 4 } (HY.out.below (Nat.le_refl _) HG4.out.below) HN.out m).mono ?_
    rw [secB_kind4]
    rintro e w4 ⟨rfl, h4⟩
    have HF5 := Lib.hid (HF4.out.call h4)
    have HG5 := Lib.hid (HG4.out.call h4)
    have B5 := (Blk.new (w3.alloc (.cells (secCells { s with kind := 4 } (.slice ba s.bytes.length bc) (.slice fa s.fix.length fc)) 25)) (secCells { s with fix := [] } (.slice ba s.bytes.length bc) (.slice none 0 0)) 25).call h4
    have c5 := B5.cell
    have z5 := B5.lt
    simp only [World.size_alloc] at c5 z5
    clear h4 HF4 HG4 HF3 HG3 c3 z3 HB3 B5
    cases sv
    · go_wp2_with (first | (go_at_call 20; (with_reducible refine (alive_any _).mono ?_); rintro e w' ⟨rfl, rfl⟩))
      go_ret
      exact ⟨rfl, HF5.out.below⟩
    · have HQ := Lib.hid (HP.out rfl)
      go_wp2_with fail
      refine (i_SectionValid _ (secV { s with fix := [] } (.slice ba s.bytes.length bc) (.slice none 0 0)) { s with fix := [] } (HZ.out.below (Nat.le_refl _) HG5.out.below) HN.out 0).mono ?_
      rw [HQ.out]
      rintro e w6 ⟨rfl, h6⟩
      have HF6 := Lib.hid (HF5.out.call h6)
      clear h6 HF5 HG5 c5 z5
      go_wp2_with (first | (go_at_call 20; (with_reducible refine (alive_any _).mono ?_); rintro e w' ⟨rfl, rfl⟩))
      go_ret
      exact ⟨rfl, HF6.out.below⟩
  · subst hv
    have hl' : (1048576 : Int) < (l.length : Int) := by omega
    clear hl h
    unfold maxLen at hmax
    go_enter Try.func4, Try.ntmps4
    go_wp2_with fail
    go_ret
    exact ⟨rfl, Below.refl _ _⟩
set_option maxRecDepth 100000 in
theorem lifted_FnSectionValid (os : Os) (started : os.Started) (H : Type) (enc : TypeId × Value → H) :
    ReturnsInHanded {} Try.checked os 4 .any (Rows.fnSectionValidSpec.pre6 enc Try.prog Try.f4 Rows.fnSectionValidRow.domain false) (Rows.fnSectionValidSpec.post enc Try.prog Try.f4 false true false false) := by
  refine returnsInHanded_of_change (C := Try.checked) own_knob started (by kernel_rfl) Try.func4
    (ChangeSpec.witness6 (enc := enc) (C := Try.checked) false ⟨#[], #[.slice none 0 0], []⟩ 8 (by kernel_rfl) (by kernel_rfl) (by kernel_rfl) (by kernel_rfl)) ?_
  intro W base args ds gs before hval0 hW hcnd _
  have hval : ∀ (j : Nat) t v, Try.f4.params[j]? = some t → args[j]? = some v → Value.okWide Try.prog W .any base t v := hval0
  have hW' := hW
  obtain ⟨p, q, hA0, hV, rfl, hfz, hnd⟩ := hW
  have hA : DataW.TrodAll enc Try.prog W 0 (fun _ => true) true Try.f4.params.toList args.toList ds p := hA0
  rw [Try.params4] at hA hval
  obtain ⟨v0, vs0, d0, ds0, p0, q0, hargs, rfl, rfl, h0, r0⟩ := trodAll_cons hA
  obtain ⟨rfl, rfl, rfl⟩ := trodAll_nil r0
  obtain rfl : args = #[v0] := by cases args; simp_all
  obtain ⟨rfl, rfl⟩ := trodVars_none hV
  clear hA0 hval0
  have k0 := h0
  have t0 : ∀ x ∈ p0, x.block < W.heap.size := fun x hx => by simpa using hW'.lt x (by simp [hx])
  obtain ⟨l0, o0⟩ := open_bytesAt (hval 0 22 v0 rfl rfl) h0
  refine (walk_FnSectionValid W v0 l0 o0).mono fun e W' ⟨he, hg⟩ => ?_
  subst he
  exact ⟨_, rfl, _, _, _, _, _, _, hW', (trodAll_cons_mk (shut_bool Try.underlying4 _) trodAll_mk0), (trodAll_cons_mk (Below.trod laid_out (by kernel_rfl) (of_decide_eq_true (by kernel_rfl)) k0 hg t0) trodAll_mk0), rfl, hg.frame _, fun h => by cases h⟩

theorem facts_FnSectionValid : joinedFacts Try.prog 4 Try.f4 Rows.fnSectionValidSpec Rows.fnSectionValidRow = true := by
  unfold joinedFacts
  simp only [Bool.and_eq_true]
  repeat' apply And.intro
  all_goals first
    | with_reducible exact laid_out
    | with_reducible exact may_enter
    | (with_reducible rw [lifts_final]; as_aux_lemma => kernel_rfl)
    | (with_reducible rw [make_cut]; as_aux_lemma => kernel_rfl)
    | as_aux_lemma => kernel_rfl
theorem inst_FnSectionValid : Try.f4.isInstance Try.prog Rows.fnSectionValidRow.origin Rows.fnSectionValidRow.targs := of_decide_eq_true (by kernel_rfl)
theorem wrap_FnSectionValid : Try.f4.isWrapper Try.prog Rows.fnSectionValidRow.wrapper Rows.fnSectionValidRow.mainSum := by
  unfold Func.isWrapper
  first | (rw [if_pos (by decide +kernel)]; kernel_rfl) | (rw [if_neg (by decide +kernel)]; exact ⟨rfl, rfl⟩)
theorem named_FnSectionValid : Try.prog.funcNamed Rows.fnSectionValidRow.func = some 4 := by kernel_rfl
theorem over_FnSectionValid : Rows.fnSectionValidRow.holds Try.pinned (OpenSpec.ofChange Rows.fnSectionValidSpec) :=
  OpenClaim.holds_of_wide 4 Try.f4 rfl rfl rfl rfl rfl rfl rfl ⟨rfl, rfl, rfl, rfl, rfl⟩ rfl rfl rfl rfl rfl named_FnSectionValid Try.func4 facts_FnSectionValid inst_FnSectionValid wrap_FnSectionValid
    (fun os started H enc _ => lifted_FnSectionValid os started H enc)

/-- The statement. -/
theorem holds_FnSectionValid : Rows.FnSectionValidSaid :=
  over_FnSectionValid
#print axioms holds_FnSectionValid
end Go.Proofs.Ytnompmdnonelhaa
