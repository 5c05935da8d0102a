/- Read objects can be written: the object is valid, and WriteObject of it is the bytes. No condition. -/
import Derived.Test.YtpgmmjdianoaeaaGreatBase
import Derived.Test.YtpgmmjdianoaeaaGreatDrawK
import Derived.Test.YtpgmmjdianoaeaaGreatDrawZ
import Derived.Test.YtpgmmjdianoaeaaGreatWrI
import Derived.Test.YtpgmmjdianoaeaaGreatReadO
import Derived.Test.YtpgmmjdianoaeaaGreatReadW
import Derived.Test.YtpgmmjdianoaeaaGreatSame
import Derived.Test.YtpgmmjdianoaeaaGreatObjVal
namespace Go.Proofs.YtpgmmjdianoaeaaGreat
open Go.ChangeShapes Go.WideShapes Go.ChangeAt Go.RowKit Go.Joins
set_option linter.unusedSimpArgs false
set_option linter.unusedVariables false
set_option maxRecDepth 100000
theorem nameB_small {s : ByteArray} (h : nameB s = true) : s.size ≤ maxLen := by
  unfold nameB at h
  rw [Bool.and_eq_true] at h
  have := ((withinB_iff _ _ _).1 h.2).2
  unfold maxLen
  omega
theorem objB_small {o : ObjD} (h : objB o = true) : (∀ s ∈ o.secs, s.name.size ≤ maxLen) ∧ ∀ s ∈ o.syms, s.name.size ≤ maxLen :=
  ⟨fun s hs => nameB_small (objB_sec h hs).name, fun s hs => nameB_small (objB_sym h hs).name⟩
set_option maxHeartbeats 1000000 in
theorem walk_FnReadObject (w : World) (v : Value) (l : List UInt8) (h : BytesAt w v l) :
    Calls Tryz.prog 3 #[v] w fun e w' => e = .returned (.bool true) ∧ Below w.heap.size w w' := by
  obtain ⟨a, cap, hv, hcap, hmax, hnone, hcell⟩ := h.form
  clear hnone hcell
  by_cases hl : (l.length : Int) ≤ 1048576
  · have H := Lib.hid h
    clear h
    subst hv
    unfold maxLen at hmax
    go_enter Tryz.func3, Tryz.ntmps3
    go_wp2_with fail
    refine (s_DrawReadObject_any w _ l H.out).mono ?_
    rintro e w1 ⟨v1, rfl, ⟨W, hW, hWl⟩, hF⟩
    obtain ⟨ba, bc, rfl, -⟩ := hW.form
    have HF1 := Lib.hid hF
    have HB1 := Lib.hid hW
    clear hF hW
    go_wp2_with fail
    refine (i_ReadObject w1 _ W HB1.out).mono ?_
    rintro e w2 ⟨r2, rfl, o2, k2⟩
    obtain ⟨o, ho⟩ : ∃ o : ObjD, (readI W).getD ⟨[], []⟩ = o := ⟨_, rfl⟩
    rw [ho] at o2
    obtain ⟨ta, tc, tb, td, rfl⟩ := o2.reads.agg
    have HF2 := Lib.hid ((HF1.out.call k2).alloc (.cells #[.slice ta o.secs.length tc, .slice tb o.syms.length td] 27))
    have HB2 := Lib.hid ((HB1.out.below (Nat.le_refl _) k2).below (Nat.le_refl _) ((From.start w2).alloc (.cells #[.slice ta o.secs.length tc, .slice tb o.syms.length td] 27)).below)
    have HO2 := Lib.hid (o2.reads.below (Nat.le_refl _) ((From.start w2).alloc (.cells #[.slice ta o.secs.length tc, .slice tb o.syms.length td] 27)).below)
    have HX2 := Lib.hid (Blk.new w2 #[.slice ta o.secs.length tc, .slice tb o.syms.length td] 27)
    clear k2 o2 HF1 HB1
    go_wp2_with fail
    refine (s_ReadObject _ _ W HB2.out).mono ?_
    rw [readS_eq]
    rintro e w3 ⟨r3, rfl, o3, k3⟩
    rw [ho] at o3
    obtain ⟨ua, uc, ub, ud, rfl⟩ := o3.reads.agg
    have HF3 := Lib.hid ((HF2.out.call k3).alloc (.cells #[.slice ua o.secs.length uc, .slice ub o.syms.length ud] 27))
    have HB3 := Lib.hid ((HB2.out.below (Nat.le_refl _) k3).below (Nat.le_refl _) ((From.start w3).alloc (.cells #[.slice ua o.secs.length uc, .slice ub o.syms.length ud] 27)).below)
    have HO3 := Lib.hid ((HO2.out.below (Nat.le_refl _) k3).below (Nat.le_refl _) ((From.start w3).alloc (.cells #[.slice ua o.secs.length uc, .slice ub o.syms.length ud] 27)).below)
    have HX3 := Lib.hid ((HX2.out.call k3).alloc (.cells #[.slice ua o.secs.length uc, .slice ub o.syms.length ud] 27))
    have HQ3 := Lib.hid (o3.reads.below (Nat.le_refl _) ((From.start w3).alloc (.cells #[.slice ua o.secs.length uc, .slice ub o.syms.length ud] 27)).below)
    have HY3 := Lib.hid (Blk.new w3 #[.slice ua o.secs.length uc, .slice ub o.syms.length ud] 27)
    clear k3 o3 HF2 HB2 HO2 HX2
    have cX := HX3.out.cell
    have zX := HX3.out.lt
    have cY := HY3.out.cell
    have zY := HY3.out.lt
    go_wp2_with fail
    refine (sameObject_same _ _ _ o HO3.out HQ3.out).mono ?_
    rintro e w5 ⟨rfl, k5⟩
    have HF5 := Lib.hid (HF3.out.call k5)
    have HB5 := Lib.hid (HB3.out.below (Nat.le_refl _) k5)
    have HO5 := Lib.hid (HO3.out.below (Nat.le_refl _) k5)
    have HX5 := Lib.hid (HX3.out.call k5)
    clear k5 cX zX cY zY HF3 HB3 HO3 HX3 HQ3 HY3
    have cX := HX5.out.cell
    have zX := HX5.out.lt
    cases hr : readI W with
    | none =>
      rw [hr] at ho
      simp only [Option.getD_none] at ho
      subst ho
      simp only [List.length_nil] at cX ⊢
      simp only [Option.isSome_none]
      go_wp2_with (first | (go_at_call 9; (with_reducible refine (alive_any _).mono ?_); rintro e w' ⟨rfl, rfl⟩))
      go_ret
      exact ⟨rfl, HF5.out.below⟩
    | some O =>
      obtain ⟨h1, h2⟩ := (readI_iff W O).1 hr
      rw [hr] at ho
      simp only [Option.getD_some] at ho
      subst ho
      have HV := Lib.hid h1
      have HW := Lib.hid h2
      simp only [Option.isSome_some]
      clear h1 h2 hr
      go_wp2_with fail
      refine (i_ObjectValid w5 _ O HO5.out (objB_small HV.out)).mono ?_
      rw [HV.out]
      rintro e w6 ⟨rfl, k6⟩
      have HF6 := Lib.hid (HF5.out.call k6)
      have HB6 := Lib.hid (HB5.out.below (Nat.le_refl _) k6)
      have HO6 := Lib.hid (HO5.out.below (Nat.le_refl _) k6)
      have HX6 := Lib.hid (HX5.out.call k6)
      clear k6 cX zX HF5 HB5 HO5 HX5
      have cX := HX6.out.cell
      have zX := HX6.out.lt
      go_wp2_with fail
      refine (i_WriteObject w6 _ O HO6.out (objB_small HV.out)).mono ?_
      rw [HW.out]
      rintro e w7 ⟨r7, rfl, o7, k7⟩
      obtain ⟨ra, rc, rfl⟩ := owns_form o7
      have HF7 := Lib.hid (HF6.out.call k7)
      have HB7 := Lib.hid (HB6.out.below (Nat.le_refl _) k7)
      have HR7 := Lib.hid o7.reads
      clear k7 o7 cX zX HF6 HB6 HO6 HX6
      go_wp2_with fail
      refine (l_sameBytes w7 _ _ W W HR7.out HB7.out).mono ?_
      rw [eqB_self]
      rintro e w8 ⟨rfl, k8⟩
      have HF8 := Lib.hid (HF7.out.call k8)
      clear k8
      go_wp2_with fail
      go_ret
      exact ⟨rfl, HF8.out.below⟩
  · subst hv
    have hl' : (1048576 : Int) < (l.length : Int) := by omega
    clear hl h
    unfold maxLen at hmax
    go_enter Tryz.func3, Tryz.ntmps3
    go_wp2_with fail
    go_ret
    exact ⟨rfl, Below.refl _ _⟩
set_option maxRecDepth 100000 in
theorem lifted_FnReadObject (os : Os) (started : os.Started) (H : Type) (enc : TypeId × Value → H) :
    ReturnsInHanded {} Tryz.checked os 3 .any (Rows.fnReadObjectSpec.pre6 enc Tryz.prog Tryz.f3 Rows.fnReadObjectRow.domain false) (Rows.fnReadObjectSpec.post enc Tryz.prog Tryz.f3 false true false false) := by
  refine returnsInHanded_of_change (C := Tryz.checked) own_knob started (by kernel_rfl) Tryz.func3
    (ChangeSpec.witness6 (enc := enc) (C := Tryz.checked) false ⟨#[], #[.slice none 0 0], []⟩ 8 (by kernel_rfl) (by kernel_rfl) (by kernel_rfl) (by kernel_rfl)) ?_
  intro W base args ds gs before hval0 hW hcnd _
  have hval : ∀ (j : Nat) t v, Tryz.f3.params[j]? = some t → args[j]? = some v → Value.okWide Tryz.prog W .any base t v := hval0
  have hW' := hW
  obtain ⟨p, q, hA0, hV, rfl, hfz, hnd⟩ := hW
  have hA : DataW.TrodAll enc Tryz.prog W 0 (fun _ => true) true Tryz.f3.params.toList args.toList ds p := hA0
  rw [Tryz.params3] at hA hval
  obtain ⟨v0, vs0, d0, ds0, p0, q0, hargs, rfl, rfl, h0, r0⟩ := trodAll_cons hA
  obtain ⟨rfl, rfl, rfl⟩ := trodAll_nil r0
  obtain rfl : args = #[v0] := by cases args; simp_all
  obtain ⟨rfl, rfl⟩ := trodVars_none hV
  clear hA0 hval0
  have k0 := h0
  have t0 : ∀ x ∈ p0, x.block < W.heap.size := fun x hx => by simpa using hW'.lt x (by simp [hx])
  obtain ⟨l0, o0⟩ := open_bytesAt (hval 0 22 v0 rfl rfl) h0
  refine (walk_FnReadObject W v0 l0 o0).mono fun e W' ⟨he, hg⟩ => ?_
  subst he
  exact ⟨_, rfl, _, _, _, _, _, _, hW', (trodAll_cons_mk (shut_bool Tryz.underlying4 _) trodAll_mk0), (trodAll_cons_mk (Below.trod laid_out (by kernel_rfl) (of_decide_eq_true (by kernel_rfl)) k0 hg t0) trodAll_mk0), rfl, hg.frame _, fun h => by cases h⟩

set_option maxHeartbeats 2000000 in
theorem facts_FnReadObject : joinedFacts Tryz.prog 3 Tryz.f3 Rows.fnReadObjectSpec Rows.fnReadObjectRow = true := by
  unfold joinedFacts
  simp only [Bool.and_eq_true]
  repeat' apply And.intro
  all_goals first
    | with_reducible exact laid_out
    | with_reducible exact may_enter
    | (with_reducible rw [lifts_final]; as_aux_lemma => kernel_rfl)
    | (with_reducible rw [make_cut]; as_aux_lemma => kernel_rfl)
    | as_aux_lemma => kernel_rfl
theorem inst_FnReadObject : Tryz.f3.isInstance Tryz.prog Rows.fnReadObjectRow.origin Rows.fnReadObjectRow.targs := of_decide_eq_true (by kernel_rfl)
theorem wrap_FnReadObject : Tryz.f3.isWrapper Tryz.prog Rows.fnReadObjectRow.wrapper Rows.fnReadObjectRow.mainSum := by
  unfold Func.isWrapper
  first | (rw [if_pos (by decide +kernel)]; kernel_rfl) | (rw [if_neg (by decide +kernel)]; exact ⟨rfl, rfl⟩)
theorem named_FnReadObject : Tryz.prog.funcNamed Rows.fnReadObjectRow.func = some 3 := by kernel_rfl
theorem over_FnReadObject : Rows.fnReadObjectRow.holds Tryz.pinned (OpenSpec.ofChange Rows.fnReadObjectSpec) :=
  OpenClaim.holds_of_wide 3 Tryz.f3 rfl rfl rfl rfl rfl rfl rfl ⟨rfl, rfl, rfl, rfl, rfl⟩ rfl rfl rfl rfl rfl named_FnReadObject Tryz.func3 facts_FnReadObject inst_FnReadObject wrap_FnReadObject
    (fun os started H enc _ => lifted_FnReadObject os started H enc)

/-- The statement. -/
theorem holds_FnReadObject : Rows.FnReadObjectSaid :=
  over_FnReadObject
#print axioms holds_FnReadObject
end Go.Proofs.YtpgmmjdianoaeaaGreat
