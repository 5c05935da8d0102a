/- Read numbers have bytes: PutNumber of the number that GetNumber returns is those bytes. No condition. -/
import Derived.Test.YthjpdnpmdppamaaFacts
import Derived.Test.YthjpdnpmdppamaaDrawK
import Derived.Test.YthjpdnpmdppamaaPlainA
namespace Go.Proofs.Ythjpdnpmdppamaa
open Go.ChangeShapes Go.WideShapes Go.ChangeAt Go.RowKit Go.Joins
set_option linter.unusedSimpArgs false
set_option linter.unusedVariables false
set_option maxRecDepth 100000
set_option maxHeartbeats 1000000 in
theorem walk_FnGetNumber (w : World) (v : Value) (l : List UInt8) (h : BytesAt w v l) :
    Calls Try.prog 10 #[v] w fun e w' => e = .returned (.bool true) ∧ Below w.heap.size w w' := by
  obtain ⟨a, cap, hv, hcap, hmax, hnone, hcell⟩ := h.form
  clear hnone hcell
  by_cases hl : (l.length : Int) ≤ 1048576
  · have H := Lib.hid h
    clear h
    subst hv
    unfold maxLen at hmax
    go_enter Try.func10, Try.ntmps10
    go_wp2_with fail
    refine (drawGetNumber_any _ _ l H.out).mono ?_
    rintro e w1 ⟨_, rfl, ⟨vb, k, n, m, rfl, hR, hk, b1, b2, b3, b4⟩, hF⟩
    obtain ⟨ka, kc, rfl, hkc, hkm, -, hcell⟩ := hR.form
    have HF := Lib.hid hF
    have HR := Lib.hid hR
    clear hF hR
    obtain ⟨S, hS⟩ : ∃ S, getNum k n m = S := ⟨_, rfl⟩
    have HS := Lib.hid hS
    have r4 := getNum_range k n m
    rw [hS] at r4
    clear hS
    go_wp2_with fail
    refine (i_GetNumber w1 _ k HR.out n m).mono ?_
    rw [HS.out]
    rintro e w2 ⟨rfl, rfl⟩
    go_wp2_with fail
    refine (s_GetNumber w1 _ k HR.out n m).mono ?_
    rw [HS.out]
    rintro e w2 ⟨rfl, rfl⟩
    obtain ⟨r5, r6⟩ := r4
    by_cases hz : 0 ≤ S
    · obtain ⟨p1, p2, p3, p4⟩ := putNum_getNum (l := k) (a := n) (wide := m) (by rw [HS.out]; exact hz)
      rw [HS.out] at p1
      obtain ⟨A, rfl⟩ := Int.eq_ofNat_of_zero_le p2
      obtain ⟨W, rfl⟩ := Int.eq_ofNat_of_zero_le (show 0 ≤ m by omega)
      obtain ⟨b, off, rfl, hc⟩ := hcell (by omega)
      have hsub : BytesAt w1 (.slice (some ⟨b, off + A, none⟩) W (kc - A)) ((k.drop A).take W) := bytes_sub hc A W (by omega) _ (by omega) (by omega)
      obtain ⟨U, hU⟩ : ∃ U, (k.drop A).take W = U := ⟨_, rfl⟩
      have p1' : putNum S W = U := by rw [← hU]; exact p1
      rw [hU] at hsub
      have HSB := Lib.hid hsub
      have P1 := Lib.hid p1'
      unfold maxLen at hkm
      clear hc hsub p1 p1' hU hcell
      have i1 : (A : Int) ≤ (k.length : Int) := by omega
      have i2 : ¬ (k.length : Int) < (A : Int) + (W : Int) := by omega
      have i3 : (A : Int) + (W : Int) ≤ (kc : Int) := by omega
      have i4 : ¬ (A : Int) < 0 := by omega
      have v1 : IntKind.i64.wrap ((A : Int) + (W : Int)) = (A : Int) + (W : Int) := IntWalk.i64_in _ (by omega)
      have v2 : ((A : Int) + (W : Int)).toNat = A + W := by omega
      have v3 : (A : Int) ≤ (A : Int) + (W : Int) := by omega
      have v4 : (0 : Int) ≤ (A : Int) + (W : Int) := by omega
      go_wp2_with fail
      have keep : ∀ wx, Below w1.heap.size w1.drew wx → BytesAt wx (.slice (some ⟨b, off + A, none⟩) W (kc - A)) U := fun wx hx => HSB.out.below (Nat.le_refl _) ((Below.drew (Below.refl _ _)).trans hx)
      go_region_with (first | (go_at_call 46; (with_reducible refine (i_PutNumber w1.drew S W).mono ?_); rw [P1.out]; rintro e w2 ⟨r, rfl, o2, h2⟩; obtain ⟨ra, rc, rfl⟩ := owns_form o2; have O2 := Lib.hid o2.reads; have HB2 := Lib.hid (show Below w1.heap.size w1.drew w2 from h2); clear o2 h2) | (go_at_call 50; (with_reducible refine (l_sameBytes w2 _ _ _ _ O2.out (keep w2 HB2.out)).mono ?_); rw [eqB_self]; rintro e w3 ⟨rfl, h3⟩; have HB3 := Lib.hid h3; clear h3))
      go_wp2_with fail
      go_ret
      exact ⟨rfl, (((HF.out.drew).call HB2.out).call HB3.out).below⟩
    · have hz' : S = -1 := by
        have := HS.out
        unfold getNum at this
        split at this
        · have := leNum_nonneg ((k.drop n.toNat).take m.toNat); omega
        · exact this.symm
      clear hcell
      subst hz'
      go_wp2_with (first | (go_at_call 32; (with_reducible refine (alive_any _).mono ?_); rintro e w' ⟨rfl, rfl⟩))
      go_ret
      exact ⟨rfl, HF.out.below⟩
  · subst hv
    have hl' : (1048576 : Int) < (l.length : Int) := by omega
    clear hl h
    unfold maxLen at hmax
    go_enter Try.func10, Try.ntmps10
    go_wp2_with fail
    go_ret
    exact ⟨rfl, Below.refl _ _⟩
set_option maxRecDepth 100000 in
theorem lifted_FnGetNumber (os : Os) (started : os.Started) (H : Type) (enc : TypeId × Value → H) :
    ReturnsInHanded {} Try.checked os 10 .any (Rows.fnGetNumberSpec.pre6 enc Try.prog Try.f10 Rows.fnGetNumberRow.domain false) (Rows.fnGetNumberSpec.post enc Try.prog Try.f10 false true false false) := by
  refine returnsInHanded_of_change (C := Try.checked) own_knob started (by kernel_rfl) Try.func10
    (ChangeSpec.witness6 (enc := enc) (C := Try.checked) false ⟨#[], #[.slice none 0 0], []⟩ 8 (by kernel_rfl) (by kernel_rfl) (by kernel_rfl) (by kernel_rfl)) ?_
  intro W base args ds gs before hval0 hW hcnd _
  have hval : ∀ (j : Nat) t v, Try.f10.params[j]? = some t → args[j]? = some v → Value.okWide Try.prog W .any base t v := hval0
  have hW' := hW
  obtain ⟨p, q, hA0, hV, rfl, hfz, hnd⟩ := hW
  have hA : DataW.TrodAll enc Try.prog W 0 (fun _ => true) true Try.f10.params.toList args.toList ds p := hA0
  rw [Try.params10] at hA hval
  obtain ⟨v0, vs0, d0, ds0, p0, q0, hargs, rfl, rfl, h0, r0⟩ := trodAll_cons hA
  obtain ⟨rfl, rfl, rfl⟩ := trodAll_nil r0
  obtain rfl : args = #[v0] := by cases args; simp_all
  obtain ⟨rfl, rfl⟩ := trodVars_none hV
  clear hA0 hval0
  have k0 := h0
  have t0 : ∀ x ∈ p0, x.block < W.heap.size := fun x hx => by simpa using hW'.lt x (by simp [hx])
  obtain ⟨l0, o0⟩ := open_bytesAt (hval 0 22 v0 rfl rfl) h0
  refine (walk_FnGetNumber W v0 l0 o0).mono fun e W' ⟨he, hg⟩ => ?_
  subst he
  exact ⟨_, rfl, _, _, _, _, _, _, hW', (trodAll_cons_mk (shut_bool Try.underlying4 _) trodAll_mk0), (trodAll_cons_mk (Below.trod laid_out (by kernel_rfl) (of_decide_eq_true (by kernel_rfl)) k0 hg t0) trodAll_mk0), rfl, hg.frame _, fun h => by cases h⟩

theorem facts_FnGetNumber : joinedFacts Try.prog 10 Try.f10 Rows.fnGetNumberSpec Rows.fnGetNumberRow = true := by
  unfold joinedFacts
  simp only [Bool.and_eq_true]
  repeat' apply And.intro
  all_goals first
    | with_reducible exact laid_out
    | with_reducible exact may_enter
    | (with_reducible rw [lifts_final]; as_aux_lemma => kernel_rfl)
    | (with_reducible rw [make_cut]; as_aux_lemma => kernel_rfl)
    | as_aux_lemma => kernel_rfl
theorem inst_FnGetNumber : Try.f10.isInstance Try.prog Rows.fnGetNumberRow.origin Rows.fnGetNumberRow.targs := of_decide_eq_true (by kernel_rfl)
theorem wrap_FnGetNumber : Try.f10.isWrapper Try.prog Rows.fnGetNumberRow.wrapper Rows.fnGetNumberRow.mainSum := by
  unfold Func.isWrapper
  first | (rw [if_pos (by decide +kernel)]; kernel_rfl) | (rw [if_neg (by decide +kernel)]; exact ⟨rfl, rfl⟩)
theorem named_FnGetNumber : Try.prog.funcNamed Rows.fnGetNumberRow.func = some 10 := by kernel_rfl
theorem over_FnGetNumber : Rows.fnGetNumberRow.holds Try.pinned (OpenSpec.ofChange Rows.fnGetNumberSpec) :=
  OpenClaim.holds_of_wide 10 Try.f10 rfl rfl rfl rfl rfl rfl rfl ⟨rfl, rfl, rfl, rfl, rfl⟩ rfl rfl rfl rfl rfl named_FnGetNumber Try.func10 facts_FnGetNumber inst_FnGetNumber wrap_FnGetNumber
    (fun os started H enc _ => lifted_FnGetNumber os started H enc)

/-- The statement. -/
theorem holds_FnGetNumber : Rows.FnGetNumberSaid :=
  over_FnGetNumber
#print axioms holds_FnGetNumber
end Go.Proofs.Ythjpdnpmdppamaa
