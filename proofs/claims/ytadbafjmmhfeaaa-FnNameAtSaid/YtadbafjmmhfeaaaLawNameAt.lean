/- Texts in tables end with a byte 0: the rest of the text is found behind its first byte. No condition. -/
import Derived.Test.YtadbafjmmhfeaaaFacts
import Derived.Test.YtadbafjmmhfeaaaDrawK
import Derived.Test.YtadbafjmmhfeaaaDrawT
import Derived.Test.YtadbafjmmhfeaaaPlainN
namespace Go.Proofs.Ytadbafjmmhfeaaa
open Go.ChangeShapes Go.WideShapes Go.ChangeAt Go.RowKit Go.Joins
set_option linter.unusedSimpArgs false
set_option linter.unusedVariables false
set_option maxRecDepth 100000
set_option maxHeartbeats 1000000 in
theorem walk_FnNameAt (w : World) (v : Value) (l : List UInt8) (h : BytesAt w v l) :
    Calls Try.prog 3 #[v] w fun e w' => e = .returned (.bool true) ∧ Below w.heap.size w w' := by
  obtain ⟨a, cap, hv, hcap, hmax, hnone, hcell⟩ := h.form
  clear hnone hcell
  by_cases hl : (l.length : Int) ≤ 1048576
  · have H := Lib.hid h
    clear h
    subst hv
    unfold maxLen at hmax
    go_enter Try.func3, Try.ntmps3
    go_wp2_with fail
    refine (drawNameAt_any _ _ l H.out).mono ?_
    rintro e w1 ⟨_, rfl, ⟨vb, T, n, rfl, hR, hT, hn0, hn1⟩, hF⟩
    obtain ⟨ta, tc, rfl, htc, htm, -, hcl⟩ := hR.form
    have HF := Lib.hid hF
    have HR := Lib.hid hR
    have HC := Lib.hid hcl
    clear hF hR hcl
    unfold maxLen at htm
    have hee : ((⟨#[]⟩ : ByteArray).toList == (⟨#[]⟩ : ByteArray).toList) = true := str_eq rfl
    go_wp2_with fail
    refine (i_NameAt w1 _ T HR.out n).mono ?_
    rintro e w2 ⟨rfl, rfl⟩
    rcases hN : nameAtL T n with _ | s
    · have e1 : optV none = .returned (.tuple #[.string ⟨#[]⟩, .bool false]) := rfl
      rw [e1]
      have HN := Lib.hid hN
      clear hN e1
      go_wp2_with fail
      refine (s_NameAt w1 _ T HR.out n).mono ?_
      rw [HN.out]
      rintro e w2 ⟨rfl, rfl⟩
      have e1 : optV none = .returned (.tuple #[.string ⟨#[]⟩, .bool false]) := rfl
      rw [e1]
      clear e1
      go_wp2_with (first | (go_at_call 16; (with_reducible refine (alive_any _).mono ?_); rintro e w' ⟨rfl, rfl⟩))
      go_ret
      exact ⟨rfl, HF.out.below⟩
    obtain ⟨sb, hsb⟩ : ∃ sb : ByteArray, ⟨s.toArray⟩ = sb := ⟨_, rfl⟩
    have hbb : bytesS sb = s := by rw [← hsb]; exact bytesS_mk s
    have e1 : optV (some s) = .returned (.tuple #[.string sb, .bool true]) := by unfold optV; simp [hsb]
    have hss : (sb.toList == sb.toList) = true := str_eq rfl
    have hsz : sb.size = s.length := by rw [← hbb]; unfold bytesS; rw [Array.length_toList]; rfl
    rw [e1]
    have HN := Lib.hid hN
    have HE1 := Lib.hid e1
    have HBB := Lib.hid hbb
    have HSZ := Lib.hid hsz
    clear hN e1 hsb hbb hsz
    go_wp2_with fail
    refine (s_NameAt w1 _ T HR.out n).mono ?_
    rw [HN.out]
    rintro e w2 ⟨rfl, rfl⟩
    rw [HE1.out]
    cases s with
    | nil =>
      obtain rfl : sb = ⟨#[]⟩ := by
        have := HBB.out
        cases sb with
        | mk d => unfold bytesS at this; simp at this; rw [this]
      go_wp2_with (first | (go_at_call 16; (with_reducible refine (alive_any _).mono ?_); rintro e w' ⟨rfl, rfl⟩))
      go_ret
      exact ⟨rfl, HF.out.below⟩
    | cons c r =>
      obtain ⟨h1, h2, h3, h4⟩ := nameAtL_rest HN.out
      obtain ⟨m, rfl⟩ := Int.eq_ofNat_of_zero_le h2
      have hne : (sb.toList == (⟨#[]⟩ : ByteArray).toList) = false := str_ne (by rw [HBB.out]; simp [bytesS])
      have hem : sb.toList.isEmpty = false := by rw [toList_bytesS, HBB.out]; rfl
      have hlen : sb.size = r.length + 1 := by rw [HSZ.out]; rfl
      simp only [List.length_cons] at h3 h4
      have i1 : (m : Int) + ((r.length : Int) + 1) < (T.length : Int) := by omega
      have i5 : (m : Int) + ((r.length : Int) + 1) ≥ 0 := by omega
      obtain ⟨R, hR⟩ : ∃ R : ByteArray, ⟨r.toArray⟩ = R := ⟨_, rfl⟩
      have hRb : bytesS R = r := by rw [← hR]; exact bytesS_mk r
      have hrs : (R.toList == (sb.extract 1 (r.length + 1)).toList) = true := str_eq (by
        rw [hRb]
        have : bytesS (sb.extract 1 (r.length + 1)) = ((bytesS sb).take (r.length + 1)).drop 1 := by
          unfold bytesS
          rw [ByteArray.data_extract, Array.toList_extract]
          simp [List.extract_eq_take_drop, List.drop_take]
        rw [this, HBB.out]
        simp)
      have HO : Hid (optV (nameAtL T ((m : Int) + 1)) = .returned (.tuple #[.string R, .bool true])) := by show _ = _; rw [h1]; unfold optV; simp [hR]
      have hk : m + (r.length + 1) < T.length := by omega
      obtain ⟨b, off, rfl, hc⟩ := HC.out (by omega)
      have hcz : w1.cell? ⟨b, off + (m + (r.length + 1)), none⟩ = some (.int .u8 0) := by
        have := hc (m + (r.length + 1)) hk
        rw [this]
        have e : ((m : Int) + ((r.length + 1 : Nat) : Int)).toNat = m + (r.length + 1) := by omega
        rw [e, List.getElem?_eq_getElem hk] at h4
        simp only [Option.some.injEq] at h4
        rw [h4]; rfl
      have ht : ((m : Int) + ((r.length : Int) + 1)).toNat = m + (r.length + 1) := by omega
      clear h1 h2 h3 h4 hc hR hRb hk
      go_wp2_with fail
      refine (i_NameAt w1 _ T HR.out _).mono ?_
      rw [HO.out]
      rintro e w2 ⟨rfl, rfl⟩
      go_wp2_with fail
      go_ret
      exact ⟨rfl, HF.out.below⟩
  · subst hv
    have hl' : (1048576 : Int) < (l.length : Int) := by omega
    clear hl h
    unfold maxLen at hmax
    go_enter Try.func3, Try.ntmps3
    go_wp2_with fail
    go_ret
    exact ⟨rfl, Below.refl _ _⟩
set_option maxRecDepth 100000 in
theorem lifted_FnNameAt (os : Os) (started : os.Started) (H : Type) (enc : TypeId × Value → H) :
    ReturnsInHanded {} Try.checked os 3 .any (Rows.fnNameAtSpec.pre6 enc Try.prog Try.f3 Rows.fnNameAtRow.domain false) (Rows.fnNameAtSpec.post enc Try.prog Try.f3 false true false false) := by
  refine returnsInHanded_of_change (C := Try.checked) own_knob started (by kernel_rfl) Try.func3
    (ChangeSpec.witness6 (enc := enc) (C := Try.checked) false ⟨#[], #[.slice none 0 0], []⟩ 8 (by kernel_rfl) (by kernel_rfl) (by kernel_rfl) (by kernel_rfl)) ?_
  intro W base args ds gs before hval0 hW hcnd _
  have hval : ∀ (j : Nat) t v, Try.f3.params[j]? = some t → args[j]? = some v → Value.okWide Try.prog W .any base t v := hval0
  have hW' := hW
  obtain ⟨p, q, hA0, hV, rfl, hfz, hnd⟩ := hW
  have hA : DataW.TrodAll enc Try.prog W 0 (fun _ => true) true Try.f3.params.toList args.toList ds p := hA0
  rw [Try.params3] at hA hval
  obtain ⟨v0, vs0, d0, ds0, p0, q0, hargs, rfl, rfl, h0, r0⟩ := trodAll_cons hA
  obtain ⟨rfl, rfl, rfl⟩ := trodAll_nil r0
  obtain rfl : args = #[v0] := by cases args; simp_all
  obtain ⟨rfl, rfl⟩ := trodVars_none hV
  clear hA0 hval0
  have k0 := h0
  have t0 : ∀ x ∈ p0, x.block < W.heap.size := fun x hx => by simpa using hW'.lt x (by simp [hx])
  obtain ⟨l0, o0⟩ := open_bytesAt (hval 0 22 v0 rfl rfl) h0
  refine (walk_FnNameAt W v0 l0 o0).mono fun e W' ⟨he, hg⟩ => ?_
  subst he
  exact ⟨_, rfl, _, _, _, _, _, _, hW', (trodAll_cons_mk (shut_bool Try.underlying4 _) trodAll_mk0), (trodAll_cons_mk (Below.trod laid_out (by kernel_rfl) (of_decide_eq_true (by kernel_rfl)) k0 hg t0) trodAll_mk0), rfl, hg.frame _, fun h => by cases h⟩

theorem facts_FnNameAt : joinedFacts Try.prog 3 Try.f3 Rows.fnNameAtSpec Rows.fnNameAtRow = true := by
  unfold joinedFacts
  simp only [Bool.and_eq_true]
  repeat' apply And.intro
  all_goals first
    | with_reducible exact laid_out
    | with_reducible exact may_enter
    | (with_reducible rw [lifts_final]; as_aux_lemma => kernel_rfl)
    | (with_reducible rw [make_cut]; as_aux_lemma => kernel_rfl)
    | as_aux_lemma => kernel_rfl
theorem inst_FnNameAt : Try.f3.isInstance Try.prog Rows.fnNameAtRow.origin Rows.fnNameAtRow.targs := of_decide_eq_true (by kernel_rfl)
theorem wrap_FnNameAt : Try.f3.isWrapper Try.prog Rows.fnNameAtRow.wrapper Rows.fnNameAtRow.mainSum := by
  unfold Func.isWrapper
  first | (rw [if_pos (by decide +kernel)]; kernel_rfl) | (rw [if_neg (by decide +kernel)]; exact ⟨rfl, rfl⟩)
theorem named_FnNameAt : Try.prog.funcNamed Rows.fnNameAtRow.func = some 3 := by kernel_rfl
theorem over_FnNameAt : Rows.fnNameAtRow.holds Try.pinned (OpenSpec.ofChange Rows.fnNameAtSpec) :=
  OpenClaim.holds_of_wide 3 Try.f3 rfl rfl rfl rfl rfl rfl rfl ⟨rfl, rfl, rfl, rfl, rfl⟩ rfl rfl rfl rfl rfl named_FnNameAt Try.func3 facts_FnNameAt inst_FnNameAt wrap_FnNameAt
    (fun os started H enc _ => lifted_FnNameAt os started H enc)

/-- The statement. -/
theorem holds_FnNameAt : Rows.FnNameAtSaid :=
  over_FnNameAt
#print axioms holds_FnNameAt
end Go.Proofs.Ytadbafjmmhfeaaa
