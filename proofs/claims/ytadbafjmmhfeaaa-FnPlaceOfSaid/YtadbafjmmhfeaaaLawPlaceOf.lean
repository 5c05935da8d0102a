/- Places have names: NameAt the place is the name, and no place before it has it. No condition. -/
import Derived.Test.YtadbafjmmhfeaaaFacts
import Derived.Test.YtadbafjmmhfeaaaDrawK
import Derived.Test.YtadbafjmmhfeaaaDrawT
import Derived.Test.YtadbafjmmhfeaaaPlace
namespace Go.Proofs.Ytadbafjmmhfeaaa
open Go.ChangeShapes Go.WideShapes Go.ChangeAt Go.RowKit Go.Joins
set_option linter.unusedSimpArgs false
set_option linter.unusedVariables false
set_option maxRecDepth 100000
set_option maxHeartbeats 1000000 in
theorem walk_FnPlaceOf (w : World) (v : Value) (l : List UInt8) (h : BytesAt w v l) :
    Calls Try.prog 4 #[v] w fun e w' => e = .returned (.bool true) ∧ Below w.heap.size w w' := by
  obtain ⟨a, cap, hv, hcap, hmax, hnone, hcell⟩ := h.form
  clear hnone hcell
  by_cases hl : (l.length : Int) ≤ 1048576
  · have H := Lib.hid h
    clear h
    subst hv
    unfold maxLen at hmax
    go_enter Try.func4, Try.ntmps4
    go_wp2_with fail
    refine (drawPlaceOf_any _ _ l H.out).mono ?_
    rintro e w1 ⟨_, rfl, ⟨vb, T, nm, rfl, hR, hT, hn⟩, hF⟩
    obtain ⟨ta, tc, rfl, htc, htm, -, hcl⟩ := hR.form
    have HF := Lib.hid hF
    have HR := Lib.hid hR
    clear hF hR hcl
    unfold maxLen at htm
    obtain ⟨pl, hpl⟩ : ∃ pl, placeOf T (bytesS nm) = pl := ⟨_, rfl⟩
    have HP := Lib.hid hpl
    clear hpl
    go_wp2_with fail
    refine (i_PlaceOf w1 _ T HR.out nm).mono ?_
    rw [HP.out]
    rintro e w2 ⟨rfl, rfl⟩
    go_wp2_with fail
    refine (s_PlaceOf w1 _ T HR.out nm).mono ?_
    rw [HP.out]
    rintro e w2 ⟨rfl, rfl⟩
    go_wp2_with fail
    go_loop [6] (fun i => ∃ k : Nat, k ≤ T.length ∧ i = .int .i64 k ∧ Hid (∀ j, j < k → nameAtL T (j : Int) ≠ some (bytesS nm))) (fun i => T.length - (intOf i).toNat)
    case atStart => exact ⟨0, Nat.zero_le _, rfl, fun j hj => absurd hj (Nat.not_lt_zero _)⟩
    case round =>
      obtain ⟨k, hk, rfl, HB⟩ := hrel
      by_cases hlt : k < T.length
      · rcases hN : nameAtL T (k : Int) with _ | b
        · have HN := Lib.hid hN
          clear hN
          go_wp2_with fail
          refine (i_NameAt w1 _ T HR.out _).mono ?_
          rintro e w' ⟨rfl, rfl⟩
          rw [HN.out]
          have e1 : optV none = .returned (.tuple #[.string ⟨#[]⟩, .bool false]) := rfl
          rw [e1]
          clear e1
          go_wp2_with fail
          go_round
          case rel => exact ⟨k + 1, by omega, by go_num, fun j hj => by
            rcases Nat.lt_succ_iff_lt_or_eq.1 hj with h | rfl
            · exact HB.out j h
            · rw [HN.out]; simp⟩
          case measure => simp [intOf]; try omega
        · obtain ⟨sb, hsb⟩ : ∃ sb : ByteArray, ⟨b.toArray⟩ = sb := ⟨_, rfl⟩
          have hbb : bytesS sb = b := by rw [← hsb]; exact bytesS_mk b
          have e1 : optV (some b) = .returned (.tuple #[.string sb, .bool true]) := by unfold optV; simp [hsb]
          have HE1 := Lib.hid e1
          have HN := Lib.hid hN
          have HBB := Lib.hid hbb
          clear hN hsb hbb e1
          by_cases hb : bytesS sb = bytesS nm
          · have hs := str_eq hb
            have hp : placeOf T (bytesS nm) = k := placeOf_hit hlt (by rw [HN.out, ← HBB.out, hb]) HB.out
            obtain rfl : pl = (k : Int) := by rw [← HP.out]; exact hp
            clear hb hp
            go_wp2_with fail
            refine (i_NameAt w1 _ T HR.out _).mono ?_
            rintro e w' ⟨rfl, rfl⟩
            rw [HN.out, HE1.out]
            go_wp2_with fail
            go_ret
            exact ⟨rfl, HF.out.below⟩
          · have hs := str_ne hb
            have HX := Lib.hid hb
            clear hb
            go_wp2_with fail
            refine (i_NameAt w1 _ T HR.out _).mono ?_
            rintro e w' ⟨rfl, rfl⟩
            rw [HN.out, HE1.out]
            go_wp2_with fail
            go_round
            case rel => exact ⟨k + 1, by omega, by go_num, fun j hj => by
              rcases Nat.lt_succ_iff_lt_or_eq.1 hj with h | rfl
              · exact HB.out j h
              · rw [HN.out, ← HBB.out]; simpa using HX.out⟩
            case measure => simp [intOf]; try omega
      · have hp : placeOf T (bytesS nm) = -1 := placeOf_none fun j hj => HB.out j (by omega)
        obtain rfl : pl = -1 := by rw [← HP.out]; exact hp
        clear hp
        go_wp2_with (first | (go_at_call 16; (with_reducible refine (alive_any _).mono ?_); rintro e w' ⟨rfl, rfl⟩))
        go_ret
        exact ⟨rfl, HF.out.below⟩
  · subst hv
    have hl' : (1048576 : Int) < (l.length : Int) := by omega
    clear hl h
    unfold maxLen at hmax
    go_enter Try.func4, Try.ntmps4
    go_wp2_with fail
    go_ret
    exact ⟨rfl, Below.refl _ _⟩
set_option maxRecDepth 100000 in
theorem lifted_FnPlaceOf (os : Os) (started : os.Started) (H : Type) (enc : TypeId × Value → H) :
    ReturnsInHanded {} Try.checked os 4 .any (Rows.fnPlaceOfSpec.pre6 enc Try.prog Try.f4 Rows.fnPlaceOfRow.domain false) (Rows.fnPlaceOfSpec.post enc Try.prog Try.f4 false true false false) := by
  refine returnsInHanded_of_change (C := Try.checked) own_knob started (by kernel_rfl) Try.func4
    (ChangeSpec.witness6 (enc := enc) (C := Try.checked) false ⟨#[], #[.slice none 0 0], []⟩ 8 (by kernel_rfl) (by kernel_rfl) (by kernel_rfl) (by kernel_rfl)) ?_
  intro W base args ds gs before hval0 hW hcnd _
  have hval : ∀ (j : Nat) t v, Try.f4.params[j]? = some t → args[j]? = some v → Value.okWide Try.prog W .any base t v := hval0
  have hW' := hW
  obtain ⟨p, q, hA0, hV, rfl, hfz, hnd⟩ := hW
  have hA : DataW.TrodAll enc Try.prog W 0 (fun _ => true) true Try.f4.params.toList args.toList ds p := hA0
  rw [Try.params4] at hA hval
  obtain ⟨v0, vs0, d0, ds0, p0, q0, hargs, rfl, rfl, h0, r0⟩ := trodAll_cons hA
  obtain ⟨rfl, rfl, rfl⟩ := trodAll_nil r0
  obtain rfl : args = #[v0] := by cases args; simp_all
  obtain ⟨rfl, rfl⟩ := trodVars_none hV
  clear hA0 hval0
  have k0 := h0
  have t0 : ∀ x ∈ p0, x.block < W.heap.size := fun x hx => by simpa using hW'.lt x (by simp [hx])
  obtain ⟨l0, o0⟩ := open_bytesAt (hval 0 22 v0 rfl rfl) h0
  refine (walk_FnPlaceOf W v0 l0 o0).mono fun e W' ⟨he, hg⟩ => ?_
  subst he
  exact ⟨_, rfl, _, _, _, _, _, _, hW', (trodAll_cons_mk (shut_bool Try.underlying4 _) trodAll_mk0), (trodAll_cons_mk (Below.trod laid_out (by kernel_rfl) (of_decide_eq_true (by kernel_rfl)) k0 hg t0) trodAll_mk0), rfl, hg.frame _, fun h => by cases h⟩

theorem facts_FnPlaceOf : joinedFacts Try.prog 4 Try.f4 Rows.fnPlaceOfSpec Rows.fnPlaceOfRow = true := by
  unfold joinedFacts
  simp only [Bool.and_eq_true]
  repeat' apply And.intro
  all_goals first
    | with_reducible exact laid_out
    | with_reducible exact may_enter
    | (with_reducible rw [lifts_final]; as_aux_lemma => kernel_rfl)
    | (with_reducible rw [make_cut]; as_aux_lemma => kernel_rfl)
    | as_aux_lemma => kernel_rfl
theorem inst_FnPlaceOf : Try.f4.isInstance Try.prog Rows.fnPlaceOfRow.origin Rows.fnPlaceOfRow.targs := of_decide_eq_true (by kernel_rfl)
theorem wrap_FnPlaceOf : Try.f4.isWrapper Try.prog Rows.fnPlaceOfRow.wrapper Rows.fnPlaceOfRow.mainSum := by
  unfold Func.isWrapper
  first | (rw [if_pos (by decide +kernel)]; kernel_rfl) | (rw [if_neg (by decide +kernel)]; exact ⟨rfl, rfl⟩)
theorem named_FnPlaceOf : Try.prog.funcNamed Rows.fnPlaceOfRow.func = some 4 := by kernel_rfl
theorem over_FnPlaceOf : Rows.fnPlaceOfRow.holds Try.pinned (OpenSpec.ofChange Rows.fnPlaceOfSpec) :=
  OpenClaim.holds_of_wide 4 Try.f4 rfl rfl rfl rfl rfl rfl rfl ⟨rfl, rfl, rfl, rfl, rfl⟩ rfl rfl rfl rfl rfl named_FnPlaceOf Try.func4 facts_FnPlaceOf inst_FnPlaceOf wrap_FnPlaceOf
    (fun os started H enc _ => lifted_FnPlaceOf os started H enc)

/-- The statement. -/
theorem holds_FnPlaceOf : Rows.FnPlaceOfSaid :=
  over_FnPlaceOf
#print axioms holds_FnPlaceOf
end Go.Proofs.Ytadbafjmmhfeaaa
