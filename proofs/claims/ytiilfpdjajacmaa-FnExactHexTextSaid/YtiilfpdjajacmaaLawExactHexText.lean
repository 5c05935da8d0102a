/- The program's HexText returns what the reference's returns, for all arguments. No condition. -/
import Derived.Test.YtiilfpdjajacmaaBase
import Derived.Test.YtiilfpdjajacmaaNum
import Derived.Test.YtiilfpdjajacmaaBytes
import Derived.Test.YtiilfpdjajacmaaNameAt
import Derived.Test.YtiilfpdjajacmaaHex
namespace Go.Proofs.Ytiilfpdjajacmaa
open Go.ChangeShapes Go.WideShapes Go.ChangeAt Go.RowKit Go.Joins
set_option linter.unusedSimpArgs false
set_option linter.unusedVariables false
set_option maxHeartbeats 1000000 in
theorem walk_FnExactHexText (w : World) (v : Value) (l : List UInt8) (h : BytesAt w v l) :
    Calls Try.prog 9 #[v] w fun e w' => e = .returned (.bool true) ∧ Below w.heap.size w w' := by
  obtain ⟨a, cap, hv, hcap, hmax, hnone, hcell⟩ := h.form
  clear hnone hcell
  by_cases hl : (l.length : Int) ≤ 1048576
  · have hl' : l.length ≤ 1073741824 := by omega
    have H := Lib.hid h
    obtain ⟨s, hs⟩ : ∃ s : ByteArray, ⟨(hexText l).toArray⟩ = s := ⟨_, rfl⟩
    have HS := Lib.hid hs
    clear h hs
    subst hv
    go_enter Try.func9, Try.ntmps9
    go_wp2_with fail
    refine (toByteS_any w _ l H.out hl').mono ?_
    rintro e w1 ⟨r1, rfl, o1, h1⟩
    have F1 := (From.start w).call h1
    have A1 := H.out.below (Nat.le_refl _) h1
    have R1 := o1.reads
    clear h1 o1
    go_wp2_with fail
    refine (s_HexText w1 _ l R1 hl').mono ?_
    rintro e w2 ⟨rfl, h2⟩
    rw [HS.out]
    have F2 := F1.call h2
    have A2 := A1.below (Nat.le_refl _) h2
    clear h2 F1 R1 A1
    go_wp2_with fail
    refine (toByteS_any w2 _ l A2 hl').mono ?_
    rintro e w3 ⟨r3, rfl, o3, h3⟩
    have F3 := F2.call h3
    have A3 := A2.below (Nat.le_refl _) h3
    have R3 := o3.reads
    clear h3 o3 F2 A2
    go_wp2_with fail
    refine (i_HexText w3 _ l R3 hl').mono ?_
    rintro e w4 ⟨rfl, h4⟩
    rw [HS.out]
    have F4 := F3.call h4
    have A4 := A3.below (Nat.le_refl _) h4
    have R4 := R3.below (Nat.le_refl _) h4
    clear h4 F3 R3 A3
    go_wp2_with fail
    refine (toByteS_any w4 _ l A4 hl').mono ?_
    rintro e w5 ⟨r5, rfl, o5, h5⟩
    have F5 := F4.call h5
    have A5 := R4.below (Nat.le_refl _) h5
    have R5 := o5.reads
    clear h5 o5 F4 R4 A4
    go_wp2_with fail
    refine (l_eqByteS w5 _ _ l l A5 R5).mono ?_
    rintro e w6 ⟨rfl, h6⟩
    have F6 := F5.call h6
    have e6 := eqB_self l
    clear h6 F5
    go_wp2_with fail
    go_ret
    exact ⟨rfl, F6.below⟩
  · subst hv
    have hl' : (1048576 : Int) < (l.length : Int) := by omega
    clear hl h
    unfold maxLen at hmax
    go_enter Try.func9, Try.ntmps9
    go_wp2_with fail
    go_ret
    exact ⟨rfl, Below.refl _ _⟩
set_option maxRecDepth 100000 in
theorem lifted_FnExactHexText (os : Os) (started : os.Started) (H : Type) (enc : TypeId × Value → H) :
    ReturnsInHanded {} Try.checked os 9 .any (Rows.fnExactHexTextSpec.pre6 enc Try.prog Try.f9 Rows.fnExactHexTextRow.domain false) (Rows.fnExactHexTextSpec.post enc Try.prog Try.f9 false true false false) := by
  refine returnsInHanded_of_change (C := Try.checked) own_knob started (by kernel_rfl) Try.func9
    (ChangeSpec.witness6 (enc := enc) (C := Try.checked) false ⟨#[], #[.slice none 0 0], []⟩ 8 (by kernel_rfl) (by kernel_rfl) (by kernel_rfl) (by kernel_rfl)) ?_
  intro W base args ds gs before hval0 hW hcnd _
  have hval : ∀ (j : Nat) t v, Try.f9.params[j]? = some t → args[j]? = some v → Value.okWide Try.prog W .any base t v := hval0
  have hW' := hW
  obtain ⟨p, q, hA0, hV, rfl, hfz, hnd⟩ := hW
  have hA : DataW.TrodAll enc Try.prog W 0 (fun _ => true) true Try.f9.params.toList args.toList ds p := hA0
  rw [Try.params9] at hA hval
  obtain ⟨v0, vs0, d0, ds0, p0, q0, hargs, rfl, rfl, h0, r0⟩ := trodAll_cons hA
  obtain ⟨rfl, rfl, rfl⟩ := trodAll_nil r0
  obtain rfl : args = #[v0] := by cases args; simp_all
  obtain ⟨rfl, rfl⟩ := trodVars_none hV
  clear hA0 hval0
  have k0 := h0
  have t0 : ∀ x ∈ p0, x.block < W.heap.size := fun x hx => by simpa using hW'.lt x (by simp [hx])
  obtain ⟨l0, o0⟩ := open_bytesAt (hval 0 34 v0 rfl rfl) h0
  refine (walk_FnExactHexText W v0 l0 o0).mono fun e W' ⟨he, hg⟩ => ?_
  subst he
  exact ⟨_, rfl, _, _, _, _, _, _, hW', (trodAll_cons_mk (shut_bool Try.underlying4 _) trodAll_mk0), (trodAll_cons_mk (Below.trod laid_out (by kernel_rfl) (of_decide_eq_true (by kernel_rfl)) k0 hg t0) trodAll_mk0), rfl, hg.frame _, fun h => by cases h⟩

theorem over_FnExactHexText : Rows.fnExactHexTextRow.holds Try.pinned (OpenSpec.ofChange Rows.fnExactHexTextSpec) :=
  OpenClaim.holds_of_wide 9 Try.f9 rfl rfl rfl rfl rfl rfl rfl ⟨rfl, rfl, rfl, rfl, rfl⟩ rfl rfl rfl rfl rfl (by kernel_rfl) Try.func9 (by kernel_rfl)
    (of_decide_eq_true (by kernel_rfl)) (by unfold Func.isWrapper; first | (rw [if_pos (by decide +kernel)]; kernel_rfl) | (rw [if_neg (by decide +kernel)]; exact ⟨rfl, rfl⟩))
    (fun os started H enc _ => lifted_FnExactHexText os started H enc)

/-- The statement. -/
theorem holds_FnExactHexText : Rows.FnExactHexTextSaid :=
  over_FnExactHexText
#print axioms holds_FnExactHexText
end Go.Proofs.Ytiilfpdjajacmaa
