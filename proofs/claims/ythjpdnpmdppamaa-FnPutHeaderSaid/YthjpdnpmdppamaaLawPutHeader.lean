/- Headers can be read: GetHeader of PutHeader's bytes returns the header, whatever is behind them. No condition. -/
import Derived.Test.YthjpdnpmdppamaaFacts
import Derived.Test.YthjpdnpmdppamaaDrawK
import Derived.Test.YthjpdnpmdppamaaGetHeadA
namespace Go.Proofs.Ythjpdnpmdppamaa
open Go.ChangeShapes Go.WideShapes Go.ChangeAt Go.RowKit Go.Joins
set_option linter.unusedSimpArgs false
set_option linter.unusedVariables false
set_option maxRecDepth 100000
set_option maxHeartbeats 1000000 in
theorem walk_FnPutHeader (w : World) (v : Value) (l : List UInt8) (h : BytesAt w v l) :
    Calls Try.prog 19 #[v] w fun e w' => e = .returned (.bool true) ∧ Below w.heap.size w w' := by
  obtain ⟨a, cap, hv, hcap, hmax, hnone, hcell⟩ := h.form
  clear hnone hcell
  by_cases hl : (l.length : Int) ≤ 1048576
  · have H := Lib.hid h
    clear h
    subst hv
    unfold maxLen at hmax
    go_enter Try.func19, Try.ntmps19
    go_wp2_with fail
    refine (s_DrawPutHeader _ _ l H.out).mono ?_
    rintro e w1 ⟨_, rfl, ⟨a, b, c, d, rfl⟩, hF⟩
    have HF := Lib.hid hF
    obtain ⟨i0, hi, hz0, hz1, hz2⟩ := info_parts info_u8
    obtain ⟨PH, hPH⟩ : ∃ PH, putHead a b c d = PH := ⟨_, rfl⟩
    have hpl : PH.length ≤ 10 := by rw [← hPH]; exact putHead_length a b c d
    have HPH := Lib.hid hPH
    clear hF hPH
    go_wp2_with fail
    refine (i_PutHeader _ a b c d).mono ?_
    rw [HPH.out]
    rintro e w2 ⟨r, rfl, o2, h2⟩
    obtain ⟨ra, rc, rfl⟩ := owns_form o2
    have HF2 := Lib.hid ((HF.out.alloc _).call h2)
    have HO2 := Lib.hid o2.reads
    have B2 := (Blk.new w1 (headCells a b c d) 28).call h2
    have c2 := B2.cell
    have z2 := B2.lt
    clear h2 o2 HF
    go_wp2_with fail
    refine (s_PutHeader w2 a b c d).mono ?_
    rw [HPH.out]
    rintro e w3 ⟨r, rfl, o3, h3⟩
    obtain ⟨rb, rd, rfl⟩ := owns_form o3
    have HF3 := Lib.hid (HF2.out.call h3)
    have HR3 := Lib.hid (HO2.out.below (Nat.le_refl _) h3)
    have HO3 := Lib.hid o3.reads
    have B3 := B2.call h3
    clear h3 o3 HF2 HO2 c2 z2 B2
    go_wp2_with fail
    refine (l_sameBytes w3 _ _ PH PH HR3.out HO3.out).mono ?_
    rw [eqB_self]
    rintro e w4 ⟨rfl, h4⟩
    have HF4 := Lib.hid (HF3.out.call h4)
    have HR4 := Lib.hid (HR3.out.below (Nat.le_refl _) h4)
    have B4 := B3.call h4
    have c4 := B4.cell
    have z4 := B4.lt
    clear h4 HF3 HR3 HO3 B3
    go_wp2_with fail
    refine (s_HeaderValid a b c d w4).mono ?_
    rintro e w5 ⟨rfl, h5⟩
    have HF5 := Lib.hid (HF4.out.call h5)
    have HR5 := Lib.hid (HR4.out.below (Nat.le_refl _) h5)
    have B5 := Lib.hid (B4.call h5)
    clear h5 HF4 HR4 B4 c4 z4
    cases hv : headerB a b c d
    · have hz : PH.length = 0 := by rw [← HPH.out]; unfold putHead; rw [hv]; rfl
      have e0 : ((PH.length : Int) == 0) = true := by simp [hz]
      clear hz hv
      go_wp2_with (first | (go_at_call 32; (with_reducible refine (alive_any _).mono ?_); rintro e w' ⟨rfl, rfl⟩))
      go_ret
      exact ⟨rfl, HF5.out.below⟩
    · obtain ⟨g1, g2⟩ := getHead_put hv [7, 8, 9]
      rw [HPH.out] at g1 g2
      obtain ⟨QL, hQ⟩ : ∃ QL, PH ++ [7, 8, 9] = QL := ⟨_, rfl⟩
      rw [hQ] at g1
      have HQ := Lib.hid hQ
      have G1 := Lib.hid g1
      have hpl' : (PH.length : Int) = 10 := by omega
      have e10 : ((PH.length : Int) == 10) = true := by rw [beq_iff_eq]; exact hpl'
      have HS := Lib.hid (src_reads Try.underlying22 (HR5.out.below (Nat.le_refl _) ((From.start w5).alloc (.cells #[] 5)).below) (bvs_one _))
      clear g1 g2 hv hpl' hQ
      go_wp2_with (at_builtin; refine wpList_append_src rfl (.tmp 29) (.tmp 30) 22 22 rfl w5.heap.size 5 i0 (.int .u8 0) 1 1 Try.underlying22 hi hz0 hz1 hz2 rfl (by decide) _ 0 [] rfl (World.ownsRow_lit (size := 1) w5 #[] 0 (Nat.le_refl _) (Nat.zero_le _) rfl) _ _ _ rfl HS.out ?c1 ?c2 ?c3 ?_)
      case c1 => unfold maxLen; omega
      case c2 => omega
      case c3 => exact Nat.le_of_lt (by simp)
      intro v6 w6 hown hgr
      have hO6 : OwnB w6 w5.heap.size v6 PH := by
        unfold OwnB
        first
          | exact hown
          | simpa using hown
      have F6 := ((From.start w5).alloc (.cells #[] 5)).grown hgr (owns_block (World.ownsRow_lit (size := 1) (e := 5) w5 #[] 0 (Nat.le_refl _) (Nat.zero_le _) rfl))
      have HO6 := Lib.hid hO6
      have HF6 := Lib.hid F6
      clear hown hgr hO6 F6 HS
      go_wp2_with (at_builtin; refine wpList_append_src rfl (.tmp 31) (.tmp 32) 22 22 rfl w5.heap.size 5 i0 (.int .u8 0) 1 1 Try.underlying22 hi hz0 hz1 hz2 rfl (by decide) _ _ _ rfl (HO6.out.alloc _) _ 3 [.int .u8 7, .int .u8 8, .int .u8 9] rfl (src_new Try.underlying22 _ [.int .u8 7, .int .u8 8, .int .u8 9] 1 3 3 _ rfl ?d0) ?d1 ?d2 ?d3 ?_)
      case d0 => intro u hu; simp only [List.mem_cons, List.not_mem_nil, or_false] at hu; rcases hu with rfl | rfl | rfl <;> rfl
      case d1 => unfold maxLen; omega
      case d2 => omega
      case d3 => have := HF6.out.le; simp; omega
      intro v7 w7 hown hgr
      have hO7 : OwnB w7 w5.heap.size v7 QL := by
        rw [← HQ.out]
        unfold OwnB
        rw [List.length_append, bvs_append]
        exact hown
      obtain ⟨r7, q7, hv7⟩ := owns_form hO7
      have F7 := (HF6.out.alloc (.cells #[.int .u8 7, .int .u8 8, .int .u8 9] 5)).grown hgr (owns_block HO6.out)
      have HO7 := Lib.hid hO7.reads
      have HF7 := Lib.hid F7
      clear hown hgr hO7 F7 HO6 HF6
      subst hv7
      go_wp2_with fail
      refine (i_GetHeader_all w7 _ QL HO7.out).mono ?_
      rw [G1.out]
      unfold RetHead
      rintro e w8 ⟨rfl, h8⟩
      simp only [headOpt, Option.isSome_some]
      have F8 := HF7.out.call h8
      have B8 := B5.out.below F8.below (B5.out.lt)
      have c8 := B8.cell
      have z8 := B8.lt
      have HF8 := Lib.hid (HF5.out.trans (F8.below.mono HF5.out.le))
      clear h8 HF7 HO7 F8 B8
      go_wp2_with fail
      go_ret
      exact ⟨rfl, (HF8.out.alloc _).below⟩
  · subst hv
    have hl' : (1048576 : Int) < (l.length : Int) := by omega
    clear hl h
    unfold maxLen at hmax
    go_enter Try.func19, Try.ntmps19
    go_wp2_with fail
    go_ret
    exact ⟨rfl, Below.refl _ _⟩
set_option maxRecDepth 100000 in
theorem lifted_FnPutHeader (os : Os) (started : os.Started) (H : Type) (enc : TypeId × Value → H) :
    ReturnsInHanded {} Try.checked os 19 .any (Rows.fnPutHeaderSpec.pre6 enc Try.prog Try.f19 Rows.fnPutHeaderRow.domain false) (Rows.fnPutHeaderSpec.post enc Try.prog Try.f19 false true false false) := by
  refine returnsInHanded_of_change (C := Try.checked) own_knob started (by kernel_rfl) Try.func19
    (ChangeSpec.witness6 (enc := enc) (C := Try.checked) false ⟨#[], #[.slice none 0 0], []⟩ 8 (by kernel_rfl) (by kernel_rfl) (by kernel_rfl) (by kernel_rfl)) ?_
  intro W base args ds gs before hval0 hW hcnd _
  have hval : ∀ (j : Nat) t v, Try.f19.params[j]? = some t → args[j]? = some v → Value.okWide Try.prog W .any base t v := hval0
  have hW' := hW
  obtain ⟨p, q, hA0, hV, rfl, hfz, hnd⟩ := hW
  have hA : DataW.TrodAll enc Try.prog W 0 (fun _ => true) true Try.f19.params.toList args.toList ds p := hA0
  rw [Try.params19] at hA hval
  obtain ⟨v0, vs0, d0, ds0, p0, q0, hargs, rfl, rfl, h0, r0⟩ := trodAll_cons hA
  obtain ⟨rfl, rfl, rfl⟩ := trodAll_nil r0
  obtain rfl : args = #[v0] := by cases args; simp_all
  obtain ⟨rfl, rfl⟩ := trodVars_none hV
  clear hA0 hval0
  have k0 := h0
  have t0 : ∀ x ∈ p0, x.block < W.heap.size := fun x hx => by simpa using hW'.lt x (by simp [hx])
  obtain ⟨l0, o0⟩ := open_bytesAt (hval 0 22 v0 rfl rfl) h0
  refine (walk_FnPutHeader W v0 l0 o0).mono fun e W' ⟨he, hg⟩ => ?_
  subst he
  exact ⟨_, rfl, _, _, _, _, _, _, hW', (trodAll_cons_mk (shut_bool Try.underlying4 _) trodAll_mk0), (trodAll_cons_mk (Below.trod laid_out (by kernel_rfl) (of_decide_eq_true (by kernel_rfl)) k0 hg t0) trodAll_mk0), rfl, hg.frame _, fun h => by cases h⟩

theorem facts_FnPutHeader : joinedFacts Try.prog 19 Try.f19 Rows.fnPutHeaderSpec Rows.fnPutHeaderRow = true := by
  unfold joinedFacts
  simp only [Bool.and_eq_true]
  repeat' apply And.intro
  all_goals first
    | with_reducible exact laid_out
    | with_reducible exact may_enter
    | (with_reducible rw [lifts_final]; as_aux_lemma => kernel_rfl)
    | (with_reducible rw [make_cut]; as_aux_lemma => kernel_rfl)
    | as_aux_lemma => kernel_rfl
theorem inst_FnPutHeader : Try.f19.isInstance Try.prog Rows.fnPutHeaderRow.origin Rows.fnPutHeaderRow.targs := of_decide_eq_true (by kernel_rfl)
theorem wrap_FnPutHeader : Try.f19.isWrapper Try.prog Rows.fnPutHeaderRow.wrapper Rows.fnPutHeaderRow.mainSum := by
  unfold Func.isWrapper
  first | (rw [if_pos (by decide +kernel)]; kernel_rfl) | (rw [if_neg (by decide +kernel)]; exact ⟨rfl, rfl⟩)
theorem named_FnPutHeader : Try.prog.funcNamed Rows.fnPutHeaderRow.func = some 19 := by kernel_rfl
theorem over_FnPutHeader : Rows.fnPutHeaderRow.holds Try.pinned (OpenSpec.ofChange Rows.fnPutHeaderSpec) :=
  OpenClaim.holds_of_wide 19 Try.f19 rfl rfl rfl rfl rfl rfl rfl ⟨rfl, rfl, rfl, rfl, rfl⟩ rfl rfl rfl rfl rfl named_FnPutHeader Try.func19 facts_FnPutHeader inst_FnPutHeader wrap_FnPutHeader
    (fun os started H enc _ => lifted_FnPutHeader os started H enc)

/-- The statement. -/
theorem holds_FnPutHeader : Rows.FnPutHeaderSaid :=
  over_FnPutHeader
#print axioms holds_FnPutHeader
end Go.Proofs.Ythjpdnpmdppamaa
