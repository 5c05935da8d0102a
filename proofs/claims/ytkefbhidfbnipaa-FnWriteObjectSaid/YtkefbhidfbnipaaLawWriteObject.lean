/- Written objects can be read: ReadObject of WriteObject's bytes returns the object; with a byte more it is refused. No condition. -/
import Derived.Test.YtkefbhidfbnipaaBase
import Derived.Test.YtkefbhidfbnipaaDrawK
import Derived.Test.YtkefbhidfbnipaaDrawO
import Derived.Test.YtkefbhidfbnipaaLen
import Derived.Test.YtkefbhidfbnipaaWrI
import Derived.Test.YtkefbhidfbnipaaWrS
import Derived.Test.YtkefbhidfbnipaaReadO
import Derived.Test.YtkefbhidfbnipaaSame
import Derived.Test.YtkefbhidfbnipaaObjVal
namespace Go.Proofs.Ytkefbhidfbnipaa
open Go.ChangeShapes Go.WideShapes Go.ChangeAt Go.RowKit Go.Joins
set_option linter.unusedSimpArgs false
set_option linter.unusedVariables false
set_option maxRecDepth 100000
theorem lenO_write (o : ObjD) : lenO o = ((writeL o).length : Int) := by
  unfold lenO
  by_cases h : objB o = true
  · rw [if_pos h, writeL_len h]
    push_cast
    omega
  · rw [if_neg h]
    unfold writeL
    rw [if_neg h]
    rfl
set_option maxHeartbeats 1000000 in
theorem walk_FnWriteObject (w : World) (v : Value) (l : List UInt8) (h : BytesAt w v l) :
    Calls Try.prog 3 #[v] w fun e w' => e = .returned (.bool true) ∧ Below w.heap.size w w' := by
  obtain ⟨a, cap, hv, hcap, hmax, hnone, hcell⟩ := h.form
  clear hnone hcell
  by_cases hl : (l.length : Int) ≤ 1048576
  · have H := Lib.hid h
    clear h
    subst hv
    unfold maxLen at hmax
    go_enter Try.func3, Try.ntmps3
    go_wp2_with fail
    refine (s_DrawWriteObject_any _ _ l H.out).mono ?_
    rintro e w1 ⟨_, rfl, ⟨o, ho, hn1, hn2, hl1, hl2, -⟩, hF⟩
    obtain ⟨sa, sc, ya, yc, rfl⟩ := ho.agg
    obtain ⟨i0, hi, hz0, hz1, hz2⟩ := info_parts info_u8
    have HF := Lib.hid hF
    have HWL : Hid (w.heap.size ≤ w1.heap.size) := hF.le
    have HO := Lib.hid ho
    have HN := Lib.hid (⟨fun s hs => by have := hn1 s hs; unfold maxLen; omega, fun s hs => by have := hn2 s hs; unfold maxLen; omega⟩ : (∀ s ∈ o.secs, s.name.size ≤ maxLen) ∧ ∀ s ∈ o.syms, s.name.size ≤ maxLen)
    obtain ⟨W, hW⟩ : ∃ W, writeL o = W := ⟨_, rfl⟩
    have hm2 := writeL_le o
    rw [hW] at hm2
    have E : Hid (lenO o = (W.length : Int)) := by show _ = _; rw [lenO_write, hW]
    have HW := Lib.hid hW
    clear hF ho hn1 hn2 hW
    go_wp2_with fail
    refine (i_WriteObject _ _ o (HO.out.below (Nat.le_refl _) ((From.start w1).alloc _).below) HN.out).mono ?_
    rw [HW.out]
    rintro e w2 ⟨r2, rfl, o2, h2⟩
    obtain ⟨ra, rc, rfl⟩ := owns_form o2
    have HG2 := Lib.hid (((From.start w1).alloc _).call h2)
    have HF2 := Lib.hid ((HF.out.alloc _).call h2)
    have HB2 := Lib.hid ((Blk.new w1 #[.slice sa o.secs.length sc, .slice ya o.syms.length yc] 26).call h2)
    have HR2 := Lib.hid o2.reads
    have c2 := HB2.out.cell
    have z2 := HB2.out.lt
    clear h2 o2 HF
    go_wp2_with fail
    refine (s_WriteObject _ _ o (HO.out.below (Nat.le_refl _) HG2.out.below) HN.out).mono ?_
    rw [HW.out]
    rintro e w3 ⟨r3, rfl, o3, h3⟩
    obtain ⟨rb, rd, rfl⟩ := owns_form o3
    have HG3 := Lib.hid (HG2.out.call h3)
    have HF3 := Lib.hid (HF2.out.call h3)
    have HB3 := Lib.hid (HB2.out.call h3)
    have HR3 := Lib.hid (HR2.out.below (Nat.le_refl _) h3)
    have HS3 := Lib.hid o3.reads
    clear h3 o3 HF2 HG2 HB2 HR2 c2 z2
    go_wp2_with fail
    refine (l_sameBytes w3 _ _ W W HR3.out HS3.out).mono ?_
    rw [eqB_self]
    rintro e w4 ⟨rfl, h4⟩
    have HG4 := Lib.hid (HG3.out.call h4)
    have HF4 := Lib.hid (HF3.out.call h4)
    have HB4 := Lib.hid (HB3.out.call h4)
    have HR4 := Lib.hid (HR3.out.below (Nat.le_refl _) h4)
    have c4 := HB4.out.cell
    have z4 := HB4.out.lt
    clear h4 HF3 HG3 HB3 HR3 HS3
    go_wp2_with fail
    refine (s_ObjectValid _ _ o (HO.out.below (Nat.le_refl _) HG4.out.below) HN.out).mono ?_
    rintro e w5 ⟨rfl, h5⟩
    have HG5 := Lib.hid (HG4.out.call h5)
    have HF5 := Lib.hid (HF4.out.call h5)
    have HB5 := Lib.hid (HB4.out.call h5)
    have HR5 := Lib.hid (HR4.out.below (Nat.le_refl _) h5)
    clear h5 HF4 HG4 HB4 HR4 c4 z4
    cases hv : objB o
    · have hz : W.length = 0 := by rw [← HW.out]; unfold writeL; rw [hv]; rfl
      have e0 : ((W.length : Int) == 0) = true := by simp [hz]
      clear hz hv
      go_wp2_with (first | (go_at_call 10; (with_reducible refine (alive_any _).mono ?_); rintro e w' ⟨rfl, rfl⟩))
      go_ret
      exact ⟨rfl, HF5.out.below⟩
    · have HRW : Hid (readI W = some o) := by show _ = _; rw [← HW.out]; exact readI_write hv
      have HRM : Hid (readI (W ++ [0]) = none) := by show _ = _; rw [← HW.out]; exact readI_more hv 0 []
      clear hv
      go_wp2_with fail
      refine (i_ReadObject w5 _ W HR5.out).mono ?_
      rw [HRW.out]
      rintro e w6 ⟨r6, rfl, o6, h6⟩
      simp only [Option.getD_some] at o6
      obtain ⟨ta, tc, tb, td, rfl⟩ := o6.reads.agg
      have HG6 := Lib.hid ((HG5.out.call h6).alloc (.cells #[.slice ta o.secs.length tc, .slice tb o.syms.length td] 26))
      have HF6 := Lib.hid ((HF5.out.call h6).alloc (.cells #[.slice ta o.secs.length tc, .slice tb o.syms.length td] 26))
      have HB6 := Lib.hid ((HB5.out.call h6).alloc (.cells #[.slice ta o.secs.length tc, .slice tb o.syms.length td] 26))
      have HR6 := Lib.hid ((HR5.out.below (Nat.le_refl _) h6).below (Nat.le_refl _) ((From.start w6).alloc (.cells #[.slice ta o.secs.length tc, .slice tb o.syms.length td] 26)).below)
      have HX6 := Lib.hid (Blk.new w6 #[.slice ta o.secs.length tc, .slice tb o.syms.length td] 26)
      have hY6 := o6.reads
      have HY6 : Hid (∀ u, From w6.heap.size w6 u → ObjAt u (.agg #[.slice ta o.secs.length tc, .slice tb o.syms.length td]) o) := fun u hu => hY6.below (Nat.le_refl _) hu.below
      have HK6 := Lib.hid ((From.start w6).alloc (.cells #[.slice ta o.secs.length tc, .slice tb o.syms.length td] 26))
      clear hY6
      have HZ6 : Hid (w1.heap.size < w6.heap.size) := by show _ < _; exact Nat.lt_of_lt_of_le HB5.out.lt h6.size
      simp only [Option.isSome_some]
      obtain ⟨QL, hQ⟩ : ∃ QL, W ++ [0] = QL := ⟨_, rfl⟩
      rw [hQ] at HRM
      have HQ := Lib.hid hQ
      have HS := Lib.hid (src_reads Try.underlying22 (HR6.out.below (Nat.le_refl _) ((From.start _).alloc (.cells #[] 5)).below) (bvs_one _))
      have hlit : ((w6.alloc (.cells #[.slice ta o.secs.length tc, .slice tb o.syms.length td] 26)).alloc (.cells #[] 5)).ownsRow w6.heap.size 5 1 (.slice (some ⟨w6.heap.size + 1, 0, none⟩) 0 0) 0 [] := by
        have h9 := World.ownsRow_lit (base := w6.heap.size) (size := 1) (e := 5) (w6.alloc (.cells #[.slice ta o.secs.length tc, .slice tb o.syms.length td] 26)) #[] 0 (by simp) (Nat.zero_le _) rfl
        simpa using h9
      have HLIT := Lib.hid hlit
      obtain ⟨nW, hnW⟩ : ∃ nW, W.length = nW := ⟨_, rfl⟩
      have HNW := Lib.hid hnW
      rw [hnW] at E HS hm2 ⊢
      clear hlit h6 o6 HF5 HG5 HB5 HR5 HRW hQ hnW
      go_wp2_with (at_builtin; refine wpList_append_src rfl (.tmp 36) (.tmp 37) 22 22 rfl w6.heap.size 5 i0 (.int .u8 0) 1 1 Try.underlying22 hi hz0 hz1 hz2 rfl (by decide) _ 0 [] rfl HLIT.out _ _ _ rfl HS.out ?c1 ?c2 ?c3 ?_)
      case c1 => unfold maxLen; omega
      case c2 => omega
      case c3 => simp; omega
      intro v7 w7 hown hgr
      have hO7 : OwnB w7 w6.heap.size v7 W := by
        unfold OwnB
        rw [HNW.out]
        first
          | exact hown
          | simpa using hown
      have k7 := (((From.start (w6.alloc (.cells #[.slice ta o.secs.length tc, .slice tb o.syms.length td] 26)))).alloc (.cells #[] 5)).grown hgr (fun k hk => by simp only [Value.ownBlock, Option.some.injEq] at hk; simp; omega)
      have HO7 := Lib.hid hO7
      have HG7 := Lib.hid (HG6.out.call k7.below)
      have HF7 := Lib.hid (HF6.out.call k7.below)
      have HB7 := Lib.hid (HB6.out.call k7.below)
      have HR7 := Lib.hid (HR6.out.below (Nat.le_refl _) k7.below)
      have HX7 := Lib.hid (HX6.out.call k7.below)
      have HK7 := Lib.hid (HK6.out.call k7.below)
      have z7 : w6.heap.size ≤ w7.heap.size := by have := HX7.out.lt; omega
      clear hown hgr hO7 k7 HS HG6 HF6 HB6 HR6 HX6 HK6 HLIT
      generalize w6.heap.size = q6 at *
      go_wp2_with (at_builtin; refine wpList_append_src rfl (.tmp 38) (.tmp 39) 22 22 rfl q6 5 i0 (.int .u8 0) 1 1 Try.underlying22 hi hz0 hz1 hz2 rfl (by decide) _ _ _ rfl (HO7.out.alloc _) _ 1 [.int .u8 0] rfl (src_new Try.underlying22 _ [.int .u8 0] 1 1 1 _ rfl ?d0) ?d1 ?d2 ?d3 ?_)
      case d0 => intro u hu; obtain rfl := List.mem_singleton.1 hu; rfl
      case d1 => have := HNW.out; unfold maxLen; omega
      case d2 => have := HNW.out; omega
      case d3 => simp; omega
      intro v8 w8 hown hgr
      have hO8 : OwnB w8 q6 v8 QL := by
        rw [← HQ.out]
        unfold OwnB
        rw [List.length_append, bvs_append]
        exact hown
      obtain ⟨r8, c8, hv8⟩ := owns_form hO8
      have hne : ∀ k, v7.ownBlock = some k → q6 ≤ k := fun k hk => (World.ownsRow.lt HO7.out k hk).1
      have HK8 := Lib.hid ((HK7.out.alloc (.cells #[.int .u8 0] 5)).grown hgr hne)
      have HG8 := Lib.hid ((HG7.out.alloc (.cells #[.int .u8 0] 5)).grown hgr (fun k hk => by have := hne k hk; have := HZ6.out; omega))
      have HF8 := Lib.hid ((HF7.out.alloc (.cells #[.int .u8 0] 5)).grown hgr (fun k hk => by have := hne k hk; have := HZ6.out; have := HG7.out.le; have := HWL.out; omega))
      have HB8 := Lib.hid ((HB7.out.alloc (.cells #[.int .u8 0] 5)).grown hgr (fun e => by have := hne _ e.symm; have := HZ6.out; omega))
      have HX8 := Lib.hid ((HX7.out.alloc (.cells #[.int .u8 0] 5)).grown hgr (fun e => blk_apart (HX7.out.alloc (.cells #[.int .u8 0] 5)) (HO7.out.alloc (.cells #[.int .u8 0] 5)) (by decide) e))
      have HO8 := Lib.hid hO8.reads
      subst hv8
      clear hown hgr hO8 hne HK7 HG7 HF7 HB7 HX7 HR7 HO7 z7
      go_wp2_with fail
      refine (i_ReadObject w8 _ QL HO8.out).mono ?_
      rw [HRM.out]
      rintro e w9 ⟨r9, rfl, o9, h9⟩
      simp only [Option.getD_none, Option.isSome_none] at o9 ⊢
      obtain ⟨ua, uc, ub, ud, rfl⟩ := o9.reads.agg
      simp only [List.length_nil]
      have HK9 := Lib.hid ((HK8.out.call h9).alloc (.cells #[.slice ua 0 uc, .slice ub 0 ud] 26))
      have HG9 := Lib.hid ((HG8.out.call h9).alloc (.cells #[.slice ua 0 uc, .slice ub 0 ud] 26))
      have HF9 := Lib.hid ((HF8.out.call h9).alloc (.cells #[.slice ua 0 uc, .slice ub 0 ud] 26))
      have HB9 := Lib.hid ((HB8.out.call h9).alloc (.cells #[.slice ua 0 uc, .slice ub 0 ud] 26))
      have HX9 := Lib.hid ((HX8.out.call h9).alloc (.cells #[.slice ua 0 uc, .slice ub 0 ud] 26))
      have cB := HB9.out.cell
      have zB := HB9.out.lt
      have cX := HX9.out.cell
      have zX := HX9.out.lt
      clear o9 h9 HK8 HG8 HF8 HB8 HX8 HO8
      go_wp2_with fail
      refine (sameObject_same _ _ _ o (HY6.out _ HK9.out) (HO.out.below (Nat.le_refl _) HG9.out.below)).mono ?_
      rintro e w10 ⟨rfl, h10⟩
      have HK10 := Lib.hid (HK9.out.call h10)
      have HG10 := Lib.hid (HG9.out.call h10)
      have HF10 := Lib.hid (HF9.out.call h10)
      have HB10 := Lib.hid (HB9.out.call h10)
      clear cB zB cX zX h10 HK9 HG9 HF9 HB9 HX9
      have cB := HB10.out.cell
      have zB := HB10.out.lt
      go_wp2_with fail
      refine (i_ObjectLength _ _ o (HO.out.below (Nat.le_refl _) HG10.out.below) HN.out).mono ?_
      rw [E.out]
      rintro e w11 ⟨rfl, h11⟩
      have HF11 := Lib.hid (HF10.out.call h11)
      have e11 : ((nW : Int) == (nW : Int)) = true := by simp
      clear h11 HF10 HG10 HK10 HB10 cB zB
      go_wp2_with fail
      go_ret
      exact ⟨rfl, HF11.out.below⟩
  · subst hv
    have hl' : (1048576 : Int) < (l.length : Int) := by omega
    clear hl h
    unfold maxLen at hmax
    go_enter Try.func3, Try.ntmps3
    go_wp2_with fail
    go_ret
    exact ⟨rfl, Below.refl _ _⟩
set_option maxRecDepth 100000 in
theorem lifted_FnWriteObject (os : Os) (started : os.Started) (H : Type) (enc : TypeId × Value → H) :
    ReturnsInHanded {} Try.checked os 3 .any (Rows.fnWriteObjectSpec.pre6 enc Try.prog Try.f3 Rows.fnWriteObjectRow.domain false) (Rows.fnWriteObjectSpec.post enc Try.prog Try.f3 false true false false) := by
  refine returnsInHanded_of_change (C := Try.checked) own_knob started (by kernel_rfl) Try.func3
    (ChangeSpec.witness6 (enc := enc) (C := Try.checked) false ⟨#[], #[.slice none 0 0], []⟩ 8 (by kernel_rfl) (by kernel_rfl) (by kernel_rfl) (by kernel_rfl)) ?_
  intro W base args ds gs before hval0 hW hcnd _
  have hval : ∀ (j : Nat) t v, Try.f3.params[j]? = some t → args[j]? = some v → Value.okWide Try.prog W .any base t v := hval0
  have hW' := hW
  obtain ⟨p, q, hA0, hV, rfl, hfz, hnd⟩ := hW
  have hA : DataW.TrodAll enc Try.prog W 0 (fun _ => true) true Try.f3.params.toList args.toList ds p := hA0
  rw [Try.params3] at hA hval
  obtain ⟨v0, vs0, d0, ds0, p0, q0, hargs, rfl, rfl, h0, r0⟩ := trodAll_cons hA
  obtain ⟨rfl, rfl, rfl⟩ := trodAll_nil r0
  obtain rfl : args = #[v0] := by cases args; simp_all
  obtain ⟨rfl, rfl⟩ := trodVars_none hV
  clear hA0 hval0
  have k0 := h0
  have t0 : ∀ x ∈ p0, x.block < W.heap.size := fun x hx => by simpa using hW'.lt x (by simp [hx])
  obtain ⟨l0, o0⟩ := open_bytesAt (hval 0 22 v0 rfl rfl) h0
  refine (walk_FnWriteObject W v0 l0 o0).mono fun e W' ⟨he, hg⟩ => ?_
  subst he
  exact ⟨_, rfl, _, _, _, _, _, _, hW', (trodAll_cons_mk (shut_bool Try.underlying4 _) trodAll_mk0), (trodAll_cons_mk (Below.trod laid_out (by kernel_rfl) (of_decide_eq_true (by kernel_rfl)) k0 hg t0) trodAll_mk0), rfl, hg.frame _, fun h => by cases h⟩

set_option maxHeartbeats 2000000 in
theorem facts_FnWriteObject : joinedFacts Try.prog 3 Try.f3 Rows.fnWriteObjectSpec Rows.fnWriteObjectRow = true := by
  unfold joinedFacts
  simp only [Bool.and_eq_true]
  repeat' apply And.intro
  all_goals first
    | with_reducible exact laid_out
    | with_reducible exact may_enter
    | (with_reducible rw [lifts_final]; as_aux_lemma => kernel_rfl)
    | (with_reducible rw [make_cut]; as_aux_lemma => kernel_rfl)
    | as_aux_lemma => kernel_rfl
theorem inst_FnWriteObject : Try.f3.isInstance Try.prog Rows.fnWriteObjectRow.origin Rows.fnWriteObjectRow.targs := of_decide_eq_true (by kernel_rfl)
theorem wrap_FnWriteObject : Try.f3.isWrapper Try.prog Rows.fnWriteObjectRow.wrapper Rows.fnWriteObjectRow.mainSum := by
  unfold Func.isWrapper
  first | (rw [if_pos (by decide +kernel)]; kernel_rfl) | (rw [if_neg (by decide +kernel)]; exact ⟨rfl, rfl⟩)
theorem named_FnWriteObject : Try.prog.funcNamed Rows.fnWriteObjectRow.func = some 3 := by kernel_rfl
theorem over_FnWriteObject : Rows.fnWriteObjectRow.holds Try.pinned (OpenSpec.ofChange Rows.fnWriteObjectSpec) :=
  OpenClaim.holds_of_wide 3 Try.f3 rfl rfl rfl rfl rfl rfl rfl ⟨rfl, rfl, rfl, rfl, rfl⟩ rfl rfl rfl rfl rfl named_FnWriteObject Try.func3 facts_FnWriteObject inst_FnWriteObject wrap_FnWriteObject
    (fun os started H enc _ => lifted_FnWriteObject os started H enc)

/-- The statement. -/
theorem holds_FnWriteObject : Rows.FnWriteObjectSaid :=
  over_FnWriteObject
#print axioms holds_FnWriteObject
end Go.Proofs.Ytkefbhidfbnipaa
