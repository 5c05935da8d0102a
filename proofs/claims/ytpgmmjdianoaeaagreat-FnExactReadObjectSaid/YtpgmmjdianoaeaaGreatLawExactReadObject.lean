/- The program's ReadObject returns what the reference's returns, for all arguments. No condition. -/
import Derived.Test.YtpgmmjdianoaeaaGreatBase
import Derived.Test.YtpgmmjdianoaeaaGreatReadO
import Derived.Test.YtpgmmjdianoaeaaGreatReadW
import Derived.Test.YtpgmmjdianoaeaaGreatMarkO
import Derived.Test.YtpgmmjdianoaeaaGreatHeld
import Derived.Test.YtpgmmjdianoaeaaGreatOpen
namespace Go.Proofs.YtpgmmjdianoaeaaGreat
open Go.ChangeShapes Go.WideShapes Go.ChangeAt Go.RowKit Go.Joins
set_option linter.unusedSimpArgs false
set_option linter.unusedVariables false
set_option maxRecDepth 100000
theorem secSteps_all {m : Nat} : ∀ l : List SecD, (∀ s ∈ l, secStep s ≤ m) → secSteps l ≤ m * l.length
  | [], _ => Nat.le_refl _
  | s :: r, h => by
    have h1 := h s (List.mem_cons_self ..)
    have h2 := secSteps_all r fun x hx => h x (List.mem_cons_of_mem _ hx)
    rw [List.length_cons, Nat.mul_succ]
    unfold secSteps
    omega
theorem readI_steps (l : List UInt8) : 1 + objSteps ((readI l).getD ⟨[], []⟩) ≤ 268435456 := by
  cases h : readI l with
  | none => decide
  | some o =>
    have hb := ((readI_iff l o).1 h).1
    have hf := objB_few hb
    have h1 : secSteps o.secs ≤ 1000 * o.secs.length := secSteps_all _ fun s hs => by
      have h3 := (objB_sec hb hs).bytes
      have h4 := (objB_sec hb hs).fixl
      unfold secStep
      omega
    simp only [Option.getD_some]
    unfold objSteps
    omega
set_option maxHeartbeats 8000000 in
theorem walk_FnExactReadObject (w : World) (v : Value) (l : List UInt8) (h : BytesAt w v l) :
    Calls Tryz.prog 4 #[v] w fun e w' => e = .returned (.bool true) ∧ Below w.heap.size w w' := by
  obtain ⟨a, cap, hv, hcap, hmax, hnone, hcell⟩ := h.form
  clear hnone hcell
  by_cases hl : (l.length : Int) ≤ 1048576
  case neg =>
    subst hv
    have hl' : (1048576 : Int) < (l.length : Int) := by omega
    clear hl h
    unfold maxLen at hmax
    go_enter Tryz.func4, Tryz.ntmps4
    go_wp2_with fail
    go_ret
    exact ⟨rfl, Below.refl _ _⟩
  have hl' : l.length ≤ 1073741824 := by omega
  have H1 := Lib.hid h
  clear h
  subst hv
  unfold maxLen at hmax
  have htst := readI_steps l
  obtain ⟨T, hT⟩ : ∃ T : ObjD, (readI l).getD ⟨[], []⟩ = T := ⟨_, rfl⟩
  rw [hT] at htst
  have HT := Lib.hid hT
  have HTS := Lib.hid htst
  obtain ⟨TB, hTB⟩ : ∃ TB, (readI l).isSome = TB := ⟨_, rfl⟩
  have HTB := Lib.hid hTB
  have eB2 : (TB != TB) = false := by cases TB <;> rfl
  clear hT hTB
  obtain ⟨nl, hnl⟩ : ∃ nl, l.length = nl := ⟨_, rfl⟩
  have HNL := Lib.hid hnl
  rw [hnl] at hl hl' H1 ⊢
  clear hnl
  go_enter Tryz.func4, Tryz.ntmps4
  go_wp2_with fail
  refine (toByteS_any _ _ l H1.out (by rw [HNL.out]; exact hl')).mono ?_
  rintro e w1 ⟨r1, rfl, o1, gg⟩
  have F := Lib.hid ((From.start w).call gg)
  obtain ⟨xa, xc, rfl⟩ := owns_form o1
  have R := Lib.hid o1.reads
  clear gg o1
  go_wp2_with fail
  refine (s_ReadObject _ _ l R.out).mono ?_
  rw [readS_eq]
  rintro e w3 ⟨W, rfl, oW, gg⟩
  rw [HT.out] at oW
  rw [HTB.out]
  have F := Lib.hid (F.out.call gg)
  obtain ⟨bsW, oW⟩ := oW.blocks
  have HBW := Lib.hid oW.lt
  obtain ⟨wa, wc, wb, wd, rfl⟩ := oW.agg
  have OW := Lib.hid oW
  have y1 : Hid (w.heap.size ≤ w3.heap.size) := F.out.le
  clear gg oW R
  have gg := ((From.start w3).alloc (.cells #[.slice wa T.secs.length wc, .slice wb T.syms.length wd] 27)).below
  have F := Lib.hid (F.out.call gg)
  have OW := Lib.hid (OW.out.call gg)
  clear gg
  have B6 := Lib.hid (Blk.new w3 #[.slice wa T.secs.length wc, .slice wb T.syms.length wd] 27)
  have cB6 := B6.out.cell
  have zB6 := B6.out.lt
  go_wp2_with fail
  clear cB6 zB6
  refine (toByteS_any _ _ l (H1.out.below (Nat.le_refl _) F.out.below) (by rw [HNL.out]; exact hl')).mono ?_
  rintro e w4 ⟨r4, rfl, o4, gg⟩
  have F := Lib.hid (F.out.call gg)
  have OW := Lib.hid (OW.out.call gg)
  have B6 := Lib.hid (B6.out.call gg)
  have HQb : Hid (∀ k, r4.ownBlock = some k → w3.heap.size < k ∧ k < w4.heap.size) := fun k hk => ⟨by have := (World.ownsRow.lt o4 k hk).1; simp at this; omega, (World.ownsRow.lt o4 k hk).2⟩
  have z4 : Hid (w3.heap.size < w4.heap.size) := B6.out.lt
  obtain ⟨qa, qc, rfl⟩ := owns_form o4
  have OQ : Hid (OwnB w4 w3.heap.size (.slice qa l.length qc) l) := owns_mono o4 (by simp)
  clear gg o4
  have cB6 := B6.out.cell
  have zB6 := B6.out.lt
  go_wp2_with fail
  clear cB6 zB6
  refine (i_ReadObject _ _ l (reads_of_owns OQ.out)).mono ?_
  rintro e w5 ⟨G, rfl, oG, gg⟩
  rw [HT.out] at oG
  rw [HTB.out]
  have F := Lib.hid (F.out.call gg)
  have OW := Lib.hid (OW.out.call gg)
  have B6 := Lib.hid (B6.out.call gg)
  have OQ := Lib.hid (owns_call OQ.out gg)
  obtain ⟨bsG, oG⟩ := oG.blocks
  have HBG : Hid (∀ k ∈ bsG, w4.heap.size ≤ k ∧ k < w5.heap.size) := fun k hk => ⟨(oG.lt k hk).1, (oG.lt k hk).2⟩
  have z5 : Hid (w4.heap.size ≤ w5.heap.size) := gg.size
  obtain ⟨ga, gc, gb, gd, rfl⟩ := oG.agg
  have OG := Lib.hid oG
  clear gg oG
  have gg := ((From.start w5).alloc (.cells #[.slice ga T.secs.length gc, .slice gb T.syms.length gd] 27)).below
  have F := Lib.hid (F.out.call gg)
  have OW := Lib.hid (OW.out.call gg)
  have B6 := Lib.hid (B6.out.call gg)
  have OQ := Lib.hid (owns_call OQ.out gg)
  have OG := Lib.hid (OG.out.call gg)
  clear gg
  have B9 := Lib.hid (Blk.new w5 #[.slice ga T.secs.length gc, .slice gb T.syms.length gd] 27)
  have cB6 := B6.out.cell
  have zB6 := B6.out.lt
  have cB9 := B9.out.cell
  have zB9 := B9.out.lt
  go_wp2_with fail
  clear cB6 zB6 cB9 zB9
  refine (eqObject_same _ _ _ T OG.out.obj.reads OW.out.obj.reads).mono ?_
  rintro e w6 ⟨rfl, gg⟩
  have F := Lib.hid (F.out.call gg)
  have OW := Lib.hid (OW.out.call gg)
  have B6 := Lib.hid (B6.out.call gg)
  have OQ := Lib.hid (owns_call OQ.out gg)
  have OG := Lib.hid (OG.out.call gg)
  have B9 := Lib.hid (B9.out.call gg)
  have z6 : Hid (w5.heap.size < w6.heap.size) := B9.out.lt
  clear gg
  have cB6 := B6.out.cell
  have zB6 := B6.out.lt
  have cB9 := B9.out.cell
  have zB9 := B9.out.lt
  go_wp2_with fail
  clear cB6 zB6 cB9 zB9
  refine (toByteS_any _ _ l (H1.out.below (Nat.le_refl _) F.out.below) (by rw [HNL.out]; exact hl')).mono ?_
  rintro e w7 ⟨r7, rfl, o7, gg⟩
  have F := Lib.hid (F.out.call gg)
  have OW := Lib.hid (OW.out.call gg)
  have B6 := Lib.hid (B6.out.call gg)
  have OQ := Lib.hid (owns_call OQ.out gg)
  have OG := Lib.hid (OG.out.call gg)
  have B9 := Lib.hid (B9.out.call gg)
  have Q7 := Lib.hid o7.reads
  clear gg o7
  have cB6 := B6.out.cell
  have zB6 := B6.out.lt
  have cB9 := B9.out.cell
  have zB9 := B9.out.lt
  go_wp2_with fail
  clear cB6 zB6 cB9 zB9
  refine (l_eqByteS _ _ _ l l (reads_of_owns OQ.out) Q7.out).mono ?_
  rw [eqB_self]
  rintro e w8 ⟨rfl, gg⟩
  have F := Lib.hid (F.out.call gg)
  have OW := Lib.hid (OW.out.call gg)
  have B6 := Lib.hid (B6.out.call gg)
  have OQ := Lib.hid (owns_call OQ.out gg)
  have OG := Lib.hid (OG.out.call gg)
  have B9 := Lib.hid (B9.out.call gg)
  have z8 : Hid (w5.heap.size < w8.heap.size) := B9.out.lt
  clear gg Q7
  have y2 := z4.out
  have y3 := z5.out
  have y4 := z8.out
  have cB6 := B6.out.cell
  have zB6 := B6.out.lt
  have cB9 := B9.out.cell
  have zB9 := B9.out.lt
  go_wp2_with fail
  clear cB6 zB6 cB9 zB9
  refine (markByteS_own _ w3.heap.size _ l OQ.out 1 (by decide) (by rw [HNL.out]; exact hl')).mono ?_
  rintro e w9 ⟨rfl, -, gg⟩
  have hqb : ∀ k ∈ (Value.slice qa l.length qc).ownBlock.toList, w3.heap.size < k ∧ k < w4.heap.size := fun k hk => HQb.out k (by simpa using hk)
  have go := Other.grown (bs := (Value.slice qa l.length qc).ownBlock.toList) gg (fun k hk => by simpa using hk)
  clear OQ
  have F := Lib.hid (F.out.other go (fun k hk => by have := (hqb k hk).1; have := y1.out; omega))
  have OW := Lib.hid (OW.out.other go (fun k hk hm => by have := (hqb k hm).1; have := (HBW.out k hk).2; omega))
  have B6 := Lib.hid (B6.out.otherB go (fun hm => by have := (hqb _ hm).1; omega))
  have OG := Lib.hid (OG.out.other go (fun k hk hm => by have := (hqb k hm).2; have := (HBG.out k hk).1; omega))
  have B9 := Lib.hid (B9.out.otherB go (fun hm => by have := (hqb _ hm).2; omega))
  have z9 : Hid (w5.heap.size < w9.heap.size) := B9.out.lt
  obtain ⟨K2, hK2⟩ : ∃ K2 : Int, ((1 : Nat) : Int) + (l.length : Int) = K2 := ⟨_, rfl⟩
  have zK2 : 0 ≤ K2 := by omega
  rw [hK2]
  clear hK2 gg go hqb y4
  have cB6 := B6.out.cell
  have zB6 := B6.out.lt
  have cB9 := B9.out.cell
  have zB9 := B9.out.lt
  go_wp2_with fail
  clear cB6 zB6 cB9 zB9
  refine (eqObject_same _ _ _ T OG.out.obj.reads OW.out.obj.reads).mono ?_
  rintro e wc1 ⟨rfl, gg⟩
  have F := Lib.hid (F.out.call gg)
  have OW := Lib.hid (OW.out.call gg)
  have B6 := Lib.hid (B6.out.call gg)
  have OG := Lib.hid (OG.out.call gg)
  have B9 := Lib.hid (B9.out.call gg)
  clear gg
  have cB6 := B6.out.cell
  have zB6 := B6.out.lt
  have cB9 := B9.out.cell
  have zB9 := B9.out.lt
  go_wp2_with fail
  clear cB6 zB6 cB9 zB9
  refine (markObject_any _ _ bsG _ T OG.out 1 HTS.out).mono ?_
  rintro e w10 ⟨rfl, oG, gg⟩
  clear OG
  have F := Lib.hid (F.out.other gg (fun k hk => by have := (HBG.out k hk).1; have := y1.out; omega))
  have OW := Lib.hid (OW.out.other gg (fun k hk hm => by have := (HBG.out k hm).1; have := (HBW.out k hk).2; omega))
  have B6 := Lib.hid (B6.out.otherB gg (fun hm => by have := (HBG.out _ hm).1; omega))
  have B9 := Lib.hid (B9.out.otherB gg (fun hm => by have := (HBG.out _ hm).2; omega))
  have OG := Lib.hid oG
  obtain ⟨M0, hM0⟩ : ∃ M0, 1 + objSteps T = M0 := ⟨_, rfl⟩
  have HM := Lib.hid hM0
  have zM : (0 : Int) ≤ (M0 : Int) := by omega
  rw [hM0]
  clear hM0 oG gg
  have cB6 := B6.out.cell
  have zB6 := B6.out.lt
  have cB9 := B9.out.cell
  have zB9 := B9.out.lt
  go_wp2_with fail
  clear cB6 zB6 cB9 zB9
  have q1 := heldObject_any _ _ T 1 OG.out.obj.reads HTS.out
  rw [HM.out] at q1
  refine q1.mono ?_
  clear q1
  rintro e w11 ⟨rfl, gg⟩
  have F := Lib.hid (F.out.call gg)
  have OW := Lib.hid (OW.out.call gg)
  have B6 := Lib.hid (B6.out.call gg)
  have B9 := Lib.hid (B9.out.call gg)
  have OG := Lib.hid (OG.out.call gg)
  clear gg
  have eM : (((M0 : Nat) : Int) != ((M0 : Nat) : Int)) = false := by simp
  have cB6 := B6.out.cell
  have zB6 := B6.out.lt
  have cB9 := B9.out.cell
  have zB9 := B9.out.lt
  go_wp2_with fail
  clear cB6 zB6 cB9 zB9
  refine (toByteS_any _ _ l (H1.out.below (Nat.le_refl _) F.out.below) (by rw [HNL.out]; exact hl')).mono ?_
  rintro e w12 ⟨r12, rfl, o12, gg⟩
  have F := Lib.hid (F.out.call gg)
  have OW := Lib.hid (OW.out.call gg)
  have B6 := Lib.hid (B6.out.call gg)
  have B9 := Lib.hid (B9.out.call gg)
  have OG := Lib.hid (OG.out.call gg)
  obtain ⟨ea, ec, rfl⟩ := owns_form o12
  have R := Lib.hid o12.reads
  clear gg o12
  have cB6 := B6.out.cell
  have zB6 := B6.out.lt
  have cB9 := B9.out.cell
  have zB9 := B9.out.lt
  go_wp2_with fail
  clear cB6 zB6 cB9 zB9
  refine (i_ReadObject _ _ l R.out).mono ?_
  rintro e w13 ⟨G2, rfl, oG, gg⟩
  rw [HT.out] at oG
  rw [HTB.out]
  have F := Lib.hid (F.out.call gg)
  have OW := Lib.hid (OW.out.call gg)
  have B6 := Lib.hid (B6.out.call gg)
  have B9 := Lib.hid (B9.out.call gg)
  have OG := Lib.hid (OG.out.call gg)
  obtain ⟨bsH, oG⟩ := oG.blocks
  obtain ⟨ha, hc, hb, hd, rfl⟩ := oG.agg
  have OH := Lib.hid oG
  clear gg oG R
  have gg := ((From.start w13).alloc (.cells #[.slice ha T.secs.length hc, .slice hb T.syms.length hd] 27)).below
  have F := Lib.hid (F.out.call gg)
  have OW := Lib.hid (OW.out.call gg)
  have B6 := Lib.hid (B6.out.call gg)
  have B9 := Lib.hid (B9.out.call gg)
  have OG := Lib.hid (OG.out.call gg)
  have OH := Lib.hid (OH.out.call gg)
  clear gg
  have B13 := Lib.hid (Blk.new w13 #[.slice ha T.secs.length hc, .slice hb T.syms.length hd] 27)
  have cB6 := B6.out.cell
  have zB6 := B6.out.lt
  have cB9 := B9.out.cell
  have zB9 := B9.out.lt
  have cB13 := B13.out.cell
  have zB13 := B13.out.lt
  go_wp2_with fail
  clear cB6 zB6 cB9 zB9 cB13 zB13
  refine (eqObject_same _ _ _ T OH.out.obj.reads OW.out.obj.reads).mono ?_
  rintro e w14 ⟨rfl, gg⟩
  have F := Lib.hid (F.out.call gg)
  have OW := Lib.hid (OW.out.call gg)
  have B6 := Lib.hid (B6.out.call gg)
  have B9 := Lib.hid (B9.out.call gg)
  have OG := Lib.hid (OG.out.call gg)
  have OH := Lib.hid (OH.out.call gg)
  have B13 := Lib.hid (B13.out.call gg)
  clear gg
  have cB6 := B6.out.cell
  have zB6 := B6.out.lt
  have cB9 := B9.out.cell
  have zB9 := B9.out.lt
  have cB13 := B13.out.cell
  have zB13 := B13.out.lt
  go_wp2_with fail
  clear cB6 zB6 cB9 zB9 cB13 zB13
  have q2 := heldObject_any _ _ T 1 OG.out.obj.reads HTS.out
  rw [HM.out] at q2
  refine q2.mono ?_
  clear q2
  rintro e w15 ⟨rfl, gg⟩
  have F := Lib.hid (F.out.call gg)
  have OW := Lib.hid (OW.out.call gg)
  have B6 := Lib.hid (B6.out.call gg)
  have B9 := Lib.hid (B9.out.call gg)
  have OG := Lib.hid (OG.out.call gg)
  have OH := Lib.hid (OH.out.call gg)
  have B13 := Lib.hid (B13.out.call gg)
  clear gg
  have cB6 := B6.out.cell
  have zB6 := B6.out.lt
  have cB9 := B9.out.cell
  have zB9 := B9.out.lt
  have cB13 := B13.out.cell
  have zB13 := B13.out.lt
  go_wp2_with fail
  clear cB6 zB6 cB9 zB9 cB13 zB13
  go_ret
  exact ⟨rfl, F.out.below⟩
set_option maxRecDepth 100000 in
theorem lifted_FnExactReadObject (os : Os) (started : os.Started) (H : Type) (enc : TypeId × Value → H) :
    ReturnsInHanded {} Tryz.checked os 4 .any (Rows.fnExactReadObjectSpec.pre6 enc Tryz.prog Tryz.f4 Rows.fnExactReadObjectRow.domain false) (Rows.fnExactReadObjectSpec.post enc Tryz.prog Tryz.f4 false true false false) := by
  refine returnsInHanded_of_change (C := Tryz.checked) own_knob started (by kernel_rfl) Tryz.func4
    (ChangeSpec.witness6 (enc := enc) (C := Tryz.checked) false ⟨#[], #[.slice none 0 0], []⟩ 8 (by kernel_rfl) (by kernel_rfl) (by kernel_rfl) (by kernel_rfl)) ?_
  intro W base args ds gs before hval0 hW hcnd _
  have hval : ∀ (j : Nat) t v, Tryz.f4.params[j]? = some t → args[j]? = some v → Value.okWide Tryz.prog W .any base t v := hval0
  have hW' := hW
  obtain ⟨p, q, hA0, hV, rfl, hfz, hnd⟩ := hW
  have hA : DataW.TrodAll enc Tryz.prog W 0 (fun _ => true) true Tryz.f4.params.toList args.toList ds p := hA0
  rw [Tryz.params4] at hA hval
  obtain ⟨v0, vs0, d0, ds0, p0, q0, hargs, rfl, rfl, h0, r0⟩ := trodAll_cons hA
  obtain ⟨rfl, rfl, rfl⟩ := trodAll_nil r0
  obtain rfl : args = #[v0] := by cases args; simp_all
  obtain ⟨rfl, rfl⟩ := trodVars_none hV
  clear hA0 hval0
  have k0 := h0
  have t0 : ∀ x ∈ p0, x.block < W.heap.size := fun x hx => by simpa using hW'.lt x (by simp [hx])
  obtain ⟨l0, o0⟩ := open_bytesAt (hval 0 22 v0 rfl rfl) h0
  refine (walk_FnExactReadObject W v0 l0 o0).mono fun e W' ⟨he, hg⟩ => ?_
  subst he
  exact ⟨_, rfl, _, _, _, _, _, _, hW', (trodAll_cons_mk (shut_bool Tryz.underlying4 _) trodAll_mk0), (trodAll_cons_mk (Below.trod laid_out (by kernel_rfl) (of_decide_eq_true (by kernel_rfl)) k0 hg t0) trodAll_mk0), rfl, hg.frame _, fun h => by cases h⟩

set_option maxHeartbeats 2000000 in
theorem facts_FnExactReadObject : joinedFacts Tryz.prog 4 Tryz.f4 Rows.fnExactReadObjectSpec Rows.fnExactReadObjectRow = true := by
  unfold joinedFacts
  simp only [Bool.and_eq_true]
  repeat' apply And.intro
  all_goals first
    | with_reducible exact laid_out
    | with_reducible exact may_enter
    | (with_reducible rw [lifts_final]; as_aux_lemma => kernel_rfl)
    | (with_reducible rw [make_cut]; as_aux_lemma => kernel_rfl)
    | as_aux_lemma => kernel_rfl
theorem inst_FnExactReadObject : Tryz.f4.isInstance Tryz.prog Rows.fnExactReadObjectRow.origin Rows.fnExactReadObjectRow.targs := of_decide_eq_true (by kernel_rfl)
theorem wrap_FnExactReadObject : Tryz.f4.isWrapper Tryz.prog Rows.fnExactReadObjectRow.wrapper Rows.fnExactReadObjectRow.mainSum := by
  unfold Func.isWrapper
  first | (rw [if_pos (by decide +kernel)]; kernel_rfl) | (rw [if_neg (by decide +kernel)]; exact ⟨rfl, rfl⟩)
theorem named_FnExactReadObject : Tryz.prog.funcNamed Rows.fnExactReadObjectRow.func = some 4 := by kernel_rfl
theorem over_FnExactReadObject : Rows.fnExactReadObjectRow.holds Tryz.pinned (OpenSpec.ofChange Rows.fnExactReadObjectSpec) :=
  OpenClaim.holds_of_wide 4 Tryz.f4 rfl rfl rfl rfl rfl rfl rfl ⟨rfl, rfl, rfl, rfl, rfl⟩ rfl rfl rfl rfl rfl named_FnExactReadObject Tryz.func4 facts_FnExactReadObject inst_FnExactReadObject wrap_FnExactReadObject
    (fun os started H enc _ => lifted_FnExactReadObject os started H enc)

/-- The statement. -/
theorem holds_FnExactReadObject : Rows.FnExactReadObjectSaid :=
  over_FnExactReadObject
#print axioms holds_FnExactReadObject
end Go.Proofs.YtpgmmjdianoaeaaGreat
