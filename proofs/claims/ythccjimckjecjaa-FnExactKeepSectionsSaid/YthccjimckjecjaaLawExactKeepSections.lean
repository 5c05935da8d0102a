/- The program's KeepSections returns what the reference's returns, for all arguments. No condition. -/
import Derived.Test.YthccjimckjecjaaBase
import Derived.Test.YthccjimckjecjaaKeepSec
import Derived.Test.YthccjimckjecjaaIntsX
import Derived.Test.YthccjimckjecjaaMarkO
import Derived.Test.YthccjimckjecjaaHeld
import Derived.Test.YthccjimckjecjaaOpen
import Derived.Test.YthccjimckjecjaaMarkS
namespace Go.Proofs.Ythccjimckjecjaa
open Go.ChangeShapes Go.WideShapes Go.ChangeAt Go.RowKit Go.Joins
set_option linter.unusedSimpArgs false
set_option linter.unusedVariables false
set_option maxRecDepth 100000
set_option maxHeartbeats 8000000 in
theorem walk_FnExactKeepSections (w : World) (v : Value) (o : ObjD) (oo : ObjAt w v o ∧ objWf o) (v2 : Value) (L : List Int) (ol : IntsAt w v2 L) :
    Calls Try.prog 13 #[v, v2] w fun e w' => e = .returned (.bool true) ∧ Below w.heap.size w w' := by
  obtain ⟨h1, hw⟩ := oo
  have hs : (∀ s ∈ o.secs, s.name.size ≤ maxLen) ∧ ∀ s ∈ o.syms, s.name.size ≤ maxLen := ⟨fun s h => (hw.1 s h).1, fun s h => (hw.2 s h).1⟩
  have HN := Lib.hid hs
  have H1 := Lib.hid h1
  obtain ⟨xa, xc, ya, yc, rfl⟩ := h1.agg
  clear hw hs h1
  have n0 := objCost_nonneg o
  have HL1 := Lib.hid ol
  obtain ⟨la, lc, rfl, -⟩ := ol.form
  clear ol
  by_cases hl : L.length ≤ 1048576
  case neg =>
    clear n0
    go_enter Try.func13, Try.ntmps13
    go_wp2_with fail
    go_ret
    exact ⟨rfl, ((From.start w).alloc _).below⟩
  have hLl : L.length ≤ 1048576 := hl
  clear hl
  by_cases hc : objCost o ≤ 1048576
  case neg =>
    have E : szV 1048576 (objCost o) = -1 := by unfold szV; rw [if_neg hc]
    clear hc n0
    go_enter Try.func13, Try.ntmps13
    go_wp2_with fail
    refine (szObject_any _ _ o (H1.out.below (Nat.le_refl _) ((From.start w).alloc _).below) HN.out 1048576 (by omega) (by omega)).mono ?_
    rw [E]
    rintro e w1 ⟨rfl, g1⟩
    have F1 := ((From.start w).alloc _).call g1
    clear g1
    go_wp2_with fail
    go_ret
    exact ⟨rfl, F1.below⟩
  have HW := Lib.hid (few_obj hc)
  have HSt : Hid (1 + objSteps o ≤ 268435456) := steps_few hc
  have hst : (1 + objSteps o) ≤ 268435456 := HSt.out
  have E : szV 1048576 (objCost o) = 1048576 - objCost o := by unfold szV; rw [if_pos hc]
  obtain ⟨left, hleft⟩ : ∃ left, 1048576 - objCost o = left := ⟨_, rfl⟩
  have zl0 : 0 ≤ left := by omega
  have zl1 : left ≤ 1048576 := by omega
  rw [hleft] at E
  clear hleft hc n0
  obtain ⟨T, hT⟩ : ∃ T, keepSO o L = T := ⟨_, rfl⟩
  have htst : 1 + objSteps T ≤ 268435456 := by rw [← hT]; have := keepSO_steps o L; omega
  have HT := Lib.hid hT
  have HTS := Lib.hid htst
  clear hT
  obtain ⟨TB, hTB⟩ : ∃ TB, keepSB o L = TB := ⟨_, rfl⟩
  have HTB := Lib.hid hTB
  have eB2 : (TB != TB) = false := by cases TB <;> rfl
  clear hTB
  go_enter Try.func13, Try.ntmps13
  go_wp2_with fail
  refine (szObject_any _ _ o (H1.out.below (Nat.le_refl _) ((From.start w).alloc _).below) HN.out 1048576 (by omega) (by omega)).mono ?_
  rw [E]
  rintro e w1 ⟨rfl, gg⟩
  have F := Lib.hid (((From.start w).alloc _).call gg)
  have BA := Lib.hid ((Blk.newAt w _ _ w.heap.size rfl).call gg)
  clear gg E
  have zA : Hid (w.heap.size < w1.heap.size) := BA.out.lt
  have cBA := BA.out.cell
  have zBA := BA.out.lt
  go_wp2_with fail
  clear cBA zBA
  refine (toObject_any _ _ o (H1.out.below (Nat.le_refl _) F.out.below) HW.out).mono ?_
  rintro e w2 ⟨r2, rfl, oo, gg⟩
  have F := Lib.hid (F.out.call gg)
  have BA := Lib.hid (BA.out.call gg)
  have R := Lib.hid oo.reads
  clear gg oo
  have cBA := BA.out.cell
  have zBA := BA.out.lt
  go_wp2_with fail
  clear cBA zBA
  refine (toIntS_any _ _ L (HL1.out.below (Nat.le_refl _) F.out.below) (by omega)).mono ?_
  rintro e w2q ⟨q2, rfl, oq, gg⟩
  have F := Lib.hid (F.out.call gg)
  have BA := Lib.hid (BA.out.call gg)
  have R := Lib.hid (R.out.below (Nat.le_refl _) gg)
  have Q := Lib.hid oq.reads
  clear gg oq
  have cBA := BA.out.cell
  have zBA := BA.out.lt
  go_wp2_with fail
  clear cBA zBA
  refine (s_KeepSections _ _ _ o L R.out Q.out HW.out HN.out).mono ?_
  rw [HT.out, HTB.out]
  rintro e w3 ⟨W, rfl, oW, gg⟩
  have F := Lib.hid (F.out.call gg)
  have BA := Lib.hid (BA.out.call gg)
  obtain ⟨bsW, oW⟩ := oW.blocks
  have HBW := Lib.hid oW.lt
  have zW : Hid (w.heap.size < w3.heap.size) := BA.out.lt
  obtain ⟨wa, wc, wb, wd, rfl⟩ := oW.agg
  have OW := Lib.hid oW
  have z3 : Hid (w2q.heap.size ≤ w3.heap.size) := gg.size
  clear gg oW R Q
  have gg := ((From.start w3).alloc (.cells #[.slice wa T.secs.length wc, .slice wb T.syms.length wd] 26)).below
  have F := Lib.hid (F.out.call gg)
  have BA := Lib.hid (BA.out.call gg)
  have OW := Lib.hid (OW.out.call gg)
  clear gg
  have B6 := Lib.hid (Blk.new w3 #[.slice wa T.secs.length wc, .slice wb T.syms.length wd] 26)
  have cBA := BA.out.cell
  have zBA := BA.out.lt
  have cB6 := B6.out.cell
  have zB6 := B6.out.lt
  go_wp2_with fail
  clear cBA zBA cB6 zB6
  refine (toObject_any _ _ o (H1.out.below (Nat.le_refl _) F.out.below) HW.out).mono ?_
  rintro e w4 ⟨r4, rfl, o4, gg⟩
  have F := Lib.hid (F.out.call gg)
  have BA := Lib.hid (BA.out.call gg)
  have OW := Lib.hid (OW.out.call gg)
  have B6 := Lib.hid (B6.out.call gg)
  obtain ⟨bs, o4⟩ := o4.blocks
  have HBs : Hid (∀ k ∈ bs, w3.heap.size < k ∧ k < w4.heap.size) := fun k hk => ⟨by have := (o4.lt k hk).1; simp at this; omega, (o4.lt k hk).2⟩
  have z4 : Hid (w3.heap.size < w4.heap.size) := B6.out.lt
  obtain ⟨ra, rc, rb, rd, rfl⟩ := o4.agg
  have OX := Lib.hid o4
  clear gg o4
  have gg := ((From.start w4).alloc (.cells #[.slice ra o.secs.length rc, .slice rb o.syms.length rd] 26)).below
  have F := Lib.hid (F.out.call gg)
  have BA := Lib.hid (BA.out.call gg)
  have OW := Lib.hid (OW.out.call gg)
  have B6 := Lib.hid (B6.out.call gg)
  have OX := Lib.hid (OX.out.call gg)
  clear gg
  have B7 := Lib.hid (Blk.new w4 #[.slice ra o.secs.length rc, .slice rb o.syms.length rd] 26)
  have cBA := BA.out.cell
  have zBA := BA.out.lt
  have cB6 := B6.out.cell
  have zB6 := B6.out.lt
  have cB7 := B7.out.cell
  have zB7 := B7.out.lt
  go_wp2_with fail
  clear cBA zBA cB6 zB6 cB7 zB7
  refine (toIntS_any _ _ L (HL1.out.below (Nat.le_refl _) F.out.below) (by omega)).mono ?_
  rintro e w4q ⟨q4, rfl, oq, gg⟩
  have F := Lib.hid (F.out.call gg)
  have BA := Lib.hid (BA.out.call gg)
  have OW := Lib.hid (OW.out.call gg)
  have B6 := Lib.hid (B6.out.call gg)
  have OX := Lib.hid (OX.out.call gg)
  have B7 := Lib.hid (B7.out.call gg)
  have HQb : Hid (∀ k, q4.ownBlock = some k → w4.heap.size < k ∧ k < w4q.heap.size) := fun k hk => ⟨by have := (World.ownsRow.lt oq k hk).1; simp at this; omega, (World.ownsRow.lt oq k hk).2⟩
  have z44 : Hid (w4.heap.size < w4q.heap.size) := B7.out.lt
  obtain ⟨qa, qc, rfl⟩ := owns_form oq
  have OQ : Hid (OwnI w4q w4.heap.size (.slice qa L.length qc) L) := owns_mono oq (by simp)
  clear gg oq
  have cBA := BA.out.cell
  have zBA := BA.out.lt
  have cB6 := B6.out.cell
  have zB6 := B6.out.lt
  have cB7 := B7.out.cell
  have zB7 := B7.out.lt
  go_wp2_with fail
  clear cBA zBA cB6 zB6 cB7 zB7
  refine (i_KeepSections _ _ _ o L OX.out.obj.reads (reads_of_owns OQ.out) HN.out).mono ?_
  rw [HT.out, HTB.out]
  rintro e w5 ⟨G, rfl, oG, gg⟩
  have F := Lib.hid (F.out.call gg)
  have BA := Lib.hid (BA.out.call gg)
  have OW := Lib.hid (OW.out.call gg)
  have B6 := Lib.hid (B6.out.call gg)
  have OX := Lib.hid (OX.out.call gg)
  have B7 := Lib.hid (B7.out.call gg)
  have OQ := Lib.hid (owns_call OQ.out gg)
  obtain ⟨bsG, oG⟩ := oG.blocks
  have HBG : Hid (∀ k ∈ bsG, w4q.heap.size ≤ k ∧ k < w5.heap.size) := fun k hk => ⟨by have := (oG.lt k hk).1; exact this, (oG.lt k hk).2⟩
  have z5 : Hid (w4.heap.size < w5.heap.size) := B7.out.lt
  obtain ⟨ga, gc, gb, gd, rfl⟩ := oG.agg
  have OG := Lib.hid oG
  have z55 : Hid (w4q.heap.size ≤ w5.heap.size) := gg.size
  clear gg oG
  have gg := ((From.start w5).alloc (.cells #[.slice ga T.secs.length gc, .slice gb T.syms.length gd] 26)).below
  have F := Lib.hid (F.out.call gg)
  have BA := Lib.hid (BA.out.call gg)
  have OW := Lib.hid (OW.out.call gg)
  have B6 := Lib.hid (B6.out.call gg)
  have OX := Lib.hid (OX.out.call gg)
  have B7 := Lib.hid (B7.out.call gg)
  have OQ := Lib.hid (owns_call OQ.out gg)
  have OG := Lib.hid (OG.out.call gg)
  clear gg
  have B9 := Lib.hid (Blk.new w5 #[.slice ga T.secs.length gc, .slice gb T.syms.length gd] 26)
  have cBA := BA.out.cell
  have zBA := BA.out.lt
  have cB6 := B6.out.cell
  have zB6 := B6.out.lt
  have cB7 := B7.out.cell
  have zB7 := B7.out.lt
  have cB9 := B9.out.cell
  have zB9 := B9.out.lt
  go_wp2_with fail
  clear cBA zBA cB6 zB6 cB7 zB7 cB9 zB9
  refine (eqObject_same _ _ _ T OG.out.obj.reads OW.out.obj.reads).mono ?_
  rintro e w6 ⟨rfl, gg⟩
  have F := Lib.hid (F.out.call gg)
  have BA := Lib.hid (BA.out.call gg)
  have OW := Lib.hid (OW.out.call gg)
  have B6 := Lib.hid (B6.out.call gg)
  have OX := Lib.hid (OX.out.call gg)
  have B7 := Lib.hid (B7.out.call gg)
  have OQ := Lib.hid (owns_call OQ.out gg)
  have OG := Lib.hid (OG.out.call gg)
  have B9 := Lib.hid (B9.out.call gg)
  have z6 : Hid (w5.heap.size < w6.heap.size) := B9.out.lt
  clear gg
  have cBA := BA.out.cell
  have zBA := BA.out.lt
  have cB6 := B6.out.cell
  have zB6 := B6.out.lt
  have cB7 := B7.out.cell
  have zB7 := B7.out.lt
  have cB9 := B9.out.cell
  have zB9 := B9.out.lt
  go_wp2_with fail
  clear cBA zBA cB6 zB6 cB7 zB7 cB9 zB9
  have keepS : ∀ u, From w6.heap.size w6 u → (∀ o', u.cell? ⟨w.heap.size, o', none⟩ = #[Value.slice xa o.secs.length xc, Value.slice ya o.syms.length yc][o']?) ∧
      (∀ o', u.cell? ⟨w4.heap.size, o', none⟩ = #[Value.slice ra o.secs.length rc, Value.slice rb o.syms.length rd][o']?) ∧ From w6.heap.size w6 u := fun u hu => ⟨(BA.out.call hu.below).cell, (B7.out.call hu.below).cell, hu⟩
  have first := keepS _ (From.start w6)
  have H7 := Lib.hid (H1.out.below (Nat.le_refl _) F.out.below)
  go_region_held3 (fun u => (∀ o', u.cell? ⟨w.heap.size, o', none⟩ = #[Value.slice xa o.secs.length xc, Value.slice ya o.syms.length yc][o']?) ∧
      (∀ o', u.cell? ⟨w4.heap.size, o', none⟩ = #[Value.slice ra o.secs.length rc, Value.slice rb o.syms.length rd][o']?) ∧ From w6.heap.size w6 u)
    (first | assumption | exact keepS _ (From.drew (From.start w6)) | exact keepS _ (From.call (‹_ ∧ _ ∧ From _ _ _›).2.2 (by assumption)))
    (first
      | (go_at_call 20; refine (toObject_any _ _ o (H7.out.below (Nat.le_refl _) (‹_ ∧ _ ∧ From _ _ _›).2.2.below) HW.out).mono ?_; rintro e w6' ⟨r6, rfl, o6, g6⟩; have Q6 := o6.reads)
      | (go_at_call 21; refine (eqObject_same _ _ _ o (OX.out.obj.reads.below (Nat.le_refl _) (‹_ ∧ _ ∧ From _ _ _›).2.2.below) (by assumption)).mono ?_; rintro e w7' ⟨rfl, g7⟩))
  have HL0 := ‹_ ∧ _ ∧ From w6.heap.size w6 _›.2.2
  have gg := HL0.below
  have z7 : Hid (w5.heap.size < w7'.heap.size) := Nat.lt_of_lt_of_le z6.out HL0.le
  have F := Lib.hid (F.out.call gg)
  have BA := Lib.hid (BA.out.call gg)
  have OW := Lib.hid (OW.out.call gg)
  have B6 := Lib.hid (B6.out.call gg)
  have OX := Lib.hid (OX.out.call gg)
  have B7 := Lib.hid (B7.out.call gg)
  have OQ := Lib.hid (owns_call OQ.out gg)
  have OG := Lib.hid (OG.out.call gg)
  have B9 := Lib.hid (B9.out.call gg)
  clear keepS first HL0 H7 gg
  try clear Q6
  try clear o6
  generalize w7' = w7 at *
  have cBA := BA.out.cell
  have zBA := BA.out.lt
  have cB6 := B6.out.cell
  have zB6 := B6.out.lt
  have cB7 := B7.out.cell
  have zB7 := B7.out.lt
  have cB9 := B9.out.cell
  have zB9 := B9.out.lt
  go_wp2_with fail
  clear cBA zBA cB6 zB6 cB7 zB7 cB9 zB9
  refine (toIntS_any _ _ L (HL1.out.below (Nat.le_refl _) F.out.below) (by omega)).mono ?_
  rintro e wa ⟨qq, rfl, oq, gg⟩
  have z7 : Hid (w5.heap.size < wa.heap.size) := Nat.lt_of_lt_of_le z7.out gg.size
  have F := Lib.hid (F.out.call gg)
  have BA := Lib.hid (BA.out.call gg)
  have OW := Lib.hid (OW.out.call gg)
  have B6 := Lib.hid (B6.out.call gg)
  have OX := Lib.hid (OX.out.call gg)
  have B7 := Lib.hid (B7.out.call gg)
  have OQ := Lib.hid (owns_call OQ.out gg)
  have OG := Lib.hid (OG.out.call gg)
  have B9 := Lib.hid (B9.out.call gg)
  have Q := Lib.hid oq.reads
  clear gg oq
  have cBA := BA.out.cell
  have zBA := BA.out.lt
  have cB6 := B6.out.cell
  have zB6 := B6.out.lt
  have cB7 := B7.out.cell
  have zB7 := B7.out.lt
  have cB9 := B9.out.cell
  have zB9 := B9.out.lt
  go_wp2_with fail
  clear cBA zBA cB6 zB6 cB7 zB7 cB9 zB9
  refine (eqIntS_same _ _ _ L (reads_of_owns OQ.out) Q.out).mono ?_
  rintro e wb ⟨rfl, gg⟩
  have z7 : Hid (w5.heap.size < wb.heap.size) := Nat.lt_of_lt_of_le z7.out gg.size
  have F := Lib.hid (F.out.call gg)
  have BA := Lib.hid (BA.out.call gg)
  have OW := Lib.hid (OW.out.call gg)
  have B6 := Lib.hid (B6.out.call gg)
  have OX := Lib.hid (OX.out.call gg)
  have B7 := Lib.hid (B7.out.call gg)
  have OQ := Lib.hid (owns_call OQ.out gg)
  have OG := Lib.hid (OG.out.call gg)
  have B9 := Lib.hid (B9.out.call gg)
  clear gg Q
  have y1 := zW.out
  have y2 := z4.out
  have y3 := z5.out
  have y4 := z3.out
  have y5 := z44.out
  have y6 := z55.out
  have cBA := BA.out.cell
  have zBA := BA.out.lt
  have cB6 := B6.out.cell
  have zB6 := B6.out.lt
  have cB7 := B7.out.cell
  have zB7 := B7.out.lt
  have cB9 := B9.out.cell
  have zB9 := B9.out.lt
  go_wp2_with fail
  clear cBA zBA cB6 zB6 cB7 zB7 cB9 zB9
  refine (markObject_any _ _ bs _ o OX.out 1 HSt.out).mono ?_
  rintro e w8 ⟨rfl, -, gg⟩
  clear OX
  have F := Lib.hid (F.out.other gg (fun k hk => by have := (HBs.out k hk).1; omega))
  have BA := Lib.hid (BA.out.otherB gg (fun hm => by have := (HBs.out _ hm).1; omega))
  have OW := Lib.hid (OW.out.other gg (fun k hk hm => by have := (HBs.out k hm).1; have := (HBW.out k hk).2; omega))
  have B6 := Lib.hid (B6.out.otherB gg (fun hm => by have := (HBs.out _ hm).1; omega))
  have B7 := Lib.hid (B7.out.otherB gg (fun hm => by have := (HBs.out _ hm).2; omega))
  have OQ := Lib.hid (owns_other OQ.out gg (fun k hk hm => by have := (HBs.out k hm).2; have := (HQb.out k hk).1; omega))
  have OG := Lib.hid (OG.out.other gg (fun k hk hm => by have := (HBs.out k hm).2; have := (HBG.out k hk).1; omega))
  have B9 := Lib.hid (B9.out.otherB gg (fun hm => by have := (HBs.out _ hm).2; omega))
  have z7 : Hid (w5.heap.size < w8.heap.size) := Nat.lt_of_lt_of_le z7.out gg.size
  obtain ⟨K, hK⟩ : ∃ K, 1 + objSteps o = K := ⟨_, rfl⟩
  rw [hK] at hst ⊢
  have zK : (0 : Int) ≤ (K : Int) := by omega
  clear hK gg
  have cBA := BA.out.cell
  have zBA := BA.out.lt
  have cB6 := B6.out.cell
  have zB6 := B6.out.lt
  have cB7 := B7.out.cell
  have zB7 := B7.out.lt
  have cB9 := B9.out.cell
  have zB9 := B9.out.lt
  go_wp2_with fail
  clear cBA zBA cB6 zB6 cB7 zB7 cB9 zB9
  refine (markIntS_grown _ w4.heap.size _ L OQ.out K (by omega) (by omega)).mono ?_
  rintro e w9 ⟨rfl, -, gg⟩
  have hqb : ∀ k ∈ (Value.slice qa L.length qc).ownBlock.toList, w4.heap.size < k ∧ k < w4q.heap.size := fun k hk => HQb.out k (by simpa using hk)
  have go := Other.grown (bs := (Value.slice qa L.length qc).ownBlock.toList) gg (fun k hk => by simpa using hk)
  clear OQ
  have F := Lib.hid (F.out.other go (fun k hk => by have := (hqb k hk).1; omega))
  have BA := Lib.hid (BA.out.otherB go (fun hm => by have := (hqb _ hm).1; omega))
  have OW := Lib.hid (OW.out.other go (fun k hk hm => by have := (hqb k hm).1; have := (HBW.out k hk).2; omega))
  have B6 := Lib.hid (B6.out.otherB go (fun hm => by have := (hqb _ hm).1; omega))
  have B7 := Lib.hid (B7.out.otherB go (fun hm => by have := (hqb _ hm).1; omega))
  have OG := Lib.hid (OG.out.other go (fun k hk hm => by have := (hqb k hm).2; have := (HBG.out k hk).1; omega))
  have B9 := Lib.hid (B9.out.otherB go (fun hm => by have := (hqb _ hm).2; omega))
  obtain ⟨K2, hK2⟩ : ∃ K2 : Int, (K : Int) + (L.length : Int) = K2 := ⟨_, rfl⟩
  have zK2 : 0 ≤ K2 := by omega
  rw [hK2]
  clear hK2 gg go hqb
  clear B7
  have cBA := BA.out.cell
  have zBA := BA.out.lt
  have cB6 := B6.out.cell
  have zB6 := B6.out.lt
  have cB9 := B9.out.cell
  have zB9 := B9.out.lt
  go_wp2_with fail
  clear cBA zBA cB6 zB6 cB9 zB9
  refine (eqObject_same _ _ _ T OG.out.obj.reads OW.out.obj.reads).mono ?_
  rintro e wc1 ⟨rfl, gg⟩
  have F := Lib.hid (F.out.call gg)
  have BA := Lib.hid (BA.out.call gg)
  have OW := Lib.hid (OW.out.call gg)
  have B6 := Lib.hid (B6.out.call gg)
  have OG := Lib.hid (OG.out.call gg)
  have B9 := Lib.hid (B9.out.call gg)
  clear gg
  have cBA := BA.out.cell
  have zBA := BA.out.lt
  have cB6 := B6.out.cell
  have zB6 := B6.out.lt
  have cB9 := B9.out.cell
  have zB9 := B9.out.lt
  go_wp2_with fail
  clear cBA zBA cB6 zB6 cB9 zB9
  refine (markObject_any _ _ bsG _ T OG.out 1 HTS.out).mono ?_
  rintro e w10 ⟨rfl, oG, gg⟩
  clear OG
  have F := Lib.hid (F.out.other gg (fun k hk => by have := (HBG.out k hk).1; omega))
  have BA := Lib.hid (BA.out.otherB gg (fun hm => by have := (HBG.out _ hm).1; omega))
  have OW := Lib.hid (OW.out.other gg (fun k hk hm => by have := (HBG.out k hm).1; have := (HBW.out k hk).2; omega))
  have B6 := Lib.hid (B6.out.otherB gg (fun hm => by have := (HBG.out _ hm).1; omega))
  have B9 := Lib.hid (B9.out.otherB gg (fun hm => by have := (HBG.out _ hm).2; omega))
  have OG := Lib.hid oG
  obtain ⟨M0, hM0⟩ : ∃ M0, 1 + objSteps T = M0 := ⟨_, rfl⟩
  have HM := Lib.hid hM0
  have zM : (0 : Int) ≤ (M0 : Int) := by omega
  rw [hM0]
  clear hM0 oG gg
  have cBA := BA.out.cell
  have zBA := BA.out.lt
  have cB6 := B6.out.cell
  have zB6 := B6.out.lt
  have cB9 := B9.out.cell
  have zB9 := B9.out.lt
  go_wp2_with fail
  clear cBA zBA cB6 zB6 cB9 zB9
  have q1 := heldObject_any w10 _ T 1 OG.out.obj.reads HTS.out
  rw [HM.out] at q1
  refine q1.mono ?_
  clear q1
  rintro e w11 ⟨rfl, gg⟩
  have F := Lib.hid (F.out.call gg)
  have BA := Lib.hid (BA.out.call gg)
  have OW := Lib.hid (OW.out.call gg)
  have B6 := Lib.hid (B6.out.call gg)
  have B9 := Lib.hid (B9.out.call gg)
  have OG := Lib.hid (OG.out.call gg)
  clear gg
  have eM : (((M0 : Nat) : Int) != ((M0 : Nat) : Int)) = false := by simp
  have cBA := BA.out.cell
  have zBA := BA.out.lt
  have cB6 := B6.out.cell
  have zB6 := B6.out.lt
  have cB9 := B9.out.cell
  have zB9 := B9.out.lt
  go_wp2_with fail
  clear cBA zBA cB6 zB6 cB9 zB9
  refine (toObject_any _ _ o (H1.out.below (Nat.le_refl _) F.out.below) HW.out).mono ?_
  rintro e w12 ⟨r12, rfl, oo, gg⟩
  have F := Lib.hid (F.out.call gg)
  have BA := Lib.hid (BA.out.call gg)
  have OW := Lib.hid (OW.out.call gg)
  have B6 := Lib.hid (B6.out.call gg)
  have B9 := Lib.hid (B9.out.call gg)
  have OG := Lib.hid (OG.out.call gg)
  have R := Lib.hid oo.reads
  clear gg oo
  have cBA := BA.out.cell
  have zBA := BA.out.lt
  have cB6 := B6.out.cell
  have zB6 := B6.out.lt
  have cB9 := B9.out.cell
  have zB9 := B9.out.lt
  go_wp2_with fail
  clear cBA zBA cB6 zB6 cB9 zB9
  refine (toIntS_any _ _ L (HL1.out.below (Nat.le_refl _) F.out.below) (by omega)).mono ?_
  rintro e w12q ⟨q12, rfl, oq, gg⟩
  have F := Lib.hid (F.out.call gg)
  have BA := Lib.hid (BA.out.call gg)
  have OW := Lib.hid (OW.out.call gg)
  have B6 := Lib.hid (B6.out.call gg)
  have B9 := Lib.hid (B9.out.call gg)
  have OG := Lib.hid (OG.out.call gg)
  have R := Lib.hid (R.out.below (Nat.le_refl _) gg)
  have Q := Lib.hid oq.reads
  clear gg oq
  have cBA := BA.out.cell
  have zBA := BA.out.lt
  have cB6 := B6.out.cell
  have zB6 := B6.out.lt
  have cB9 := B9.out.cell
  have zB9 := B9.out.lt
  go_wp2_with fail
  clear cBA zBA cB6 zB6 cB9 zB9
  refine (i_KeepSections _ _ _ o L R.out Q.out HN.out).mono ?_
  rw [HT.out, HTB.out]
  rintro e w13 ⟨G2, rfl, oG, gg⟩
  have F := Lib.hid (F.out.call gg)
  have BA := Lib.hid (BA.out.call gg)
  have OW := Lib.hid (OW.out.call gg)
  have B6 := Lib.hid (B6.out.call gg)
  have B9 := Lib.hid (B9.out.call gg)
  have OG := Lib.hid (OG.out.call gg)
  have R2 := Lib.hid oG.reads
  obtain ⟨bsH, oG⟩ := oG.blocks
  obtain ⟨ha, hc, hb, hd, rfl⟩ := oG.agg
  have OH := Lib.hid oG
  clear gg oG R R2 Q
  have gg := ((From.start w13).alloc (.cells #[.slice ha T.secs.length hc, .slice hb T.syms.length hd] 26)).below
  have F := Lib.hid (F.out.call gg)
  have BA := Lib.hid (BA.out.call gg)
  have OW := Lib.hid (OW.out.call gg)
  have B6 := Lib.hid (B6.out.call gg)
  have B9 := Lib.hid (B9.out.call gg)
  have OG := Lib.hid (OG.out.call gg)
  have OH := Lib.hid (OH.out.call gg)
  clear gg
  have B13 := Lib.hid (Blk.new w13 #[.slice ha T.secs.length hc, .slice hb T.syms.length hd] 26)
  have cBA := BA.out.cell
  have zBA := BA.out.lt
  have cB6 := B6.out.cell
  have zB6 := B6.out.lt
  have cB9 := B9.out.cell
  have zB9 := B9.out.lt
  have cB13 := B13.out.cell
  have zB13 := B13.out.lt
  go_wp2_with fail
  clear cBA zBA cB6 zB6 cB9 zB9 cB13 zB13
  refine (eqObject_same _ _ _ T OH.out.obj.reads OW.out.obj.reads).mono ?_
  rintro e w14 ⟨rfl, gg⟩
  have F := Lib.hid (F.out.call gg)
  have BA := Lib.hid (BA.out.call gg)
  have OW := Lib.hid (OW.out.call gg)
  have B6 := Lib.hid (B6.out.call gg)
  have B9 := Lib.hid (B9.out.call gg)
  have OG := Lib.hid (OG.out.call gg)
  have OH := Lib.hid (OH.out.call gg)
  have B13 := Lib.hid (B13.out.call gg)
  clear gg
  have cBA := BA.out.cell
  have zBA := BA.out.lt
  have cB6 := B6.out.cell
  have zB6 := B6.out.lt
  have cB9 := B9.out.cell
  have zB9 := B9.out.lt
  have cB13 := B13.out.cell
  have zB13 := B13.out.lt
  go_wp2_with fail
  clear cBA zBA cB6 zB6 cB9 zB9 cB13 zB13
  have q2 := heldObject_any w14 _ T 1 OG.out.obj.reads HTS.out
  rw [HM.out] at q2
  refine q2.mono ?_
  clear q2
  rintro e w15 ⟨rfl, gg⟩
  have F := Lib.hid (F.out.call gg)
  have BA := Lib.hid (BA.out.call gg)
  have OW := Lib.hid (OW.out.call gg)
  have B6 := Lib.hid (B6.out.call gg)
  have B9 := Lib.hid (B9.out.call gg)
  have OG := Lib.hid (OG.out.call gg)
  have OH := Lib.hid (OH.out.call gg)
  have B13 := Lib.hid (B13.out.call gg)
  clear gg
  have cBA := BA.out.cell
  have zBA := BA.out.lt
  have cB6 := B6.out.cell
  have zB6 := B6.out.lt
  have cB9 := B9.out.cell
  have zB9 := B9.out.lt
  have cB13 := B13.out.cell
  have zB13 := B13.out.lt
  go_wp2_with fail
  clear cBA zBA cB6 zB6 cB9 zB9 cB13 zB13
  go_ret
  exact ⟨rfl, F.out.below⟩
set_option maxRecDepth 100000 in
theorem lifted_FnExactKeepSections (os : Os) (started : os.Started) (H : Type) (enc : TypeId × Value → H) :
    ReturnsInHanded {} Try.checked os 13 .any (Rows.fnExactKeepSectionsSpec.pre6 enc Try.prog Try.f13 Rows.fnExactKeepSectionsRow.domain false) (Rows.fnExactKeepSectionsSpec.post enc Try.prog Try.f13 false true false false) := by
  refine returnsInHanded_of_change (C := Try.checked) own_knob started (by kernel_rfl) Try.func13
    (ChangeSpec.witness6 (enc := enc) (C := Try.checked) false ⟨#[], #[.agg #[.slice none 0 0, .slice none 0 0], .slice none 0 0], []⟩ 8 (by kernel_rfl) (by kernel_rfl) (by kernel_rfl) (by kernel_rfl)) ?_
  intro W base args ds gs before hval0 hW hcnd _
  have hval : ∀ (j : Nat) t v, Try.f13.params[j]? = some t → args[j]? = some v → Value.okWide Try.prog W .any base t v := hval0
  have hW' := hW
  obtain ⟨p, q, hA0, hV, rfl, hfz, hnd⟩ := hW
  have hA : DataW.TrodAll enc Try.prog W 0 (fun _ => true) true Try.f13.params.toList args.toList ds p := hA0
  rw [Try.params13] at hA hval
  obtain ⟨v0, vs0, d0, ds0, p0, q0, hargs, rfl, rfl, h0, r0⟩ := trodAll_cons hA
  obtain ⟨v1, vs1, d1, ds1, p1, q1, rfl, rfl, rfl, h1, r1⟩ := trodAll_cons r0
  obtain ⟨rfl, rfl, rfl⟩ := trodAll_nil r1
  obtain rfl : args = #[v0, v1] := by cases args; simp_all
  obtain ⟨rfl, rfl⟩ := trodVars_none hV
  clear hA0 hval0
  have k0 := h0
  have t0 : ∀ x ∈ p0, x.block < W.heap.size := fun x hx => by simpa using hW'.lt x (by simp [hx])
  have k1 := h1
  have t1 : ∀ x ∈ p1, x.block < W.heap.size := fun x hx => by simpa using hW'.lt x (by simp [hx])
  obtain ⟨x0, o0⟩ := open_objectAt (hval 0 35 v0 rfl rfl) h0
  obtain ⟨x1, o1⟩ := open_intsAt (hval 1 52 v1 rfl rfl) h1
  refine (walk_FnExactKeepSections W v0 x0 o0 v1 x1 o1).mono fun e W' ⟨he, hg⟩ => ?_
  subst he
  exact ⟨_, rfl, _, _, _, _, _, _, hW', (trodAll_cons_mk (shut_bool Try.underlying4 _) trodAll_mk0), (trodAll_cons_mk (Below.trod laid_out (by kernel_rfl) (of_decide_eq_true (by kernel_rfl)) k0 hg t0) (trodAll_cons_mk (Below.trod laid_out (by kernel_rfl) (of_decide_eq_true (by kernel_rfl)) k1 hg t1) trodAll_mk0)), rfl, hg.frame _, fun h => by cases h⟩

set_option maxHeartbeats 2000000 in
theorem facts_FnExactKeepSections : joinedFacts Try.prog 13 Try.f13 Rows.fnExactKeepSectionsSpec Rows.fnExactKeepSectionsRow = true := by
  unfold joinedFacts
  simp only [Bool.and_eq_true]
  repeat' apply And.intro
  all_goals first
    | with_reducible exact laid_out
    | with_reducible exact may_enter
    | (with_reducible rw [lifts_final]; as_aux_lemma => kernel_rfl)
    | (with_reducible rw [make_cut]; as_aux_lemma => kernel_rfl)
    | as_aux_lemma => kernel_rfl
theorem inst_FnExactKeepSections : Try.f13.isInstance Try.prog Rows.fnExactKeepSectionsRow.origin Rows.fnExactKeepSectionsRow.targs := of_decide_eq_true (by kernel_rfl)
theorem wrap_FnExactKeepSections : Try.f13.isWrapper Try.prog Rows.fnExactKeepSectionsRow.wrapper Rows.fnExactKeepSectionsRow.mainSum := by
  unfold Func.isWrapper
  first | (rw [if_pos (by decide +kernel)]; kernel_rfl) | (rw [if_neg (by decide +kernel)]; exact ⟨rfl, rfl⟩)
theorem named_FnExactKeepSections : Try.prog.funcNamed Rows.fnExactKeepSectionsRow.func = some 13 := by kernel_rfl
theorem over_FnExactKeepSections : Rows.fnExactKeepSectionsRow.holds Try.pinned (OpenSpec.ofChange Rows.fnExactKeepSectionsSpec) :=
  OpenClaim.holds_of_wide 13 Try.f13 rfl rfl rfl rfl rfl rfl rfl ⟨rfl, rfl, rfl, rfl, rfl⟩ rfl rfl rfl rfl rfl named_FnExactKeepSections Try.func13 facts_FnExactKeepSections inst_FnExactKeepSections wrap_FnExactKeepSections
    (fun os started H enc _ => lifted_FnExactKeepSections os started H enc)

/-- The statement. -/
theorem holds_FnExactKeepSections : Rows.FnExactKeepSectionsSaid :=
  over_FnExactKeepSections
#print axioms holds_FnExactKeepSections
end Go.Proofs.Ythccjimckjecjaa
