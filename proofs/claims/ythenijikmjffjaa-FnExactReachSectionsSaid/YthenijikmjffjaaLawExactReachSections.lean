/- The program's ReachSections returns what the reference's returns, for all arguments. No condition. -/
import Derived.Test.YthenijikmjffjaaFacts
import Derived.Test.YthenijikmjffjaaReachI
import Derived.Test.YthenijikmjffjaaReachS
import Derived.Test.YthenijikmjffjaaNames
import Derived.Test.YthenijikmjffjaaMarkO
import Derived.Test.YthenijikmjffjaaOpen
import Derived.Test.YthenijikmjffjaaMarkS
namespace Go.Proofs.Ythenijikmjffjaa
open Go.ChangeShapes Go.WideShapes Go.ChangeAt Go.RowKit Go.Joins
set_option linter.unusedSimpArgs false
set_option linter.unusedVariables false
set_option maxRecDepth 100000
theorem Blk.below2 {w w' : World} {g B : Nat} {c : Array Value} {t : TypeId} (h : Blk w g c t) (hb : Below B w w') (hg : g < B) : Blk w' g c t := (hb.block g hg).trans h
theorem owns_below2 {w w' : World} {base B : Nat} {e : TypeId} {size : Nat} {v : Value} {n : Nat} {xs : List Value} (h : w.ownsRow base e size v n xs) (hb : Below B w w') (hB : ∀ k, v.ownBlock = some k → k < B) : w'.ownsRow base e size v n xs := by
  refine ⟨h.1, ?_⟩
  rcases h.2 with h2 | ⟨g, cap, cur, hv, hg, hh, r⟩
  · exact .inl h2
  · exact .inr ⟨g, cap, cur, hv, hg, (hb.block g (hB g (by rw [hv]; rfl))).trans hh, r⟩
set_option maxHeartbeats 4000000 in
theorem walk_FnExactReachSections (w : World) (v : Value) (o : ObjD) (oo : ObjAt w v o ∧ objWf o) (v2 : Value) (L : List ByteArray) (ol : StrsAt w v2 L ∧ ∀ s ∈ L, s.size ≤ maxLen) :
    Calls Try.prog 10 #[v, v2] w fun e w' => e = .returned (.bool true) ∧ Below w.heap.size w w' := by
  obtain ⟨h1, hw⟩ := oo
  obtain ⟨hl1, hl2⟩ := ol
  have hs : (∀ s ∈ o.secs, s.name.size ≤ maxLen) ∧ ∀ s ∈ o.syms, s.name.size ≤ maxLen := ⟨fun s h => (hw.1 s h).1, fun s h => (hw.2 s h).1⟩
  have HN := Lib.hid hs
  have HLN := Lib.hid hl2
  have H1 := Lib.hid h1
  have HL1 := Lib.hid hl1
  obtain ⟨xa, xc, ya, yc, rfl⟩ := h1.agg
  obtain ⟨la, lc, rfl, -⟩ := hl1.form
  clear hw hs h1 hl1 hl2
  have n0 := objCost_nonneg o
  have hc0 := strsCost_nonneg L
  by_cases hc : objCost o ≤ 1048576
  case neg =>
    have E : szV 1048576 (objCost o) = -1 := by unfold szV; rw [if_neg hc]
    clear hc n0 hc0
    go_enter Try.func10, Try.ntmps10
    go_wp2_with fail
    refine (szObject_any _ _ o (H1.out.below (Nat.le_refl _) ((From.start w).alloc _).below) HN.out 1048576 (by omega) (by omega)).mono ?_
    rw [E]
    rintro e w1 ⟨rfl, g1⟩
    have F1 := ((From.start w).alloc _).call g1
    clear g1
    go_wp2_with fail
    go_ret
    exact ⟨rfl, F1.below⟩
  have HW := Lib.hid (few_obj hc)
  have HSt : Hid (1 + objSteps o ≤ 268435456) := steps_few hc
  have hst : (1 + objSteps o) ≤ 268435456 := HSt.out
  have E : szV 1048576 (objCost o) = 1048576 - objCost o := by unfold szV; rw [if_pos hc]
  obtain ⟨left, hleft⟩ : ∃ left, 1048576 - objCost o = left := ⟨_, rfl⟩
  have z0 : 0 ≤ left := by omega
  have z1 : left ≤ 1048576 := by omega
  rw [hleft] at E
  clear hleft hc n0
  by_cases hl : (L.length : Int) + strsCost L ≤ left
  case neg =>
    have E2 : szV left ((L.length : Int) + strsCost L) = -1 := by unfold szV; rw [if_neg hl]
    clear hl
    go_enter Try.func10, Try.ntmps10
    go_wp2_with fail
    refine (szObject_any _ _ o (H1.out.below (Nat.le_refl _) ((From.start w).alloc _).below) HN.out 1048576 (by omega) (by omega)).mono ?_
    rw [E]
    rintro e w1 ⟨rfl, g1⟩
    have F1 := Lib.hid (((From.start w).alloc _).call g1)
    clear g1 E
    go_wp2_with fail
    refine (szStringS_any _ _ L (HL1.out.below (Nat.le_refl _) F1.out.below) HLN.out left z0 z1).mono ?_
    rw [E2]
    rintro e w2 ⟨rfl, g2⟩
    have F2 := Lib.hid (F1.out.call g2)
    clear g2 E2
    go_wp2_with fail
    go_ret
    exact ⟨rfl, F2.out.below⟩
  have E2 : szV left ((L.length : Int) + strsCost L) = left - ((L.length : Int) + strsCost L) := by unfold szV; rw [if_pos hl]
  have hLl : L.length ≤ 1048576 := by omega
  obtain ⟨left2, hleft2⟩ : ∃ left2, left - ((L.length : Int) + strsCost L) = left2 := ⟨_, rfl⟩
  have z2 : 0 ≤ left2 := by omega
  rw [hleft2] at E2
  clear hleft2 hl hc0
  have hT0 : (reachI o L).length ≤ 1048576 := Nat.le_trans (reachI_length _ _) (by have := HW.out.1; omega)
  obtain ⟨T, hT⟩ : ∃ T, reachI o L = T := ⟨_, rfl⟩
  rw [hT] at hT0
  have HT := Lib.hid hT
  have HTl := Lib.hid hT0
  clear hT hT0
  go_enter Try.func10, Try.ntmps10
  go_wp2_with fail
  refine (szObject_any _ _ o (H1.out.below (Nat.le_refl _) ((From.start w).alloc _).below) HN.out 1048576 (by omega) (by omega)).mono ?_
  rw [E]
  rintro e w1 ⟨rfl, g1⟩
  have F1 := Lib.hid (((From.start w).alloc _).call g1)
  have HB1 := Lib.hid ((Blk.newAt w _ _ w.heap.size rfl).call g1)
  clear g1 E
  go_wp2_with fail
  refine (szStringS_any _ _ L (HL1.out.below (Nat.le_refl _) F1.out.below) HLN.out left z0 z1).mono ?_
  rw [E2]
  rintro e w1' ⟨rfl, g1⟩
  have F1 := Lib.hid (F1.out.call g1)
  have HB1 := Lib.hid (HB1.out.call g1)
  have c := HB1.out.cell
  clear g1 E2
  go_wp2_with fail
  refine (toObject_any _ _ o (H1.out.below (Nat.le_refl _) F1.out.below) HW.out).mono ?_
  rintro e w2 ⟨r2, rfl, o2, g2⟩
  have F2 := Lib.hid (F1.out.call g2)
  have HB2 := Lib.hid (HB1.out.call g2)
  have R2 := Lib.hid o2.reads
  clear c g2 F1 HB1 o2
  go_wp2_with fail
  refine (toStringS_any _ _ L (HL1.out.below (Nat.le_refl _) F2.out.below) (by omega)).mono ?_
  rintro e w2' ⟨q2, rfl, oq, -, g2⟩
  have R2' := Lib.hid (R2.out.below (Nat.le_refl _) g2)
  have F2 := Lib.hid (F2.out.call g2)
  have HB2 := Lib.hid (HB2.out.call g2)
  have Q2 := Lib.hid oq.reads
  clear g2 oq R2
  go_wp2_with fail
  refine (s_ReachSections _ _ _ o L R2'.out Q2.out HN.out).mono ?_
  rw [HT.out]
  rintro e w3 ⟨W, rfl, oW, g3⟩
  have F3 := Lib.hid (F2.out.call g3)
  have HB3 := Lib.hid (HB2.out.call g3)
  have HW3 := Lib.hid oW
  have HWb : Hid (∀ k, W.ownBlock = some k → k < w3.heap.size) := fun k hk => (World.ownsRow.lt oW k hk).2
  have zB : Hid (w.heap.size < w3.heap.size) := HB3.out.lt
  have c := HB3.out.cell
  clear g3 F2 HB2 R2' Q2 oW
  go_wp2_with fail
  refine (toObject_any _ _ o (H1.out.below (Nat.le_refl _) F3.out.below) HW.out).mono ?_
  rintro e w4 ⟨r4, rfl, o4, g4⟩
  obtain ⟨bs, o4⟩ := o4.blocks
  have F4 := Lib.hid (F3.out.call g4)
  have HB4 := Lib.hid (HB3.out.call g4)
  have HW4 := Lib.hid (owns_call HW3.out g4)
  have HX4 := Lib.hid o4
  have HBs := Lib.hid o4.lt
  have z34 : Hid (w3.heap.size ≤ w4.heap.size) := g4.size
  obtain ⟨ra, rc, rb, rd, rfl⟩ := o4.agg
  clear c g4 F3 HB3 o4 HW3
  go_wp2_with fail
  have X5 := Lib.hid ((From.start w4).alloc (.cells #[.slice ra o.secs.length rc, .slice rb o.syms.length rd] 26))
  have HBY0 := Lib.hid (Blk.newAt w4 #[.slice ra o.secs.length rc, .slice rb o.syms.length rd] 26 w4.heap.size rfl)
  refine (toStringS_any _ _ L (HL1.out.below (Nat.le_refl _) (F4.out.call X5.out.below).below) (by omega)).mono ?_
  rintro e w4' ⟨q4, rfl, oq, -, g4⟩
  have X5' := Lib.hid (X5.out.call g4)
  have HQ4 : Hid (OwnS w4' w4.heap.size q4 L) := owns_mono oq X5.out.le
  have HQb : Hid (∀ k, q4.ownBlock = some k → w4.heap.size < k ∧ k < w4'.heap.size) := fun k hk => ⟨by have := (World.ownsRow.lt oq k hk).1; simp at this; omega, (World.ownsRow.lt oq k hk).2⟩
  obtain ⟨qa, qc, rfl⟩ := owns_form oq
  have BX1 := Lib.hid (HBY0.out.call g4)
  have cx := BX1.out.cell
  have z44 : Hid (w4.heap.size < w4'.heap.size) := BX1.out.lt
  have zx := z44.out
  clear g4 oq X5 HBY0
  go_wp2_with fail
  refine (i_ReachSections _ _ _ o L (HX4.out.obj.reads.below (Nat.le_refl _) X5'.out.below) (reads_of_owns HQ4.out) HN.out).mono ?_
  rw [HT.out]
  rintro e w5 ⟨G, rfl, oG, g5⟩
  have HG5 : Hid (OwnI w5 w4'.heap.size G T) := oG
  have HZ : Hid (w4'.heap.size ≤ w5.heap.size) := g5.size
  have HX5 := Lib.hid (X5'.out.call g5)
  have F5 := Lib.hid (F4.out.call HX5.out.below)
  have HB5 := Lib.hid (HB4.out.call HX5.out.below)
  have HW5 := Lib.hid (owns_call HW4.out HX5.out.below)
  have HO5 := Lib.hid (HX4.out.call HX5.out.below)
  have HQ5 := Lib.hid (owns_call HQ4.out g5)
  have HBX := Lib.hid (BX1.out.call g5)
  clear cx zx oG g5 F4 HB4 X5' HX5 BX1 HW4 HX4 HQ4
  have c := HB5.out.cell
  have cx := HBX.out.cell
  go_wp2_with fail
  refine (eqIntS_same _ _ _ T (reads_of_owns HG5.out) (reads_of_owns HW5.out)).mono ?_
  rintro e w6 ⟨rfl, g6⟩
  have HZ : Hid (w4'.heap.size ≤ w6.heap.size) := Nat.le_trans HZ.out g6.size
  have F6 := Lib.hid (F5.out.call g6)
  have HB6 := Lib.hid (HB5.out.call g6)
  have HW6 := Lib.hid (owns_call HW5.out g6)
  have HG6 := Lib.hid (owns_call HG5.out g6)
  have HO6 := Lib.hid (HO5.out.call g6)
  have HQ6 := Lib.hid (owns_call HQ5.out g6)
  have HBX6 := Lib.hid (HBX.out.call g6)
  clear c cx g6 F5 HB5 HW5 HG5 HO5 HQ5 HBX
  go_wp2_with fail
  have keepS : ∀ u, From w6.heap.size w6 u → (∀ o', u.cell? ⟨w.heap.size, o', none⟩ = #[Value.slice xa o.secs.length xc, Value.slice ya o.syms.length yc][o']?) ∧
      (∀ o', u.cell? ⟨w4.heap.size, o', none⟩ = #[Value.slice ra o.secs.length rc, Value.slice rb o.syms.length rd][o']?) ∧ From w6.heap.size w6 u := fun u hu => ⟨(HB6.out.call hu.below).cell, (HBX6.out.call hu.below).cell, hu⟩
  have first := keepS _ (From.start w6)
  have H7 := Lib.hid (H1.out.below (Nat.le_refl _) F6.out.below)
  go_region_held3 (fun u => (∀ o', u.cell? ⟨w.heap.size, o', none⟩ = #[Value.slice xa o.secs.length xc, Value.slice ya o.syms.length yc][o']?) ∧
      (∀ o', u.cell? ⟨w4.heap.size, o', none⟩ = #[Value.slice ra o.secs.length rc, Value.slice rb o.syms.length rd][o']?) ∧ From w6.heap.size w6 u)
    (first | assumption | exact keepS _ (From.drew (From.start w6)) | exact keepS _ (From.call (‹_ ∧ _ ∧ From _ _ _›).2.2 (by assumption)))
    (first
      | (go_at_call 20; refine (toObject_any _ _ o (H7.out.below (Nat.le_refl _) (‹_ ∧ _ ∧ From _ _ _›).2.2.below) HW.out).mono ?_; rintro e w6' ⟨r6, rfl, o6, g6⟩; have Q6 := o6.reads)
      | (go_at_call 21; refine (eqObject_same _ _ _ o (HO6.out.obj.reads.below (Nat.le_refl _) (‹_ ∧ _ ∧ From _ _ _›).2.2.below) (by assumption)).mono ?_; rintro e w7' ⟨rfl, g7⟩))
  have HL0 := ‹_ ∧ _ ∧ From w6.heap.size w6 _›.2.2
  have HZ : Hid (w4'.heap.size ≤ w7'.heap.size) := Nat.le_trans HZ.out HL0.le
  have F7 := Lib.hid (F6.out.trans (HL0.below.mono F6.out.le))
  have HB7 := Lib.hid (HB6.out.call HL0.below)
  have HW7 := Lib.hid (owns_call HW6.out HL0.below)
  have HG7 := Lib.hid (owns_call HG6.out HL0.below)
  have HO7 := Lib.hid (HO6.out.call HL0.below)
  have HQ7 := Lib.hid (owns_call HQ6.out HL0.below)
  have HBX7 := Lib.hid (HBX6.out.call HL0.below)
  clear keepS first HL0 F6 H7 HB6 HW6 HG6 HO6 HQ6 HBX6
  try clear Q6
  try clear o6
  generalize w7' = w7 at *
  go_wp2_with fail
  refine (toStringS_any _ _ L (HL1.out.below (Nat.le_refl _) F7.out.below) (by omega)).mono ?_
  rintro e wa ⟨qa', rfl, oq, -, ga⟩
  have HZ : Hid (w4'.heap.size ≤ wa.heap.size) := Nat.le_trans HZ.out ga.size
  have F7 := Lib.hid (F7.out.call ga)
  have HB7 := Lib.hid (HB7.out.call ga)
  have HW7 := Lib.hid (owns_call HW7.out ga)
  have HG7 := Lib.hid (owns_call HG7.out ga)
  have HO7 := Lib.hid (HO7.out.call ga)
  have HQ7 := Lib.hid (owns_call HQ7.out ga)
  have HBX7 := Lib.hid (HBX7.out.call ga)
  have Q7 := Lib.hid oq.reads
  clear oq ga
  go_wp2_with fail
  refine (l_eqStringS_same _ _ _ L (reads_of_owns HQ7.out) Q7.out).mono ?_
  rintro e wb ⟨rfl, ga⟩
  have HZ : Hid (w4'.heap.size ≤ wb.heap.size) := Nat.le_trans HZ.out ga.size
  have F7 := Lib.hid (F7.out.call ga)
  have HB7 := Lib.hid (HB7.out.call ga)
  have HW7 := Lib.hid (owns_call HW7.out ga)
  have HG7 := Lib.hid (owns_call HG7.out ga)
  have HO7 := Lib.hid (HO7.out.call ga)
  have HQ7 := Lib.hid (owns_call HQ7.out ga)
  have HBX7 := Lib.hid (HBX7.out.call ga)
  have z47 : Hid (w4.heap.size < wb.heap.size) := HBX7.out.lt
  clear ga Q7
  have cx := HBX7.out.cell
  go_wp2_with fail
  refine (markObject_any wb _ bs _ o HO7.out 1 HSt.out).mono ?_
  rintro e w8 ⟨rfl, -, g8⟩
  have HZ : Hid (w4'.heap.size ≤ w8.heap.size) := Nat.le_trans HZ.out g8.size
  have hbsw : ∀ g ∈ bs, w.heap.size ≤ g := fun g hg => by have := (HBs.out g hg).1; have := zB.out; omega
  have F8 := Lib.hid (F7.out.other g8 hbsw)
  have HB8 : Hid (Blk w8 w.heap.size #[.slice xa o.secs.length xc, .slice ya o.syms.length yc] 35) := HB7.out.otherB g8 fun hm => by have := (HBs.out _ hm).1; have := zB.out; omega
  have HW8 : Hid (OwnI w8 w2'.heap.size W T) := owns_other HW7.out g8 fun k hk hm => by have := (HBs.out k hm).1; have := HWb.out k hk; omega
  have HG8 : Hid (OwnI w8 w4'.heap.size G T) := owns_other HG7.out g8 fun k hk hm => by have := (HBs.out k hm).2; have := (World.ownsRow.lt HG7.out k hk).1; have := z44.out; omega
  have HQ8 : Hid (OwnS w8 w4.heap.size (.slice qa L.length qc) L) := owns_other HQ7.out g8 fun k hk hm => by have := (HBs.out k hm).2; have := (HQb.out k hk).1; omega
  obtain ⟨K, hK⟩ : ∃ K, 1 + objSteps o = K := ⟨_, rfl⟩
  rw [hK] at hst ⊢
  have zK : (0 : Int) ≤ (K : Int) := by omega
  have z48 : Hid (w4.heap.size ≤ w8.heap.size) := Nat.le_trans (Nat.le_of_lt z47.out) g8.size
  clear hK cx g8 F7 HB7 HW7 HG7 HO7 HQ7 HBX7
  go_wp2_with fail
  refine (markStringS_any w8 w4.heap.size _ L HQ8.out z48.out K (by omega) (by omega)).mono ?_
  rintro e w9 ⟨rfl, -, g9⟩
  have HZ : Hid (w4'.heap.size ≤ w9.heap.size) := Nat.le_trans HZ.out g9.size
  have hqb : ∀ k, (Value.slice qa L.length qc).ownBlock = some k → w4.heap.size < k ∧ k < w4'.heap.size := HQb.out
  have F9 := Lib.hid (F8.out.grown g9 fun k hk => by have := hqb k hk; have := z34.out; have := zB.out; omega)
  have HB9 : Hid (Blk w9 w.heap.size #[.slice xa o.secs.length xc, .slice ya o.syms.length yc] 35) := HB8.out.grown g9 fun e => by have := hqb _ e.symm; have := z34.out; have := zB.out; omega
  have HW9 : Hid (OwnI w9 w2'.heap.size W T) := owns_other HW8.out (Other.grown (bs := (Value.slice qa L.length qc).ownBlock.toList) g9 fun k hk => by simpa using hk) fun k hk hm => by
    have := hqb k (by simpa using hm); have := HWb.out k hk; have := z34.out; omega
  have HG9 : Hid (OwnI w9 w4'.heap.size G T) := owns_other HG8.out (Other.grown (bs := (Value.slice qa L.length qc).ownBlock.toList) g9 fun k hk => by simpa using hk) fun k hk hm => by
    have := hqb k (by simpa using hm); have := (World.ownsRow.lt HG8.out k hk).1; omega
  obtain ⟨K2, hK2⟩ : ∃ K2 : Int, (K : Int) + (L.length : Int) = K2 := ⟨_, rfl⟩
  have zK2 : 0 ≤ K2 := by omega
  rw [hK2]
  clear hK2 g9 hqb F8 HB8 HW8 HG8 HQ8
  go_wp2_with fail
  refine (eqIntS_same _ _ _ T (reads_of_owns HG9.out) (reads_of_owns HW9.out)).mono ?_
  rintro e w9' ⟨rfl, g9⟩
  have F9 := Lib.hid (F9.out.call g9)
  have HB9 := Lib.hid (HB9.out.call g9)
  have HW9 := Lib.hid (owns_call HW9.out g9)
  have HG9 := Lib.hid (owns_call HG9.out g9)
  have z9 : w4'.heap.size ≤ w9'.heap.size := Nat.le_trans HZ.out g9.size
  clear g9
  go_wp2_with fail
  refine (markIntS_any w9' w4'.heap.size G T HG9.out z9 1 (by decide) (by have := HTl.out; omega)).mono ?_
  rintro e w10 ⟨rfl, o10, b10⟩
  have F10 := Lib.hid (F9.out.trans (b10.mono (by have := z34.out; have := z44.out; have := zB.out; omega)))
  have HB10 : Hid (Blk w10 w.heap.size #[.slice xa o.secs.length xc, .slice ya o.syms.length yc] 35) := Blk.below2 HB9.out b10 (by have := z34.out; have := z44.out; have := zB.out; omega)
  have HW10 : Hid (OwnI w10 w2'.heap.size W T) := owns_below2 HW9.out b10 fun k hk => by have := HWb.out k hk; have := z34.out; have := z44.out; omega
  have HG10 := Lib.hid o10
  obtain ⟨M, hM⟩ : ∃ M : Int, ((1 : Nat) : Int) + (T.length : Int) = M := ⟨_, rfl⟩
  have zM : 0 ≤ M := by omega
  have HM := Lib.hid hM
  rw [hM]
  clear hM o10 b10 F9 HB9 HW9 HG9
  have c := HB10.out.cell
  go_wp2_with fail
  have q1 := heldIntS_any w10 G 1 T.length (reads_of_owns HG10.out) (by decide) (by have := HTl.out; omega)
  rw [HM.out] at q1
  refine q1.mono ?_
  clear q1
  rintro e w11 ⟨rfl, rfl⟩
  have eM : (M != M) = false := by simp
  go_wp2_with fail
  refine (toObject_any _ _ o (H1.out.below (Nat.le_refl _) F10.out.below) HW.out).mono ?_
  rintro e w12 ⟨r12, rfl, o12, g12⟩
  have F12 := Lib.hid (F10.out.call g12)
  have HW12 := Lib.hid (owns_call HW10.out g12)
  have HG12 := Lib.hid (owns_call HG10.out g12)
  have R12 := Lib.hid o12.reads
  clear c o12 g12 F10 HB10 HW10 HG10
  go_wp2_with fail
  refine (toStringS_any _ _ L (HL1.out.below (Nat.le_refl _) F12.out.below) (by omega)).mono ?_
  rintro e w12' ⟨q12, rfl, oq, -, g12⟩
  have F12 := Lib.hid (F12.out.call g12)
  have HW12 := Lib.hid (owns_call HW12.out g12)
  have HG12 := Lib.hid (owns_call HG12.out g12)
  have R12 := Lib.hid (R12.out.below (Nat.le_refl _) g12)
  have Q12 := Lib.hid oq.reads
  clear oq g12
  go_wp2_with fail
  refine (i_ReachSections _ _ _ o L R12.out Q12.out HN.out).mono ?_
  rw [HT.out]
  rintro e w13 ⟨G2, rfl, oG2, g13⟩
  have F13 := Lib.hid (F12.out.call g13)
  have HW13 := Lib.hid (owns_call HW12.out g13)
  have HG13 := Lib.hid (owns_call HG12.out g13)
  have HR13 := Lib.hid oG2.reads
  clear oG2 g13 F12 HW12 HG12 R12 Q12
  go_wp2_with fail
  refine (eqIntS_same _ _ _ T HR13.out (reads_of_owns HW13.out)).mono ?_
  rintro e w14 ⟨rfl, g14⟩
  have F14 := Lib.hid (F13.out.call g14)
  have HG14 := Lib.hid (owns_call HG13.out g14)
  clear g14 F13 HW13 HG13 HR13
  go_wp2_with fail
  have q2 := heldIntS_any w14 G 1 T.length (reads_of_owns HG14.out) (by decide) (by have := HTl.out; omega)
  rw [HM.out] at q2
  refine q2.mono ?_
  clear q2
  rintro e w15 ⟨rfl, rfl⟩
  have F15 := F14
  go_wp2_with fail
  go_ret
  exact ⟨rfl, F15.out.below⟩
set_option maxRecDepth 100000 in
theorem lifted_FnExactReachSections (os : Os) (started : os.Started) (H : Type) (enc : TypeId × Value → H) :
    ReturnsInHanded {} Try.checked os 10 .any (Rows.fnExactReachSectionsSpec.pre6 enc Try.prog Try.f10 Rows.fnExactReachSectionsRow.domain false) (Rows.fnExactReachSectionsSpec.post enc Try.prog Try.f10 false true false false) := by
  refine returnsInHanded_of_change (C := Try.checked) own_knob started (by kernel_rfl) Try.func10
    (ChangeSpec.witness6 (enc := enc) (C := Try.checked) false ⟨#[], #[.agg #[.slice none 0 0, .slice none 0 0], .slice none 0 0], []⟩ 8 (by kernel_rfl) (by kernel_rfl) (by kernel_rfl) (by kernel_rfl)) ?_
  intro W base args ds gs before hval0 hW hcnd _
  have hval : ∀ (j : Nat) t v, Try.f10.params[j]? = some t → args[j]? = some v → Value.okWide Try.prog W .any base t v := hval0
  have hW' := hW
  obtain ⟨p, q, hA0, hV, rfl, hfz, hnd⟩ := hW
  have hA : DataW.TrodAll enc Try.prog W 0 (fun _ => true) true Try.f10.params.toList args.toList ds p := hA0
  rw [Try.params10] at hA hval
  obtain ⟨v0, vs0, d0, ds0, p0, q0, hargs, rfl, rfl, h0, r0⟩ := trodAll_cons hA
  obtain ⟨v1, vs1, d1, ds1, p1, q1, rfl, rfl, rfl, h1, r1⟩ := trodAll_cons r0
  obtain ⟨rfl, rfl, rfl⟩ := trodAll_nil r1
  obtain rfl : args = #[v0, v1] := by cases args; simp_all
  obtain ⟨rfl, rfl⟩ := trodVars_none hV
  clear hA0 hval0
  have k0 := h0
  have t0 : ∀ x ∈ p0, x.block < W.heap.size := fun x hx => by simpa using hW'.lt x (by simp [hx])
  have k1 := h1
  have t1 : ∀ x ∈ p1, x.block < W.heap.size := fun x hx => by simpa using hW'.lt x (by simp [hx])
  obtain ⟨x0, o0⟩ := open_objectAt (hval 0 35 v0 rfl rfl) h0
  obtain ⟨x1, o1⟩ := open_stringsAt (hval 1 40 v1 rfl rfl) h1
  refine (walk_FnExactReachSections W v0 x0 o0 v1 x1 o1).mono fun e W' ⟨he, hg⟩ => ?_
  subst he
  exact ⟨_, rfl, _, _, _, _, _, _, hW', (trodAll_cons_mk (shut_bool Try.underlying4 _) trodAll_mk0), (trodAll_cons_mk (Below.trod laid_out (by kernel_rfl) (of_decide_eq_true (by kernel_rfl)) k0 hg t0) (trodAll_cons_mk (Below.trod laid_out (by kernel_rfl) (of_decide_eq_true (by kernel_rfl)) k1 hg t1) trodAll_mk0)), rfl, hg.frame _, fun h => by cases h⟩

set_option maxHeartbeats 2000000 in
theorem facts_FnExactReachSections : joinedFacts Try.prog 10 Try.f10 Rows.fnExactReachSectionsSpec Rows.fnExactReachSectionsRow = true := by
  unfold joinedFacts
  simp only [Bool.and_eq_true]
  repeat' apply And.intro
  all_goals first
    | with_reducible exact laid_out
    | with_reducible exact may_enter
    | (with_reducible rw [lifts_final]; as_aux_lemma => kernel_rfl)
    | (with_reducible rw [make_cut]; as_aux_lemma => kernel_rfl)
    | as_aux_lemma => kernel_rfl
theorem inst_FnExactReachSections : Try.f10.isInstance Try.prog Rows.fnExactReachSectionsRow.origin Rows.fnExactReachSectionsRow.targs := of_decide_eq_true (by kernel_rfl)
theorem wrap_FnExactReachSections : Try.f10.isWrapper Try.prog Rows.fnExactReachSectionsRow.wrapper Rows.fnExactReachSectionsRow.mainSum := by
  unfold Func.isWrapper
  first | (rw [if_pos (by decide +kernel)]; kernel_rfl) | (rw [if_neg (by decide +kernel)]; exact ⟨rfl, rfl⟩)
theorem named_FnExactReachSections : Try.prog.funcNamed Rows.fnExactReachSectionsRow.func = some 10 := by kernel_rfl
theorem over_FnExactReachSections : Rows.fnExactReachSectionsRow.holds Try.pinned (OpenSpec.ofChange Rows.fnExactReachSectionsSpec) :=
  OpenClaim.holds_of_wide 10 Try.f10 rfl rfl rfl rfl rfl rfl rfl ⟨rfl, rfl, rfl, rfl, rfl⟩ rfl rfl rfl rfl rfl named_FnExactReachSections Try.func10 facts_FnExactReachSections inst_FnExactReachSections wrap_FnExactReachSections
    (fun os started H enc _ => lifted_FnExactReachSections os started H enc)

/-- The statement. -/
theorem holds_FnExactReachSections : Rows.FnExactReachSectionsSaid :=
  over_FnExactReachSections
#print axioms holds_FnExactReachSections
end Go.Proofs.Ythenijikmjffjaa
