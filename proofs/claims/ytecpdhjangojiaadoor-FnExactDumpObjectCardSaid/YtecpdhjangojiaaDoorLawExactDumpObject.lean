/- The program's DumpObject returns what the reference's returns, for all arguments: the card. Its row lists three tables of Go's library with what they hold. -/
import Derived.Test.YtecpdhjangojiaaDoorBase
import Derived.Test.YtecpdhjangojiaaDoorCards
import Derived.Test.YtecpdhjangojiaaDoorTie
import Derived.Test.YtecpdhjangojiaaDoorDumpS
import Derived.Test.YtecpdhjangojiaaDoorMarkO
import Derived.Test.YtecpdhjangojiaaDoorOpen
import Derived.Deep.DeepHandedRow
import Derived.Lib.LaidTab
import Derived.LaidSub
namespace Go.Proofs.YtecpdhjangojiaaDoor
open Go.ChangeShapes Go.WideShapes Go.ChangeAt Go.RowKit Go.Joins
set_option linter.unusedSimpArgs false
set_option linter.unusedVariables false
set_option maxRecDepth 100000
theorem ownS_callD {w w' : World} {b : Nat} {v : Value} {l : List ByteArray} (h : OwnS w b v l) (hb : Below w.heap.size w w') : OwnS w' b v l := owns_call h hb
theorem dumpL_len (o : ObjD) : (dumpL o).length ≤ 1048576 := by
  unfold dumpL
  split
  · rename_i h
    have h1 := dumpS_len o h
    have h2 := (objB_few8 h).2
    rw [List.length_append, List.length_map]
    omega
  · simp
set_option maxHeartbeats 2000000 in
theorem walk_FnExactDumpObject (w : World) (v : Value) (o : ObjD) (oo : ObjAt w v o ∧ objWf o) (ht : Tab w) :
    Calls Tryd.prog 4 #[v] w fun e w' => e = .returned (.bool true) ∧ Below w.heap.size w w' := by
  obtain ⟨h1, hw⟩ := oo
  have HTB : Hid (∀ u, Below w.heap.size w u → Tab u) := fun u hu => ht.call hu
  clear ht
  have hs : (∀ s ∈ o.secs, s.name.size ≤ maxLen) ∧ ∀ s ∈ o.syms, s.name.size ≤ maxLen := ⟨fun s h => (hw.1 s h).1, fun s h => (hw.2 s h).1⟩
  have HN := Lib.hid hs
  have H1 := Lib.hid h1
  obtain ⟨xa, xc, ya, yc, rfl⟩ := h1.agg
  clear hw hs h1
  have n0 := objCost_nonneg o
  by_cases hc : objCost o ≤ 1048576
  case neg =>
    have E : szV 1048576 (objCost o) = -1 := by unfold szV; rw [if_neg hc]
    clear hc n0
    go_enter Tryd.func4, Tryd.ntmps4
    go_wp2_with fail
    refine (szObject_any _ _ o (H1.out.below (Nat.le_refl _) ((From.start w).alloc _).below) HN.out 1048576 (by omega) (by omega)).mono ?_
    rw [E]
    rintro e w1 ⟨rfl, g1⟩
    have F1 := ((From.start w).alloc _).call g1
    clear g1
    go_wp2_with fail
    go_ret
    exact ⟨rfl, F1.below⟩
  have HW := Lib.hid (few_obj hc)
  have HSt : Hid (1 + objSteps o ≤ 268435456) := steps_few hc
  have hT0 : ((dumpL o).map txt).length ≤ 1048576 := by rw [List.length_map]; exact dumpL_len o
  obtain ⟨T, hT⟩ : ∃ T, (dumpL o).map txt = T := ⟨_, rfl⟩
  rw [hT] at hT0
  have HT := Lib.hid hT
  have HTl := Lib.hid hT0
  have E : szV 1048576 (objCost o) = 1048576 - objCost o := by unfold szV; rw [if_pos hc]
  obtain ⟨L, hL⟩ : ∃ L, 1048576 - objCost o = L := ⟨_, rfl⟩
  have z0 : 0 ≤ L := by omega
  rw [hL] at E
  clear hL hc n0 hT hT0
  go_enter Tryd.func4, Tryd.ntmps4
  go_wp2_with fail
  refine (szObject_any _ _ o (H1.out.below (Nat.le_refl _) ((From.start w).alloc _).below) HN.out 1048576 (by omega) (by omega)).mono ?_
  rw [E]
  rintro e w1 ⟨rfl, g1⟩
  have F1 := Lib.hid (((From.start w).alloc _).call g1)
  have HB1 := Lib.hid ((Blk.newAt w _ _ w.heap.size rfl).call g1)
  have H2 := Lib.hid (H1.out.below (Nat.le_refl _) F1.out.below)
  have c := HB1.out.cell
  have HH := Lib.hid H1.out
  clear g1 E H1
  go_wp2_with fail
  refine (toObject_any _ _ o H2.out HW.out).mono ?_
  rintro e w2 ⟨r2, rfl, o2, g2⟩
  have F2 := Lib.hid (F1.out.call g2)
  have HB2 := Lib.hid (HB1.out.call g2)
  have H3 := Lib.hid (H2.out.below (Nat.le_refl _) g2)
  have R2 := o2.reads
  clear c
  have c := HB2.out.cell
  clear g2 F1 HB1 H2 o2
  go_wp2_with fail
  refine (s_DumpObject _ _ o R2 HN.out).mono ?_
  unfold RetL
  rw [HT.out]
  rintro e w3 ⟨W, rfl, oW, g3⟩
  have F3 := Lib.hid (F2.out.call g3)
  have HB3 := Lib.hid (HB2.out.call g3)
  have H4 := Lib.hid (H3.out.below (Nat.le_refl _) g3)
  have HW3 := Lib.hid oW
  have HWb : Hid (∀ k, W.ownBlock = some k → k < w3.heap.size) := fun k hk => (World.ownsRow.lt oW k hk).2
  have zB : Hid (w.heap.size < w3.heap.size) := HB3.out.lt
  clear c
  have c := HB3.out.cell
  clear g3 F2 HB2 H3 R2 oW
  go_wp2_with fail
  refine (toObject_any _ _ o H4.out HW.out).mono ?_
  rintro e w4 ⟨r4, rfl, o4, g4⟩
  obtain ⟨bs, o4⟩ := o4.blocks
  have F4 := Lib.hid (F3.out.call g4)
  have HB4 := Lib.hid (HB3.out.call g4)
  have H5 := Lib.hid (H4.out.below (Nat.le_refl _) g4)
  have HW4 := Lib.hid (ownS_callD HW3.out g4)
  have HX4 := Lib.hid o4
  have HBs := Lib.hid o4.lt
  have z34 : Hid (w3.heap.size ≤ w4.heap.size) := g4.size
  obtain ⟨ra, rc, rb, rd, rfl⟩ := o4.agg
  clear c
  have c := HB4.out.cell
  clear g4 F3 HB3 H4 o4 HW3
  go_wp2_with fail
  have X5 := Lib.hid ((From.start w4).alloc (.cells #[.slice ra o.secs.length rc, .slice rb o.syms.length rd] 26))
  have BX0 := Lib.hid (Blk.newAt w4 #[.slice ra o.secs.length rc, .slice rb o.syms.length rd] 26 w4.heap.size rfl)
  refine (i_DumpObject _ _ o (HX4.out.obj.reads.below (Nat.le_refl _) X5.out.below) HN.out (HTB.out _ (F4.out.call X5.out.below).below)).mono ?_
  unfold RetL
  rw [HT.out]
  rintro e w5 ⟨G, rfl, oG, g5⟩
  have HG5 : Hid (OwnS w5 w4.heap.size G T) := owns_mono oG X5.out.le
  have HX5 := Lib.hid (X5.out.call g5)
  have F5 := Lib.hid (F4.out.call HX5.out.below)
  have H6 := Lib.hid (H5.out.below (Nat.le_refl _) HX5.out.below)
  have HB5 := Lib.hid (HB4.out.call HX5.out.below)
  have HW5 := Lib.hid (ownS_callD HW4.out HX5.out.below)
  have HO5 := Lib.hid (HX4.out.call HX5.out.below)
  have HBX := Lib.hid (BX0.out.call g5)
  clear c oG g5 F4 HB4 H5 X5 HX5 BX0 HW4 HX4
  have c := HB5.out.cell
  have cx := HBX.out.cell
  go_wp2_with fail
  refine (l_eqStringS_same _ _ _ T HG5.out.reads HW5.out.reads).mono ?_
  rintro e w6 ⟨rfl, g6⟩
  have F6 := Lib.hid (F5.out.call g6)
  have H7 := Lib.hid (H6.out.below (Nat.le_refl _) g6)
  have HB6 := Lib.hid (HB5.out.call g6)
  have HW6 := Lib.hid (ownS_callD HW5.out g6)
  have HG6 := Lib.hid (ownS_callD HG5.out g6)
  have HO6 := Lib.hid (HO5.out.call g6)
  have HBX6 := Lib.hid (HBX.out.call g6)
  clear c cx g6 F5 H6 HB5 HW5 HG5 HO5 HBX
  go_wp2_with fail
  have keepS : ∀ u, From w6.heap.size w6 u → (∀ o', u.cell? ⟨w.heap.size, o', none⟩ = #[Value.slice xa o.secs.length xc, Value.slice ya o.syms.length yc][o']?) ∧
      (∀ o', u.cell? ⟨w4.heap.size, o', none⟩ = #[Value.slice ra o.secs.length rc, Value.slice rb o.syms.length rd][o']?) ∧ From w6.heap.size w6 u := fun u hu => ⟨(HB6.out.call hu.below).cell, (HBX6.out.call hu.below).cell, hu⟩
  have first := keepS _ (From.start w6)
  go_region_held3 (fun u => (∀ o', u.cell? ⟨w.heap.size, o', none⟩ = #[Value.slice xa o.secs.length xc, Value.slice ya o.syms.length yc][o']?) ∧
      (∀ o', u.cell? ⟨w4.heap.size, o', none⟩ = #[Value.slice ra o.secs.length rc, Value.slice rb o.syms.length rd][o']?) ∧ From w6.heap.size w6 u)
    (first | assumption | exact keepS _ (From.drew (From.start w6)) | exact keepS _ (From.call (‹_ ∧ _ ∧ From _ _ _›).2.2 (by assumption)))
    (first
      | (go_at_call 14; refine (toObject_any _ _ o (H7.out.below (Nat.le_refl _) (‹_ ∧ _ ∧ From _ _ _›).2.2.below) HW.out).mono ?_; rintro e w6' ⟨r6, rfl, o6, g6⟩; have Q6 := o6.reads)
      | (go_at_call 16; refine (eqObject_same _ _ _ o (HO6.out.obj.reads.below (Nat.le_refl _) (‹_ ∧ _ ∧ From _ _ _›).2.2.below) (by assumption)).mono ?_; rintro e w7' ⟨rfl, g7⟩))
  have HL0 := ‹_ ∧ _ ∧ From w6.heap.size w6 _›.2.2
  have F7 := Lib.hid (F6.out.trans (HL0.below.mono F6.out.le))
  have H8 := Lib.hid (H7.out.below (Nat.le_refl _) HL0.below)
  have HB7 := Lib.hid (HB6.out.call HL0.below)
  have HW7 := Lib.hid (ownS_callD HW6.out HL0.below)
  have HG7 := Lib.hid (ownS_callD HG6.out HL0.below)
  have HO7 := Lib.hid (HO6.out.call HL0.below)
  have HBX7 := Lib.hid (HBX6.out.call HL0.below)
  have z47 : Hid (w4.heap.size < w7'.heap.size) := HBX7.out.lt
  clear keepS first HL0 F6 H7 HB6 HW6 HG6 HO6 HBX6
  try clear Q6
  try clear o6
  have c := HB7.out.cell
  have cx := HBX7.out.cell
  generalize w7' = w7 at *
  go_wp2_with fail
  refine (markObject_any w7 _ bs _ o HO7.out 1 HSt.out).mono ?_
  rintro e w8 ⟨rfl, -, g8⟩
  have hbsw : ∀ g ∈ bs, w.heap.size ≤ g := fun g hg => by have := (HBs.out g hg).1; have := zB.out; omega
  have F8 := Lib.hid (F7.out.other g8 hbsw)
  have H9 : Hid (ObjAt w8 (.agg #[.slice xa o.secs.length xc, .slice ya o.syms.length yc]) o) := HH.out.below (Nat.le_refl _) F8.out.below
  have HB8 : Hid (Blk w8 w.heap.size #[.slice xa o.secs.length xc, .slice ya o.syms.length yc] 40) := HB7.out.otherB g8 fun hm => by have := (HBs.out _ hm).1; have := zB.out; omega
  have HW8 : Hid (OwnS w8 w2.heap.size W T) := owns_other HW7.out g8 fun k hk hm => by have := (HBs.out k hm).1; have := HWb.out k hk; omega
  have HG8 : Hid (OwnS w8 w4.heap.size G T) := owns_other HG7.out g8 fun k hk hm => by have := (HBs.out k hm).2; have := (World.ownsRow.lt HG7.out k hk).1; omega
  obtain ⟨K, hK⟩ : ∃ K, 1 + objSteps o = K := ⟨_, rfl⟩
  rw [hK]
  have zK : (0 : Int) ≤ (K : Int) := by omega
  have z48 : Hid (w4.heap.size ≤ w8.heap.size) := Nat.le_trans (Nat.le_of_lt z47.out) g8.size
  clear hK c cx g8 F7 H8 HB7 HW7 HG7 HO7 HBX7
  have c := HB8.out.cell
  go_wp2_with fail
  refine (l_eqStringS_same _ _ _ T HG8.out.reads HW8.out.reads).mono ?_
  rintro e w9 ⟨rfl, g9⟩
  have F9 := Lib.hid (F8.out.call g9)
  have HB9 := Lib.hid (HB8.out.call g9)
  have HW9 := Lib.hid (ownS_callD HW8.out g9)
  have HG9 := Lib.hid (ownS_callD HG8.out g9)
  have z9 : w4.heap.size ≤ w9.heap.size := Nat.le_trans z48.out g9.size
  clear c g9 F8 H9 HB8 HW8 HG8
  have c := HB9.out.cell
  go_wp2_with fail
  refine (markStringS_any w9 w4.heap.size G T HG9.out z9 1 (by decide) (by have := HTl.out; omega)).mono ?_
  rintro e w10 ⟨rfl, o10, g10⟩
  have hgb : ∀ k, G.ownBlock = some k → w4.heap.size ≤ k := fun k hk => (World.ownsRow.lt HG9.out k hk).1
  have F10 := Lib.hid (F9.out.grown g10 fun k hk => by have := hgb k hk; have := z34.out; have := zB.out; omega)
  have HB10 : Hid (Blk w10 w.heap.size #[.slice xa o.secs.length xc, .slice ya o.syms.length yc] 40) := HB9.out.grown g10 fun e => by have := hgb _ e.symm; have := z34.out; have := zB.out; omega
  have HW10 : Hid (OwnS w10 w2.heap.size W T) := owns_other HW9.out (Other.grown (bs := G.ownBlock.toList) g10 fun k hk => by simpa using hk) fun k hk hm => by
    have := hgb k (by simpa using hm); have := HWb.out k hk; have := z34.out; omega
  have HG10 := Lib.hid o10
  obtain ⟨M, hM⟩ : ∃ M : Int, ((1 : Nat) : Int) + (T.length : Int) = M := ⟨_, rfl⟩
  have zM : 0 ≤ M := by omega
  have HM := Lib.hid hM
  rw [hM]
  clear hM c o10 g10 hgb F9 HB9 HW9 HG9
  have c := HB10.out.cell
  go_wp2_with fail
  have q1 := heldStringS_any w10 G 1 T.length HG10.out.reads (by decide) (by have := HTl.out; omega)
  rw [HM.out] at q1
  refine q1.mono ?_
  clear q1
  rintro e w11 ⟨rfl, g11⟩
  have F11 := Lib.hid (F10.out.call g11)
  have HB11 := Lib.hid (HB10.out.call g11)
  have HW11 := Lib.hid (ownS_callD HW10.out g11)
  have HG11 := Lib.hid (ownS_callD HG10.out g11)
  have eM : (M != M) = false := by simp
  clear c g11 F10 HB10 HW10 HG10
  have c := HB11.out.cell
  go_wp2_with fail
  refine (toObject_any _ _ o (HH.out.below (Nat.le_refl _) F11.out.below) HW.out).mono ?_
  rintro e w12 ⟨r12, rfl, o12, g12⟩
  have F12 := Lib.hid (F11.out.call g12)
  have HW12 := Lib.hid (ownS_callD HW11.out g12)
  have HG12 := Lib.hid (ownS_callD HG11.out g12)
  have R12 := o12.reads
  clear c o12 g12 F11 HB11 HW11 HG11
  go_wp2_with fail
  refine (i_DumpObject _ _ o R12 HN.out (HTB.out _ F12.out.below)).mono ?_
  unfold RetL
  rw [HT.out]
  rintro e w13 ⟨G2, rfl, oG2, g13⟩
  have F13 := Lib.hid (F12.out.call g13)
  have HW13 := Lib.hid (ownS_callD HW12.out g13)
  have HG13 := Lib.hid (ownS_callD HG12.out g13)
  have HR13 := Lib.hid oG2.reads
  clear oG2 g13 F12 HW12 HG12 R12
  go_wp2_with fail
  refine (l_eqStringS_same _ _ _ T HR13.out HW13.out.reads).mono ?_
  rintro e w14 ⟨rfl, g14⟩
  have F14 := Lib.hid (F13.out.call g14)
  have HG14 := Lib.hid (ownS_callD HG13.out g14)
  clear g14 F13 HW13 HG13 HR13
  go_wp2_with fail
  have q2 := heldStringS_any w14 G 1 T.length HG14.out.reads (by decide) (by have := HTl.out; omega)
  rw [HM.out] at q2
  refine q2.mono ?_
  clear q2
  rintro e w15 ⟨rfl, g15⟩
  have F15 := Lib.hid (F14.out.call g15)
  clear g15 F14 HG14
  go_wp2_with fail
  go_ret
  exact ⟨rfl, F15.out.below⟩
/-! The frame: a row that lists tables, and its card. -/
theorem gPow : Tryd.prog.globalNamed "internal/strconv.uint64pow10" = some 0 := by kernel_rfl
theorem gPowType : (Tryd.prog.globals[0]?).map (·.type) = some 140 := by kernel_rfl
theorem cellsA : Tryd.prog.cellsOf 140 = 20 := by kernel_rfl
theorem cellsE : Tryd.prog.cellsOf 125 = 1 := by kernel_rfl
theorem tab_laid {W : World} (h : laidMetH Tryd.prog Rows.fnExactDumpObjectRow.laid W) : Tab W := by
  have h1 := laidMetH.filter (fun x => x.1 == "internal/strconv.uint64pow10") h
  have e : Rows.fnExactDumpObjectRow.laid.filter (fun x => x.1 == "internal/strconv.uint64pow10") = [("internal/strconv.uint64pow10", Lib.tabData .u64 Lib.pow10Tab)] := by kernel_rfl
  rw [e] at h1
  exact Lib.tabIs_of_head (rest := []) gPow gPowType Tryd.underlying140 Tryd.underlying125 cellsE cellsA h1
def tab32 : List Int := [0, 1, 28, 2, 29, 14, 24, 3, 30, 22, 20, 15, 25, 17, 4, 8, 31, 27, 13, 23, 21, 19, 16, 7, 26, 12, 18, 6, 11, 5, 10, 9]
def tab64 : List Int := [0, 1, 56, 2, 57, 49, 28, 3, 61, 58, 42, 50, 38, 29, 17, 4, 62, 47, 59, 36, 45, 43, 51, 22, 53, 39, 33, 30, 24, 18, 12, 5, 63, 55, 48, 27, 60, 41, 37, 16, 46, 35, 44, 21, 52, 32, 23, 11, 54, 26, 40, 15, 34, 20, 31, 10, 25, 14, 19, 9, 13, 8, 7, 6]
noncomputable def laidHeap (h : Array Obj) : Array Obj :=
  ((h.modify 0 fun
    | .cells _ t frozen => .cells (Lib.pow10Tab.map fun z => Value.int .u64 z).toArray t frozen
    | o => o).modify 6 fun
    | .cells _ t frozen => .cells (tab32.map fun z => Value.int .u8 z).toArray t frozen
    | o => o).modify 7 fun
    | .cells _ t frozen => .cells (tab64.map fun z => Value.int .u8 z).toArray t frozen
    | o => o
/-- A world for the witness: the settled one, with the tables as their initialisers lay them. -/
noncomputable def laidWorld (os : Os) (i : Input) : World := { World.holding Tryd.prog os i with heap := laidHeap (World.holding Tryd.prog os i).heap }
theorem laid_met (os : Os) : laidMet Tryd.prog Rows.fnExactDumpObjectRow.laid ((laidWorld os ⟨#[], #[], []⟩).forCall (fun _ _ => 0) ⟨#[], #[.agg #[.slice none 0 0, .slice none 0 0]], []⟩).memory :=
  laidMet_of_run' 8 (by kernel_rfl) (by kernel_rfl)
theorem reads_wit (os : Os) {H : Type} (enc : TypeId × Value → H) : ∃ places, DataW.whole enc Tryd.prog ((laidWorld os ⟨#[], #[], []⟩).forCall (fun _ _ => 0) ⟨#[], #[.agg #[.slice none 0 0, .slice none 0 0]], []⟩).memory Tryd.f4.params.toList Rows.fnExactDumpObjectSpec.vars false #[.agg #[.slice none 0 0, .slice none 0 0]].toList 8 = some ([.agg [.nil, .nil]], [], places) :=
  ⟨[], by kernel_rfl⟩
theorem lifted_FnExactDumpObject (os : Os) (started : os.Started) (H : Type) (enc : TypeId × Value → H) (F : Stop.Interp) :
    ReturnsInHanded {} Tryd.checked os 4 .any ((OpenSpec.ofChange Rows.fnExactDumpObjectSpec).preRow enc Tryd.prog Tryd.f4 Rows.fnExactDumpObjectRow.domain false Rows.fnExactDumpObjectRow.laid) (((OpenSpec.ofChange Rows.fnExactDumpObjectSpec).at F).post enc Tryd.prog Tryd.f4 false true false false) := by
  obtain ⟨x, hx⟩ := reads_wit os enc
  refine returnsInHanded_of_row (C := Tryd.checked) (s := OpenSpec.ofChange Rows.fnExactDumpObjectSpec) own_knob started (by kernel_rfl) Tryd.func4
    (witness_row_at (enc := enc) (C := Tryd.checked) false (laidWorld os ⟨#[], #[], []⟩) #[.agg #[.slice none 0 0, .slice none 0 0]] rfl (by kernel_rfl) (by kernel_rfl) (by kernel_rfl)
      (OpenSpec.preRow_of_cond 8 hx (by kernel_rfl) (fun k hk => by cases hk) (by kernel_rfl) (laid_met os))) ?_
  intro W base args ds gs before hval0 hW _ _ _ hL _ _
  have hval : ∀ (j : Nat) t v, Tryd.f4.params[j]? = some t → args[j]? = some v → Value.okWide Tryd.prog W .any base t v := hval0
  have hW' := hW
  obtain ⟨p, q, hA0, hV, rfl, hfz, hnd⟩ := hW
  have hA : DataW.TrodAll enc Tryd.prog W 0 (fun _ => true) true Tryd.f4.params.toList args.toList ds p := hA0
  rw [Tryd.params4] at hA hval
  obtain ⟨v0, vs0, d0, ds0, p0, q0, hargs, rfl, rfl, h0, r0⟩ := trodAll_cons hA
  obtain ⟨rfl, rfl, rfl⟩ := trodAll_nil r0
  obtain rfl : args = #[v0] := by cases args; simp_all
  obtain ⟨rfl, rfl⟩ := trodVars_none hV
  clear hA0 hval0
  have k0 := h0
  have t0 : ∀ x ∈ p0, x.block < W.heap.size := fun x hx => by simpa using hW'.lt x (by simp [hx])
  obtain ⟨x0, o0⟩ := open_objectAt (hval 0 40 v0 rfl rfl) h0
  refine (walk_FnExactDumpObject W v0 x0 o0 (tab_laid hL)).mono fun e W' ⟨he, hg⟩ => ?_
  subst he
  exact ⟨_, rfl, _, _, _, _, _, _, hW', (trodAll_cons_mk (shut_bool Tryd.underlying4 _) trodAll_mk0), (trodAll_cons_mk (Below.trod laid_out (by kernel_rfl) (of_decide_eq_true (by kernel_rfl)) k0 hg t0) trodAll_mk0), rfl, hg.frame _, fun h => by cases h⟩
set_option maxHeartbeats 2000000 in
theorem facts_FnExactDumpObject : joinedFacts Tryd.prog 4 Tryd.f4 (OpenSpec.ofChange Rows.fnExactDumpObjectSpec).bare Rows.fnExactDumpObjectRow = true := by
  unfold joinedFacts
  simp only [Bool.and_eq_true]
  repeat' apply And.intro
  all_goals first
    | with_reducible exact laid_out
    | with_reducible exact may_enter
    | (with_reducible rw [lifts_final]; as_aux_lemma => kernel_rfl)
    | (with_reducible rw [make_cut]; as_aux_lemma => kernel_rfl)
    | as_aux_lemma => kernel_rfl
theorem inst_FnExactDumpObject : Tryd.f4.isInstance Tryd.prog Rows.fnExactDumpObjectRow.origin Rows.fnExactDumpObjectRow.targs := of_decide_eq_true (by kernel_rfl)
theorem wrap_FnExactDumpObject : Tryd.f4.isWrapper Tryd.prog Rows.fnExactDumpObjectRow.wrapper Rows.fnExactDumpObjectRow.mainSum := by
  unfold Func.isWrapper
  first | (rw [if_pos (by decide +kernel)]; kernel_rfl) | (rw [if_neg (by decide +kernel)]; exact ⟨rfl, rfl⟩)
theorem named_FnExactDumpObject : Tryd.prog.funcNamed Rows.fnExactDumpObjectRow.func = some 4 := by kernel_rfl
theorem said_FnExactDumpObject : Rows.FnExactDumpObjectSaid :=
  OpenClaim.holds_of_cond 4 Tryd.f4 rfl rfl rfl rfl rfl rfl rfl ⟨rfl, rfl, rfl, rfl, rfl⟩ rfl rfl rfl rfl rfl named_FnExactDumpObject Tryd.func4 facts_FnExactDumpObject inst_FnExactDumpObject wrap_FnExactDumpObject
    (fun os started H enc _ F => by rw [OpenClaim.pre_eq_preRow]; exact lifted_FnExactDumpObject os started H enc F)
theorem plain_FnExactDumpObject (f : FuncId) (fn : Func) (hf : Tryd.pinned.checked.prog.funcNamed Rows.fnExactDumpObjectRow.func = some f) (hfn : Tryd.pinned.checked.prog.funcs[f]? = some fn) :
    true = Tryd.pinned.checked.prog.looks [] ∧ ∀ (j : Nat) t, fn.params[j]? = some t → Tryd.pinned.checked.prog.wantsStandIn t = false := by
  obtain rfl : f = 4 := Option.some.inj (named_FnExactDumpObject.symm.trans hf) |>.symm
  obtain rfl : fn = Tryd.f4 := (Option.some.inj (Tryd.func4.symm.trans hfn)).symm
  refine ⟨by kernel_rfl, fun j t ht => ?_⟩
  rw [Tryd.params4] at ht
  obtain rfl : t = 40 := by simpa using Array.mem_of_getElem? ht
  exact (show Tryd.prog.wantsStandIn 40 = false by kernel_rfl)
/-- The statement. -/
theorem holds_FnExactDumpObject : Rows.FnExactDumpObjectCardSaid :=
  Claim7.holds_tied_plain_at .later [] _ _ _ _ said_FnExactDumpObject (fun _ h => by cases h) (by kernel_rfl) (fun _ h => by cases h) fnExactDumpObject_row_tie rfl ⟨rfl, rfl⟩ (by kernel_rfl) rfl plain_FnExactDumpObject (by kernel_rfl)
#print axioms holds_FnExactDumpObject
end Go.Proofs.YtecpdhjangojiaaDoor
