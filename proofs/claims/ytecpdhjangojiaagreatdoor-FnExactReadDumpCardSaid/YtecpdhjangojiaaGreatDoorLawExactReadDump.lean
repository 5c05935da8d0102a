/- The program's ReadDump returns what the reference's returns, for all arguments: the card. Its row lists five tables and two sentinels of Go's library with what they hold. -/
import Derived.Test.YtecpdhjangojiaaGreatDoorBase
import Derived.Test.YtecpdhjangojiaaGreatDoorCards
import Derived.Test.YtecpdhjangojiaaGreatDoorTie
import Derived.Test.YtecpdhjangojiaaGreatDoorLineR
import Derived.Test.YtecpdhjangojiaaGreatDoorMarkS
import Derived.Test.YtecpdhjangojiaaGreatDoorMarkO
import Derived.Test.YtecpdhjangojiaaGreatDoorHeld
import Derived.Test.YtecpdhjangojiaaGreatDoorOpen
import Derived.Deep.DeepHandedRow
import Derived.Lib.LaidTab
import Derived.LaidSub
import Derived.LaidLaws
import Derived.MakeChecks
import Derived.Stop.LaidErr
import Derived.RowKitTokens
namespace Go.Proofs.YtecpdhjangojiaaGreatDoor
open Go.ChangeShapes Go.WideShapes Go.ChangeAt Go.RowKit Go.Joins
set_option linter.unusedSimpArgs false
set_option linter.unusedVariables false
set_option maxRecDepth 100000
theorem owns_someE {w : World} {base : Nat} {v : Value} {l : List ByteArray} (h : OwnS w base v l) (hn : v ≠ .slice none 0 0) : ∃ g c, v = .slice (some ⟨g, 0, none⟩) l.length c ∧ base ≤ g ∧ g < w.heap.size := by
  rcases h.2 with ⟨hv, _⟩ | ⟨g, c, cur, hv, hb, hh, _⟩
  · exact absurd hv hn
  · exact ⟨g, c, hv, hb, (Array.getElem?_eq_some_iff.1 hh).1⟩
theorem strsCost_mem : ∀ {l : List ByteArray} {s : ByteArray}, s ∈ l → (s.size : Int) ≤ strsCost l
  | [], s, h => by cases h
  | x :: r, s, h => by
    have h0 := strsCost_nonneg r
    unfold strsCost
    rcases List.mem_cons.1 h with rfl | h
    · omega
    · have := strsCost_mem h; omega
theorem secSteps_all {m : Nat} : ∀ l : List SecD, (∀ s ∈ l, secStep s ≤ m) → secSteps l ≤ m * l.length
  | [], _ => Nat.le_refl _
  | s :: r, h => by
    have h1 := h s (List.mem_cons_self ..)
    have h2 := secSteps_all r fun x hx => h x (List.mem_cons_of_mem _ hx)
    rw [List.length_cons, Nat.mul_succ]
    unfold secSteps
    omega
theorem readD_steps (l : List (List UInt8)) : 1 + objSteps ((readD lineI l).getD ⟨[], []⟩) ≤ 268435456 := by
  cases h : readD lineI l with
  | none => decide
  | some o =>
    have hb := ((readD_iff lineI_reads l o).1 h).1
    have hf := objB_few8 hb
    have h1 : secSteps o.secs ≤ 1000 * o.secs.length := secSteps_all _ fun s hs => by
      have h3 := (objB_sec hb hs).bytes
      have h4 := (objB_sec hb hs).fixl
      unfold secStep
      omega
    simp only [Option.getD_some]
    unfold objSteps
    omega
set_option maxHeartbeats 8000000 in
theorem walk_FnExactReadDump (w : World) (v : Value) (L : List ByteArray) (o : StrsAt w v L ∧ ∀ s ∈ L, s.size ≤ maxLen) (he : Env w) :
    Calls Tryz.prog 4 #[v] w fun e w' => e = .returned (.bool true) ∧ Below w.heap.size w w' := by
  obtain ⟨h, hs⟩ := o
  obtain ⟨a, cap, rfl, -⟩ := h.form
  have H1 := Lib.hid h
  have HS := Lib.hid hs
  have HE : Hid (∀ u, Below w.heap.size w u → Env u) := fun u hu => he.call hu
  clear h hs he
  have hc0 := strsCost_nonneg L
  by_cases hl : (L.length : Int) + strsCost L ≤ 1048576
  case neg =>
    have E : szV 1048576 ((L.length : Int) + strsCost L) = -1 := by unfold szV; rw [if_neg hl]
    clear hl
    go_enter Tryz.func4, Tryz.ntmps4
    go_wp2_with fail
    refine (szStringS_any w _ L H1.out HS.out 1048576 (by decide) (by decide)).mono ?_
    rw [E]
    rintro e w1 ⟨rfl, h1⟩
    have HF := Lib.hid ((From.start w).call h1)
    clear h1 E
    go_wp2_with fail
    go_ret
    exact ⟨rfl, HF.out.below⟩
  have E : szV 1048576 ((L.length : Int) + strsCost L) = 1048576 - ((L.length : Int) + strsCost L) := by unfold szV; rw [if_pos hl]
  have hLl : L.length ≤ 1048576 := by omega
  have HM : Hid (∀ s ∈ L, s.size ≤ 1073741824) := fun s hs => by have := strsCost_mem hs; omega
  obtain ⟨left, hleft⟩ : ∃ left, 1048576 - ((L.length : Int) + strsCost L) = left := ⟨_, rfl⟩
  have hleft0 : 0 ≤ left := by omega
  rw [hleft] at E
  clear hleft hl hc0
  have htst := readD_steps (L.map bytesS)
  obtain ⟨T, hT⟩ : ∃ T : ObjD, (readD lineI (L.map bytesS)).getD ⟨[], []⟩ = T := ⟨_, rfl⟩
  rw [hT] at htst
  have HT := Lib.hid hT
  have HTS := Lib.hid htst
  obtain ⟨TB, hTB⟩ : ∃ TB, (readD lineI (L.map bytesS)).isSome = TB := ⟨_, rfl⟩
  have HTB := Lib.hid hTB
  have eB2 : (TB != TB) = false := by cases TB <;> rfl
  clear hT hTB htst
  go_enter Tryz.func4, Tryz.ntmps4
  go_wp2_with fail
  refine (szStringS_any w _ L H1.out HS.out 1048576 (by decide) (by decide)).mono ?_
  rw [E]
  rintro e w0 ⟨rfl, gg⟩
  have F := Lib.hid ((From.start w).call gg)
  clear gg E
  go_wp2_with fail
  refine (toStringS_any _ _ L (H1.out.below (Nat.le_refl _) F.out.below) (by omega)).mono ?_
  rintro e w1 ⟨r1, rfl, o1, hnz, gg⟩
  have F := Lib.hid (F.out.call gg)
  obtain ⟨g1, c1, rfl, -, -⟩ := owns_someE o1 hnz
  have R := Lib.hid o1.reads
  clear gg o1 hnz
  go_wp2_with fail
  refine (s_ReadDump _ _ L R.out HM.out (by omega)).mono ?_
  rw [readD_eq lineS_reads lineI_reads]
  rintro e w3 ⟨W, rfl, oW, gg⟩
  rw [HT.out] at oW
  rw [HTB.out]
  have F := Lib.hid (F.out.call gg)
  obtain ⟨bsW, oW⟩ := oW.blocks
  have HBW := Lib.hid oW.lt
  obtain ⟨wa, wc, wb, wd, rfl⟩ := oW.agg
  have OW := Lib.hid oW
  have y1 : Hid (w.heap.size ≤ w3.heap.size) := F.out.le
  clear gg oW R
  have gg := ((From.start w3).alloc (.cells #[.slice wa T.secs.length wc, .slice wb T.syms.length wd] 28)).below
  have F := Lib.hid (F.out.call gg)
  have OW := Lib.hid (OW.out.call gg)
  clear gg
  have B6 := Lib.hid (Blk.new w3 #[.slice wa T.secs.length wc, .slice wb T.syms.length wd] 28)
  have cB6 := B6.out.cell
  have zB6 := B6.out.lt
  go_wp2_with fail
  clear cB6 zB6
  refine (toStringS_any _ _ L (H1.out.below (Nat.le_refl _) F.out.below) (by omega)).mono ?_
  rintro e w4 ⟨r4, rfl, o4, hnz, gg⟩
  have F := Lib.hid (F.out.call gg)
  have OW := Lib.hid (OW.out.call gg)
  have B6 := Lib.hid (B6.out.call gg)
  obtain ⟨qg, qc, rfl, hqg, hqg'⟩ := owns_someE o4 hnz
  have HQb : Hid (w3.heap.size < qg ∧ qg < w4.heap.size) := ⟨by simp at hqg; omega, hqg'⟩
  have z4 : Hid (w3.heap.size < w4.heap.size) := B6.out.lt
  have OQ : Hid (OwnS w4 w3.heap.size (.slice (some ⟨qg, 0, none⟩) L.length qc) L) := owns_mono o4 (by simp)
  clear gg o4 hnz hqg hqg'
  have cB6 := B6.out.cell
  have zB6 := B6.out.lt
  go_wp2_with fail
  clear cB6 zB6
  refine (i_ReadDump _ _ L (OwnS.reads OQ.out) HM.out (by omega) (HE.out _ F.out.below)).mono ?_
  rintro e w5 ⟨G, rfl, oG, gg⟩
  rw [HT.out] at oG
  rw [HTB.out]
  have F := Lib.hid (F.out.call gg)
  have OW := Lib.hid (OW.out.call gg)
  have B6 := Lib.hid (B6.out.call gg)
  have OQ := Lib.hid (owns_call OQ.out gg)
  obtain ⟨bsG, oG⟩ := oG.blocks
  have HBG : Hid (∀ k ∈ bsG, w4.heap.size ≤ k ∧ k < w5.heap.size) := fun k hk => ⟨(oG.lt k hk).1, (oG.lt k hk).2⟩
  have z5 : Hid (w4.heap.size ≤ w5.heap.size) := gg.size
  obtain ⟨ga, gc, gb, gd, rfl⟩ := oG.agg
  have OG := Lib.hid oG
  clear gg oG
  have gg := ((From.start w5).alloc (.cells #[.slice ga T.secs.length gc, .slice gb T.syms.length gd] 28)).below
  have F := Lib.hid (F.out.call gg)
  have OW := Lib.hid (OW.out.call gg)
  have B6 := Lib.hid (B6.out.call gg)
  have OQ := Lib.hid (owns_call OQ.out gg)
  have OG := Lib.hid (OG.out.call gg)
  clear gg
  have B9 := Lib.hid (Blk.new w5 #[.slice ga T.secs.length gc, .slice gb T.syms.length gd] 28)
  have cB6 := B6.out.cell
  have zB6 := B6.out.lt
  have cB9 := B9.out.cell
  have zB9 := B9.out.lt
  go_wp2_with fail
  clear cB6 zB6 cB9 zB9
  refine (eqObject_same _ _ _ T OG.out.obj.reads OW.out.obj.reads).mono ?_
  rintro e w6 ⟨rfl, gg⟩
  have F := Lib.hid (F.out.call gg)
  have OW := Lib.hid (OW.out.call gg)
  have B6 := Lib.hid (B6.out.call gg)
  have OQ := Lib.hid (owns_call OQ.out gg)
  have OG := Lib.hid (OG.out.call gg)
  have B9 := Lib.hid (B9.out.call gg)
  clear gg
  have cB6 := B6.out.cell
  have zB6 := B6.out.lt
  have cB9 := B9.out.cell
  have zB9 := B9.out.lt
  go_wp2_with fail
  clear cB6 zB6 cB9 zB9
  refine (toStringS_any _ _ L (H1.out.below (Nat.le_refl _) F.out.below) (by omega)).mono ?_
  rintro e w7 ⟨r7, rfl, o7, hnz, gg⟩
  have F := Lib.hid (F.out.call gg)
  have OW := Lib.hid (OW.out.call gg)
  have B6 := Lib.hid (B6.out.call gg)
  have OQ := Lib.hid (owns_call OQ.out gg)
  have OG := Lib.hid (OG.out.call gg)
  have B9 := Lib.hid (B9.out.call gg)
  obtain ⟨g7, c7, rfl, -, -⟩ := owns_someE o7 hnz
  have Q7 := Lib.hid o7.reads
  clear gg o7 hnz
  have cB6 := B6.out.cell
  have zB6 := B6.out.lt
  have cB9 := B9.out.cell
  have zB9 := B9.out.lt
  go_wp2_with fail
  clear cB6 zB6 cB9 zB9
  refine (l_eqStringS_same _ _ _ L (OwnS.reads OQ.out) Q7.out).mono ?_
  rintro e w8 ⟨rfl, gg⟩
  have F := Lib.hid (F.out.call gg)
  have OW := Lib.hid (OW.out.call gg)
  have B6 := Lib.hid (B6.out.call gg)
  have OQ := Lib.hid (owns_call OQ.out gg)
  have OG := Lib.hid (OG.out.call gg)
  have B9 := Lib.hid (B9.out.call gg)
  clear gg Q7
  have z8 : Hid (w5.heap.size < w8.heap.size) := B9.out.lt
  have y2 := z4.out
  have y3 := z5.out
  have y4 := z8.out
  have cB6 := B6.out.cell
  have zB6 := B6.out.lt
  have cB9 := B9.out.cell
  have zB9 := B9.out.lt
  go_wp2_with fail
  clear cB6 zB6 cB9 zB9
  refine (markStringS_any _ w3.heap.size _ L OQ.out (by omega) 1 (by decide) (by omega)).mono ?_
  rintro e w9 ⟨rfl, -, gg⟩
  have hqb : ∀ k ∈ [qg], w3.heap.size < k ∧ k < w4.heap.size := fun k hk => by obtain rfl := List.mem_singleton.1 hk; exact HQb.out
  have go := Other.grown (bs := [qg]) gg (fun k hk => by simpa [Value.ownBlock, eq_comm] using hk)
  clear OQ
  have F := Lib.hid (F.out.other go (fun k hk => by have := (hqb k hk).1; have := y1.out; omega))
  have OW := Lib.hid (OW.out.other go (fun k hk hm => by have := (hqb k hm).1; have := (HBW.out k hk).2; omega))
  have B6 := Lib.hid (B6.out.otherB go (fun hm => by have := (hqb _ hm).1; omega))
  have OG := Lib.hid (OG.out.other go (fun k hk hm => by have := (hqb k hm).2; have := (HBG.out k hk).1; omega))
  have B9 := Lib.hid (B9.out.otherB go (fun hm => by have := (hqb _ hm).2; omega))
  have z9 : Hid (w5.heap.size < w9.heap.size) := B9.out.lt
  obtain ⟨K2, hK2⟩ : ∃ K2 : Int, ((1 : Nat) : Int) + (L.length : Int) = K2 := ⟨_, rfl⟩
  have zK2 : 0 ≤ K2 := by omega
  rw [hK2]
  clear hK2 gg go hqb y4
  have cB6 := B6.out.cell
  have zB6 := B6.out.lt
  have cB9 := B9.out.cell
  have zB9 := B9.out.lt
  go_wp2_with fail
  clear cB6 zB6 cB9 zB9
  refine (eqObject_same _ _ _ T OG.out.obj.reads OW.out.obj.reads).mono ?_
  rintro e wc1 ⟨rfl, gg⟩
  have F := Lib.hid (F.out.call gg)
  have OW := Lib.hid (OW.out.call gg)
  have B6 := Lib.hid (B6.out.call gg)
  have OG := Lib.hid (OG.out.call gg)
  have B9 := Lib.hid (B9.out.call gg)
  clear gg
  have cB6 := B6.out.cell
  have zB6 := B6.out.lt
  have cB9 := B9.out.cell
  have zB9 := B9.out.lt
  go_wp2_with fail
  clear cB6 zB6 cB9 zB9
  refine (markObject_any _ _ bsG _ T OG.out 1 HTS.out).mono ?_
  rintro e w10 ⟨rfl, oG, gg⟩
  clear OG
  have F := Lib.hid (F.out.other gg (fun k hk => by have := (HBG.out k hk).1; have := y1.out; omega))
  have OW := Lib.hid (OW.out.other gg (fun k hk hm => by have := (HBG.out k hm).1; have := (HBW.out k hk).2; omega))
  have B6 := Lib.hid (B6.out.otherB gg (fun hm => by have := (HBG.out _ hm).1; omega))
  have B9 := Lib.hid (B9.out.otherB gg (fun hm => by have := (HBG.out _ hm).2; omega))
  have OG := Lib.hid oG
  obtain ⟨M0, hM0⟩ : ∃ M0, 1 + objSteps T = M0 := ⟨_, rfl⟩
  have HMM := Lib.hid hM0
  have zM : (0 : Int) ≤ (M0 : Int) := by omega
  rw [hM0]
  clear hM0 oG gg
  have cB6 := B6.out.cell
  have zB6 := B6.out.lt
  have cB9 := B9.out.cell
  have zB9 := B9.out.lt
  go_wp2_with fail
  clear cB6 zB6 cB9 zB9
  have q1 := heldObject_any _ _ T 1 OG.out.obj.reads HTS.out
  rw [HMM.out] at q1
  refine q1.mono ?_
  clear q1
  rintro e w11 ⟨rfl, gg⟩
  have F := Lib.hid (F.out.call gg)
  have OW := Lib.hid (OW.out.call gg)
  have B6 := Lib.hid (B6.out.call gg)
  have B9 := Lib.hid (B9.out.call gg)
  have OG := Lib.hid (OG.out.call gg)
  clear gg
  have eM : (((M0 : Nat) : Int) != ((M0 : Nat) : Int)) = false := by simp
  have cB6 := B6.out.cell
  have zB6 := B6.out.lt
  have cB9 := B9.out.cell
  have zB9 := B9.out.lt
  go_wp2_with fail
  clear cB6 zB6 cB9 zB9
  refine (toStringS_any _ _ L (H1.out.below (Nat.le_refl _) F.out.below) (by omega)).mono ?_
  rintro e w12 ⟨r12, rfl, o12, hnz, gg⟩
  have F := Lib.hid (F.out.call gg)
  have OW := Lib.hid (OW.out.call gg)
  have B6 := Lib.hid (B6.out.call gg)
  have B9 := Lib.hid (B9.out.call gg)
  have OG := Lib.hid (OG.out.call gg)
  obtain ⟨g12, c12, rfl, -, -⟩ := owns_someE o12 hnz
  have R := Lib.hid o12.reads
  clear gg o12 hnz
  have cB6 := B6.out.cell
  have zB6 := B6.out.lt
  have cB9 := B9.out.cell
  have zB9 := B9.out.lt
  go_wp2_with fail
  clear cB6 zB6 cB9 zB9
  refine (i_ReadDump _ _ L R.out HM.out (by omega) (HE.out _ F.out.below)).mono ?_
  rintro e w13 ⟨G2, rfl, oG, gg⟩
  rw [HT.out] at oG
  rw [HTB.out]
  have F := Lib.hid (F.out.call gg)
  have OW := Lib.hid (OW.out.call gg)
  have B6 := Lib.hid (B6.out.call gg)
  have B9 := Lib.hid (B9.out.call gg)
  have OG := Lib.hid (OG.out.call gg)
  obtain ⟨bsH, oG⟩ := oG.blocks
  obtain ⟨ha, hc, hb, hd, rfl⟩ := oG.agg
  have OH := Lib.hid oG
  clear gg oG R
  have gg := ((From.start w13).alloc (.cells #[.slice ha T.secs.length hc, .slice hb T.syms.length hd] 28)).below
  have F := Lib.hid (F.out.call gg)
  have OW := Lib.hid (OW.out.call gg)
  have B6 := Lib.hid (B6.out.call gg)
  have B9 := Lib.hid (B9.out.call gg)
  have OG := Lib.hid (OG.out.call gg)
  have OH := Lib.hid (OH.out.call gg)
  clear gg
  have B13 := Lib.hid (Blk.new w13 #[.slice ha T.secs.length hc, .slice hb T.syms.length hd] 28)
  have cB6 := B6.out.cell
  have zB6 := B6.out.lt
  have cB9 := B9.out.cell
  have zB9 := B9.out.lt
  have cB13 := B13.out.cell
  have zB13 := B13.out.lt
  go_wp2_with fail
  clear cB6 zB6 cB9 zB9 cB13 zB13
  refine (eqObject_same _ _ _ T OH.out.obj.reads OW.out.obj.reads).mono ?_
  rintro e w14 ⟨rfl, gg⟩
  have F := Lib.hid (F.out.call gg)
  have OW := Lib.hid (OW.out.call gg)
  have B6 := Lib.hid (B6.out.call gg)
  have B9 := Lib.hid (B9.out.call gg)
  have OG := Lib.hid (OG.out.call gg)
  have OH := Lib.hid (OH.out.call gg)
  have B13 := Lib.hid (B13.out.call gg)
  clear gg
  have cB6 := B6.out.cell
  have zB6 := B6.out.lt
  have cB9 := B9.out.cell
  have zB9 := B9.out.lt
  have cB13 := B13.out.cell
  have zB13 := B13.out.lt
  go_wp2_with fail
  clear cB6 zB6 cB9 zB9 cB13 zB13
  have q2 := heldObject_any _ _ T 1 OG.out.obj.reads HTS.out
  rw [HMM.out] at q2
  refine q2.mono ?_
  clear q2
  rintro e w15 ⟨rfl, gg⟩
  have F := Lib.hid (F.out.call gg)
  have OW := Lib.hid (OW.out.call gg)
  have B6 := Lib.hid (B6.out.call gg)
  have B9 := Lib.hid (B9.out.call gg)
  have OG := Lib.hid (OG.out.call gg)
  have OH := Lib.hid (OH.out.call gg)
  have B13 := Lib.hid (B13.out.call gg)
  clear gg
  have cB6 := B6.out.cell
  have zB6 := B6.out.lt
  have cB9 := B9.out.cell
  have zB9 := B9.out.lt
  have cB13 := B13.out.cell
  have zB13 := B13.out.lt
  go_wp2_with fail
  clear cB6 zB6 cB9 zB9 cB13 zB13
  go_ret
  exact ⟨rfl, F.out.below⟩
/-! The frame: a row that lists tables, and its card. -/
theorem gPow : Tryz.prog.globalNamed "internal/strconv.uint64pow10" = some 3 := by kernel_rfl
theorem gPowType : (Tryz.prog.globals[3]?).map (·.type) = some 125 := by kernel_rfl
theorem cellsA : Tryz.prog.cellsOf 125 = 20 := by kernel_rfl
theorem cellsE : Tryz.prog.cellsOf 113 = 1 := by kernel_rfl
theorem gSyn : Tryz.prog.globalNamed "strconv.ErrSyntax" = some 1 := by kernel_rfl
theorem gSynType : (Tryz.prog.globals[1]?).map (·.type) = some 92 := by kernel_rfl
theorem gRng : Tryz.prog.globalNamed "strconv.ErrRange" = some 2 := by kernel_rfl
theorem gRngType : (Tryz.prog.globals[2]?).map (·.type) = some 92 := by kernel_rfl
theorem cellsS : Tryz.prog.cellsOf 9 = 1 := by kernel_rfl
theorem cellsEs : Tryz.prog.cellsOf 139 = 1 := by kernel_rfl
theorem starEs : "*" ++ "errors.errorString" = "*errors.errorString" := by decide
theorem rowEs (u : TypeId) (h : Tryz.prog.typeName? 3 u = some "*errors.errorString") : u = 137 :=
  typeName_ptr_named (nm := "errors.errorString") (by rw [starEs]; kernel_rfl) (by kernel_rfl) (by decide) u (by rw [starEs]; exact h)
theorem tab_laid {W : World} (h : laidMetH Tryz.prog Rows.fnExactReadDumpRow.laid W) : Tab W := by
  have h1 := laidMetH.filter (fun x => x.1 == "internal/strconv.uint64pow10") h
  have e : Rows.fnExactReadDumpRow.laid.filter (fun x => x.1 == "internal/strconv.uint64pow10") = [("internal/strconv.uint64pow10", Lib.tabData .u64 Lib.pow10Tab)] := by kernel_rfl
  rw [e] at h1
  exact Lib.tabIs_of_head (rest := []) gPow gPowType Tryz.underlying125 Tryz.underlying113 cellsE cellsA h1
theorem env_laid {W : World} (h : laidMetH Tryz.prog Rows.fnExactReadDumpRow.laid W) (hs : W.ShapedOpen Tryz.prog) : Env W := by
  refine ⟨tab_laid h, ?_, ?_, Tryz.laysM146.s1_3 W hs⟩
  · have h1 := laidMetH.filter (fun x => x.1 == "strconv.ErrSyntax") h
    have e : Rows.fnExactReadDumpRow.laid.filter (fun x => x.1 == "strconv.ErrSyntax") = [("strconv.ErrSyntax", .iface "*errors.errorString" (.ptr (.agg [.lit (.string [105, 110, 118, 97, 108, 105, 100, 32, 115, 121, 110, 116, 97, 120])])))] := by kernel_rfl
    rw [e, Go.MakeChecks.laidMetH_plain _ _ _ (by kernel_rfl)] at h1
    obtain ⟨a, s, hv, -, -, -⟩ := laid_sentinel h1 gSyn gSynType Tryz.underlying92 rowEs Tryz.underlying137 Tryz.underlying139 rfl rfl Tryz.underlying9 cellsEs cellsS
    exact ⟨_, _, hv⟩
  · have h1 := laidMetH.filter (fun x => x.1 == "strconv.ErrRange") h
    have e : Rows.fnExactReadDumpRow.laid.filter (fun x => x.1 == "strconv.ErrRange") = [("strconv.ErrRange", .iface "*errors.errorString" (.ptr (.agg [.lit (.string [118, 97, 108, 117, 101, 32, 111, 117, 116, 32, 111, 102, 32, 114, 97, 110, 103, 101])])))] := by kernel_rfl
    rw [e, Go.MakeChecks.laidMetH_plain _ _ _ (by kernel_rfl)] at h1
    obtain ⟨a, s, hv, -, -, -⟩ := laid_sentinel h1 gRng gRngType Tryz.underlying92 rowEs Tryz.underlying137 Tryz.underlying139 rfl rfl Tryz.underlying9 cellsEs cellsS
    exact ⟨_, _, hv⟩
def tab32 : List Int := [0, 1, 28, 2, 29, 14, 24, 3, 30, 22, 20, 15, 25, 17, 4, 8, 31, 27, 13, 23, 21, 19, 16, 7, 26, 12, 18, 6, 11, 5, 10, 9]
def tab64 : List Int := [0, 1, 56, 2, 57, 49, 28, 3, 61, 58, 42, 50, 38, 29, 17, 4, 62, 47, 59, 36, 45, 43, 51, 22, 53, 39, 33, 30, 24, 18, 12, 5, 63, 55, 48, 27, 60, 41, 37, 16, 46, 35, 44, 21, 52, 32, 23, 11, 54, 26, 40, 15, 34, 20, 31, 10, 25, 14, 19, 9, 13, 8, 7, 6]
def tabAcc : List Int := [128, 191, 160, 191, 128, 159, 144, 191, 128, 143, 0, 0, 0, 0, 0, 0, 0, 0, 0, 0, 0, 0, 0, 0, 0, 0, 0, 0, 0, 0, 0, 0]
abbrev synS : ByteArray := { data := #[105, 110, 118, 97, 108, 105, 100, 32, 115, 121, 110, 116, 97, 120] }
abbrev rngS : ByteArray := { data := #[118, 97, 108, 117, 101, 32, 111, 117, 116, 32, 111, 102, 32, 114, 97, 110, 103, 101] }
noncomputable def low : Nat := (World.holding Tryz.prog default ⟨#[], #[], []⟩).heap.size
noncomputable def putAt (h : Array Obj) (g : Nat) (c : Array Value) : Array Obj := h.modify g fun
  | .cells _ t frozen => .cells c t frozen
  | o => o
noncomputable def laidHeap (h : Array Obj) : Array Obj :=
  putAt (putAt (putAt (putAt (putAt (putAt (putAt h 3 (Lib.pow10Tab.map fun z => Value.int .u64 z).toArray)
    6 (tab32.map fun z => Value.int .u8 z).toArray) 7 (tab64.map fun z => Value.int .u8 z).toArray)
    5 (tabAcc.map fun z => Value.int .u8 z).toArray) 4 (Go.Pinned.utf8FirstZ.map fun (z : Nat) => Value.int .u8 (z : Int)).toArray)
    1 #[.iface 137 (.pointer (some ⟨low, 0, none⟩))]) 2 #[.iface 137 (.pointer (some ⟨low + 1, 0, none⟩))]
/-- A world for the witness: the settled one, with the tables and the sentinels as their initialisers lay them. -/
noncomputable def laidWorld (os : Os) (i : Input) : World := { World.holding Tryz.prog os ⟨#[.cells #[.string synS] 139, .cells #[.string rngS] 139], #[], []⟩ with heap := laidHeap (World.holding Tryz.prog os ⟨#[.cells #[.string synS] 139, .cells #[.string rngS] 139], #[], []⟩).heap }
theorem laid_met (os : Os) : laidMet Tryz.prog Rows.fnExactReadDumpRow.laid ((laidWorld os ⟨#[], #[], []⟩).forCall (fun _ _ => 0) ⟨#[], #[.slice none 0 0], []⟩).memory :=
  laidMet_of_run' 8 (by kernel_rfl) (by kernel_rfl)
theorem reads_wit (os : Os) {H : Type} (enc : TypeId × Value → H) : ∃ places, DataW.whole enc Tryz.prog ((laidWorld os ⟨#[], #[], []⟩).forCall (fun _ _ => 0) ⟨#[], #[.slice none 0 0], []⟩).memory Tryz.f4.params.toList Rows.fnExactReadDumpSpec.vars false #[.slice none 0 0].toList 8 = some ([.nil], [], places) :=
  ⟨[], by kernel_rfl⟩
theorem lifted_FnExactReadDump (os : Os) (started : os.Started) (H : Type) (enc : TypeId × Value → H) (F : Stop.Interp) :
    ReturnsInHanded {} Tryz.checked os 4 .any ((OpenSpec.ofChange Rows.fnExactReadDumpSpec).preRow enc Tryz.prog Tryz.f4 Rows.fnExactReadDumpRow.domain false Rows.fnExactReadDumpRow.laid) (((OpenSpec.ofChange Rows.fnExactReadDumpSpec).at F).post enc Tryz.prog Tryz.f4 false true false false) := by
  obtain ⟨x, hx⟩ := reads_wit os enc
  refine returnsInHanded_of_row (C := Tryz.checked) (s := OpenSpec.ofChange Rows.fnExactReadDumpSpec) own_knob started (by kernel_rfl) Tryz.func4
    (witness_row_at (enc := enc) (C := Tryz.checked) false (laidWorld os ⟨#[], #[], []⟩) #[.slice none 0 0] rfl (by kernel_rfl) (by kernel_rfl) (by kernel_rfl)
      (OpenSpec.preRow_of_cond 8 hx (by kernel_rfl) (fun k hk => by cases hk) (by kernel_rfl) (laid_met os))) ?_
  intro W base args ds gs before hval0 hW _ _ _ hL hSh _
  have hval : ∀ (j : Nat) t v, Tryz.f4.params[j]? = some t → args[j]? = some v → Value.okWide Tryz.prog W .any base t v := hval0
  have hW' := hW
  obtain ⟨p, q, hA0, hV, rfl, hfz, hnd⟩ := hW
  have hA : DataW.TrodAll enc Tryz.prog W 0 (fun _ => true) true Tryz.f4.params.toList args.toList ds p := hA0
  rw [Tryz.params4] at hA hval
  obtain ⟨v0, vs0, d0, ds0, p0, q0, hargs, rfl, rfl, h0, r0⟩ := trodAll_cons hA
  obtain ⟨rfl, rfl, rfl⟩ := trodAll_nil r0
  obtain rfl : args = #[v0] := by cases args; simp_all
  obtain ⟨rfl, rfl⟩ := trodVars_none hV
  clear hA0 hval0
  have k0 := h0
  have t0 : ∀ x ∈ p0, x.block < W.heap.size := fun x hx => by simpa using hW'.lt x (by simp [hx])
  obtain ⟨x0, o0⟩ := open_stringsAt (hval 0 23 v0 rfl rfl) h0
  refine (walk_FnExactReadDump W v0 x0 o0 (env_laid hL hSh)).mono fun e W' ⟨he, hg⟩ => ?_
  subst he
  exact ⟨_, rfl, _, _, _, _, _, _, hW', (trodAll_cons_mk (shut_bool Tryz.underlying4 _) trodAll_mk0), (trodAll_cons_mk (Below.trod laid_out (by kernel_rfl) (of_decide_eq_true (by kernel_rfl)) k0 hg t0) trodAll_mk0), rfl, hg.frame _, fun h => by cases h⟩
set_option maxHeartbeats 2000000 in
theorem facts_FnExactReadDump : joinedFacts Tryz.prog 4 Tryz.f4 (OpenSpec.ofChange Rows.fnExactReadDumpSpec).bare Rows.fnExactReadDumpRow = true := by
  unfold joinedFacts
  simp only [Bool.and_eq_true]
  repeat' apply And.intro
  all_goals first
    | with_reducible exact laid_out
    | with_reducible exact may_enter
    | (with_reducible rw [lifts_final]; as_aux_lemma => kernel_rfl)
    | (with_reducible rw [make_cut]; as_aux_lemma => kernel_rfl)
    | as_aux_lemma => kernel_rfl
theorem inst_FnExactReadDump : Tryz.f4.isInstance Tryz.prog Rows.fnExactReadDumpRow.origin Rows.fnExactReadDumpRow.targs := of_decide_eq_true (by kernel_rfl)
theorem wrap_FnExactReadDump : Tryz.f4.isWrapper Tryz.prog Rows.fnExactReadDumpRow.wrapper Rows.fnExactReadDumpRow.mainSum := by
  unfold Func.isWrapper
  first | (rw [if_pos (by decide +kernel)]; kernel_rfl) | (rw [if_neg (by decide +kernel)]; exact ⟨rfl, rfl⟩)
theorem named_FnExactReadDump : Tryz.prog.funcNamed Rows.fnExactReadDumpRow.func = some 4 := by kernel_rfl
theorem said_FnExactReadDump : Rows.FnExactReadDumpSaid :=
  OpenClaim.holds_of_cond 4 Tryz.f4 rfl rfl rfl rfl rfl rfl rfl ⟨rfl, rfl, rfl, rfl, rfl⟩ rfl rfl rfl rfl rfl named_FnExactReadDump Tryz.func4 facts_FnExactReadDump inst_FnExactReadDump wrap_FnExactReadDump
    (fun os started H enc _ F => by rw [OpenClaim.pre_eq_preRow]; exact lifted_FnExactReadDump os started H enc F)
theorem plain_FnExactReadDump (f : FuncId) (fn : Func) (hf : Tryz.pinned.checked.prog.funcNamed Rows.fnExactReadDumpRow.func = some f) (hfn : Tryz.pinned.checked.prog.funcs[f]? = some fn) :
    true = Tryz.pinned.checked.prog.looks [] ∧ ∀ (j : Nat) t, fn.params[j]? = some t → Tryz.pinned.checked.prog.wantsStandIn t = false := by
  obtain rfl : f = 4 := Option.some.inj (named_FnExactReadDump.symm.trans hf) |>.symm
  obtain rfl : fn = Tryz.f4 := (Option.some.inj (Tryz.func4.symm.trans hfn)).symm
  refine ⟨by kernel_rfl, fun j t ht => ?_⟩
  rw [Tryz.params4] at ht
  obtain rfl : t = 23 := by simpa using Array.mem_of_getElem? ht
  exact (show Tryz.prog.wantsStandIn 23 = false by kernel_rfl)
/-- The statement. -/
theorem holds_FnExactReadDump : Rows.FnExactReadDumpCardSaid :=
  Claim7.holds_tied_plain_at .later [] _ _ _ _ said_FnExactReadDump (fun _ h => by cases h) (by kernel_rfl) (fun _ h => by cases h) fnExactReadDump_row_tie rfl ⟨rfl, rfl⟩ (by kernel_rfl) rfl plain_FnExactReadDump (by kernel_rfl)
#print axioms holds_FnExactReadDump
end Go.Proofs.YtecpdhjangojiaaGreatDoor
