/- Reached sections: the reference. -/
import Derived.Test.YthccjimckjecjaaIdx
import Derived.Test.YthccjimckjecjaaLen
import Derived.Test.YthccjimckjecjaaInv
import Derived.Test.YthccjimckjecjaaBools
namespace Go.Proofs.Ythccjimckjecjaa
open Go.ChangeShapes Go.WideShapes Go.ChangeAt Go.RowKit Go.Joins
set_option linter.unusedSimpArgs false
set_option linter.unusedVariables false
set_option maxRecDepth 100000
set_option maxHeartbeats 4000000 in
theorem s_ReachSections (w : World) (v v2 : Value) (o : ObjD) (L : List ByteArray) (h : ObjAt w v o) (hL : StrsAt w v2 L) (hs : (∀ s ∈ o.secs, s.name.size ≤ maxLen) ∧ ∀ s ∈ o.syms, s.name.size ≤ maxLen) :
    Calls Try.prog 42 #[v, v2] w fun e w' => ∃ r, e = .returned r ∧ OwnI w' w.heap.size r (reachI o L) ∧ Below w.heap.size w w' := by
  obtain ⟨i0, hi, hz0, hz1, hz2⟩ := info_parts info_bool
  obtain ⟨j0, hj0, hy0, hy1, hy2⟩ := info_parts info_int
  have HOB := Lib.hid h
  obtain ⟨vs, vy, rfl, h1, h2⟩ := h
  obtain ⟨sa, sc, rfl, hcap, hmax, hnone, hcell⟩ := h1.form
  obtain ⟨ya, yc, rfl, hcap2, hmax2, hnone2, hcell2⟩ := h2.form
  obtain ⟨za, zc, rfl, hcap3, hmax3, hnone3, hcell3⟩ := hL.form
  have HL := Lib.hid hL
  have HC := Lib.hid hcell
  have HD := Lib.hid hcell2
  have HE := Lib.hid hcell3
  clear h1 h2 hcell hcell2 hcell3 hnone hnone2 hnone3 hL
  unfold maxLen at hmax hmax2 hmax3
  obtain ⟨n1, hn1⟩ : ∃ n1, o.secs.length = n1 := ⟨_, rfl⟩
  obtain ⟨n2, hn2⟩ : ∃ n2, o.syms.length = n2 := ⟨_, rfl⟩
  obtain ⟨n3, hn3⟩ : ∃ n3, L.length = n3 := ⟨_, rfl⟩
  have HN1 := Lib.hid hn1
  have HN2 := Lib.hid hn2
  have HN3 := Lib.hid hn3
  rw [hn1] at hcap HOB ⊢
  rw [hn2] at hcap2 HOB ⊢
  rw [hn3] at hcap3 HL ⊢
  clear hn1 hn2 hn3
  have HN0 := Lib.hid hs
  clear hs
  have hlit : ∀ u : World, w.heap.size ≤ u.heap.size → OwnI (u.alloc (.cells #[] 3)) w.heap.size (.slice (some ⟨u.heap.size, 0, none⟩) 0 0) [] := fun u hu => by
    have := World.ownsRow_lit u #[] (e := 3) (size := 1) (base := w.heap.size) 0 hu (Nat.zero_le _) rfl
    simpa [OwnI, ivs] using this
  have HO0 := Lib.hid (hlit (w.alloc (.cells #[.slice sa n1 sc, .slice ya n2 yc] 26)) (by simp))
  have hz : (w.alloc (.cells #[.slice sa n1 sc, .slice ya n2 yc] 26)).heap.size = w.heap.size + 1 := by simp
  rw [hz] at HO0
  have HF0 := Lib.hid (((From.start w).alloc (.cells #[.slice sa n1 sc, .slice ya n2 yc] 26)).alloc (.cells #[] 3))
  have HB0 := Lib.hid ((Blk.new w #[.slice sa n1 sc, .slice ya n2 yc] 26).alloc (.cells #[] 3))
  clear hlit hz
  cases hq : objB o
  · have E : reachI o L = [] := by unfold reachI; rw [hq]; rfl
    rw [E]
    go_enter Try.func42, Try.ntmps42
    go_wp2_with fail
    refine (s_ObjectValid _ _ o (HOB.out.below (Nat.le_refl _) HF0.out.below) HN0.out).mono ?_
    rw [hq]
    rintro e w2 ⟨rfl, k2⟩
    have HF2 := Lib.hid (HF0.out.call k2)
    have HO2 : Hid (OwnI w2 w.heap.size (.slice (some ⟨w.heap.size + 1, 0, none⟩) 0 0) []) := owns_call HO0.out k2
    clear k2 hq
    go_wp2_with fail
    go_ret
    exact ⟨_, rfl, HO2.out, HF2.out.below⟩
  have HV := Lib.hid hq
  have hf1 := (objB_few hq).1
  have hf2 := (objB_few hq).2
  rw [HN1.out] at hf1
  rw [HN2.out] at hf2
  have EI : Hid (reachI o L = idxK (reachedL o L) n1) := by show _ = _; unfold reachI; rw [hq, if_pos rfl, HN1.out]
  go_enter Try.func42, Try.ntmps42
  go_wp2_with fail
  refine (s_ObjectValid _ _ o (HOB.out.below (Nat.le_refl _) HF0.out.below) HN0.out).mono ?_
  rw [hq]
  rintro e w2 ⟨rfl, k2⟩
  have HF2 := Lib.hid (HF0.out.call k2)
  have HB2 := Lib.hid (HB0.out.call k2)
  have HO2 : Hid (OwnI w2 w.heap.size (.slice (some ⟨w.heap.size + 1, 0, none⟩) 0 0) []) := owns_call HO0.out k2
  clear k2 hq HF0 HB0 HO0
  have cb := HB2.out.cell
  have zb := HB2.out.lt
  go_wp2_with (at_make; refine wpList_make_full _ rfl _ _ 99 rfl (w.heap.size + 1) 4 i0 (.bool false) 1 Try.underlying99 hi hz0 hz1 _ _ _ _ n1 rfl rfl rfl rfl ?c1 ?c2 ?c3 ?_)
  case c1 => rw [hz2]; omega
  case c2 => unfold maxLen; omega
  case c3 => omega
  intro w1 hown hgr
  have HG0 := Lib.hid ((From.start w2).grown hgr (fun k h => by cases h))
  obtain ⟨B, hB⟩ : ∃ B, w2.heap.size = B := ⟨_, rfl⟩
  have hBw : w.heap.size < B := by omega
  have HO1 : Hid (w1.ownsRow (w.heap.size + 1) 4 1 (.slice (some ⟨B, 0, none⟩) n1 n1) n1 (bbs (startK L o 0))) := by
    show World.ownsRow _ _ _ _ _ _ _
    have e : bbs (startK L o 0) = List.replicate n1 (.bool false) := by unfold startK bbs; rw [List.take_zero, HN1.out]; simp
    rw [e, ← hB]
    simpa [toList_madeCells_one] using hown
  simp only [hB]
  clear hown hgr cb zb
  have cb := (HB2.out.call HG0.out.below).cell
  have zb := (HB2.out.call HG0.out.below).lt
  go_wp2_with fail
  go_loopw [7] (fun i wr => ∃ (k : Nat), k ≤ n2 ∧ i = .int .i64 k ∧ Hid (wr.ownsRow (w.heap.size + 1) 4 1 (.slice (some ⟨B, 0, none⟩) n1 n1) n1 (bbs (startK L o k))) ∧ Hid (From w2.heap.size w2 wr)) (fun i _ => n2 - (intOf i).toNat)
  case atStart => exact ⟨0, Nat.zero_le _, rfl, HO1, HG0⟩
  case round =>
    clear HO1 HG0 cb zb
    obtain ⟨k, hkk, rfl, HO, HG⟩ := hrel
    have HB := Lib.hid (HB2.out.call HG.out.below)
    have HF := Lib.hid (HF2.out.call HG.out.below)
    have cb := HB.out.cell
    have zb := HB.out.lt
    by_cases hltk : k < n2
    · skip
      have i1 : (k : Int) < (n2 : Int) := by omega
      have i3 : (0 : Int) ≤ (k : Int) := by omega
      obtain ⟨b, off, rfl, hc⟩ := HD.out (by have := HN2.out; omega)
      obtain ⟨c0, c1, c2, c3⟩ := hc k (by rw [HN2.out]; exact hltk)
      have hbl : b < w.heap.size := World.block_lt_of_cell? w _ c0
      have g0 := (HF.out.below.cell (p := ⟨b, off + k * 4, none⟩) hbl).trans c0
      have g1 := (HF.out.below.cell (p := ⟨b, off + k * 4 + 1, none⟩) hbl).trans c1
      have g2 := (HF.out.below.cell (p := ⟨b, off + k * 4 + 2, none⟩) hbl).trans c2
      have g3 := (HF.out.below.cell (p := ⟨b, off + k * 4 + 3, none⟩) hbl).trans c3
      have hx0 := objB_sym HV.out (List.getElem_mem (l := o.syms) (by rw [HN2.out]; exact hltk))
      have HT := Lib.hid (startK_step L o k (by rw [HN2.out]; exact hltk))
      have HC0 := Lib.hid c0
      have HC1 := Lib.hid c1
      have HC2 := Lib.hid c2
      clear hc c0 c1 c2 c3
      generalize o.syms[k]'(by rw [HN2.out]; exact hltk) = x at *
      have hw1 := hx0.whr
      rw [HN1.out] at hw1
      clear hx0
      obtain ⟨nm, bd, wh, vl⟩ := x
      dsimp only at g0 g1 g2 g3 hw1 HC0 HC1 HC2
      obtain ⟨S, hS⟩ : ∃ S, startK L o k = S := ⟨_, rfl⟩
      have HSl : Hid (S.length = n1) := by show _ = _; rw [← hS, startK_length, HN1.out]
      rw [hS] at HO HT
      clear hS
      have HO1 : Hid (wr.ownsRow (w.heap.size + 1) 4 1 (.slice (some ⟨B, 0, none⟩) n1 n1) n1 (bbs (reachSet (L.take 0) S ⟨nm, bd, wh, vl⟩))) := by show World.ownsRow _ _ _ _ _ _ _; rw [List.take_zero, reachSet_nil]; exact HO.out
      go_wp2_with fail
      go_loopw [8] (fun i wr => ∃ (j : Nat), j ≤ n3 ∧ i = .int .i64 j ∧ Hid (wr.ownsRow (w.heap.size + 1) 4 1 (.slice (some ⟨B, 0, none⟩) n1 n1) n1 (bbs (reachSet (L.take j) S ⟨nm, bd, wh, vl⟩))) ∧ Hid (From w2.heap.size w2 wr)) (fun i _ => n3 - (intOf i).toNat)
      case atStart => exact ⟨0, Nat.zero_le _, rfl, HO1, HG⟩
      case round =>
        clear HO HG HO1 HB HF cb zb g0 g1 g2 g3
        obtain ⟨j, hkj, rfl, HO, HG⟩ := hrel
        have HB := Lib.hid (HB2.out.call HG.out.below)
        have HF := Lib.hid (HF2.out.call HG.out.below)
        have cb := HB.out.cell
        have zb := HB.out.lt
        by_cases hltj : j < n3
        · have j1 : (j : Int) < (n3 : Int) := by omega
          have j3 : (0 : Int) ≤ (j : Int) := by omega
          obtain ⟨b4, off4, rfl, hc4⟩ := HE.out (by have := HN3.out; omega)
          have c4 := hc4 j (by rw [HN3.out]; exact hltj)
          have hbl4 : b4 < w.heap.size := World.block_lt_of_cell? w _ c4
          have g4 := (HF.out.below.cell (p := ⟨b4, off4 + j, none⟩) hbl4).trans c4
          have g0 := (HF.out.below.cell (p := ⟨b, off + k * 4, none⟩) hbl).trans HC0.out
          have g1 := (HF.out.below.cell (p := ⟨b, off + k * 4 + 1, none⟩) hbl).trans HC1.out
          have g2 := (HF.out.below.cell (p := ⟨b, off + k * 4 + 2, none⟩) hbl).trans HC2.out
          have HT2 := Lib.hid (reachSet_name L S ⟨nm, bd, wh, vl⟩ j (by rw [HN3.out]; exact hltj))
          clear c4 hc4
          generalize L[j]'(by rw [HN3.out]; exact hltj) = nj at *
          obtain ⟨S3, hS3⟩ : ∃ S3, reachSet (L.take j) S ⟨nm, bd, wh, vl⟩ = S3 := ⟨_, rfl⟩
          have HLEN : Hid (S3.length = n1) := by show _ = _; rw [← hS3, reachSet_length, HSl.out]
          rw [hS3] at HO HT2
          clear hS3
          by_cases m0 : bytesS nm = bytesS nj
          case neg =>
            have e1 := str_ne m0
            have HE2 : Hid (reachSet (L.take (j + 1)) S ⟨nm, bd, wh, vl⟩ = S3) := by show _ = _; rw [HT2.out, if_neg (fun h => m0 (by rw [h.1]))]
            clear m0
            go_wp2_with fail
            go_quiet (fail)
            have HGd := Lib.hid (HG.out.drewN nq)
            have HOd : Hid ((wr.drewN nq).ownsRow (w.heap.size + 1) 4 1 (.slice (some ⟨B, 0, none⟩) n1 n1) n1 (bbs (S3))) := owns_call HO.out ((From.start wr).drewN nq).below
            clear g0 g1 g2 g4 cb zb
            go_wp2_with fail
            go_roundw
            case rel => exact ⟨j + 1, by omega, by go_num, (by show World.ownsRow _ _ _ _ _ _ _; rw [HE2.out]; exact HOd.out), HGd⟩
            case measure => simp [intOf]; try omega
          have e1 := str_eq m0
          by_cases m1 : bd = 0
          · have e2 : (bd != 0) = false := by simpa using m1
            have HE2 : Hid (reachSet (L.take (j + 1)) S ⟨nm, bd, wh, vl⟩ = S3) := by show _ = _; rw [HT2.out, if_neg (fun h => h.2.1 m1)]
            clear m0 m1
            go_wp2_with fail
            go_quiet (fail)
            have HGd := Lib.hid (HG.out.drewN nq)
            have HOd : Hid ((wr.drewN nq).ownsRow (w.heap.size + 1) 4 1 (.slice (some ⟨B, 0, none⟩) n1 n1) n1 (bbs (S3))) := owns_call HO.out ((From.start wr).drewN nq).below
            clear g0 g1 g2 g4 cb zb
            go_wp2_with fail
            go_roundw
            case rel => exact ⟨j + 1, by omega, by go_num, (by show World.ownsRow _ _ _ _ _ _ _; rw [HE2.out]; exact HOd.out), HGd⟩
            case measure => simp [intOf]; try omega
          have e2 : (bd != 0) = true := by simpa using m1
          by_cases m2 : 0 ≤ wh
          case neg =>
            have e3 : wh < 0 := by omega
            have HE2 : Hid (reachSet (L.take (j + 1)) S ⟨nm, bd, wh, vl⟩ = S3) := by show _ = _; rw [HT2.out, if_neg (fun h => m2 h.2.2)]
            clear m0 m1 m2
            go_wp2_with fail
            go_quiet (fail)
            have HGd := Lib.hid (HG.out.drewN nq)
            have HOd : Hid ((wr.drewN nq).ownsRow (w.heap.size + 1) 4 1 (.slice (some ⟨B, 0, none⟩) n1 n1) n1 (bbs (S3))) := owns_call HO.out ((From.start wr).drewN nq).below
            clear g0 g1 g2 g4 cb zb
            go_wp2_with fail
            go_roundw
            case rel => exact ⟨j + 1, by omega, by go_num, (by show World.ownsRow _ _ _ _ _ _ _; rw [HE2.out]; exact HOd.out), HGd⟩
            case measure => simp [intOf]; try omega
          have HM : Hid (nj = nm) := (bytesS_inj m0).symm
          have HM1 := Lib.hid m1
          clear m0 m1
          obtain ⟨J, rfl⟩ := Int.eq_ofNat_of_zero_le m2
          have HE2 : Hid (reachSet (L.take (j + 1)) S ⟨nm, bd, (J : Int), vl⟩ = S3.set J true) := by show _ = _; rw [HT2.out, if_pos ⟨HM.out, HM1.out, m2⟩]; rfl
          have hJ : J < n1 := by omega
          have jJ : (J : Int) < (n1 : Int) := by omega
          go_wp2_with fail
          go_quiet (fail)
          have HGd := Lib.hid (HG.out.drewN nq)
          have HOd : Hid ((wr.drewN nq).ownsRow (w.heap.size + 1) 4 1 (.slice (some ⟨B, 0, none⟩) n1 n1) n1 (bbs (S3))) := owns_call HO.out ((From.start wr).drewN nq).below
          have HBd := Lib.hid (HB2.out.call HGd.out.below)
          have HFd := Lib.hid (HF2.out.call HGd.out.below)
          clear cb zb g0 g1 g2 g4
          have cb := HBd.out.cell
          have zb := HBd.out.lt
          have g2 := (HFd.out.below.cell (p := ⟨b, off + k * 4 + 2, none⟩) hbl).trans HC2.out
          have hd := HOd.out.cellAt J (by omega)
          rw [bbs_get _ _ (by rw [HLEN.out]; omega)] at hd
          have hf := HOd.out.frozenAt J
          have HO9 : Hid (((wr.drewN nq).setCell ⟨B, J, none⟩ (.bool true)).ownsRow (w.heap.size + 1) 4 1 (.slice (some ⟨B, 0, none⟩) n1 n1) n1 (bbs ((S3).set J true))) := by
            show World.ownsRow _ _ _ _ _ _ _
            rw [bbs_set]
            exact (World.ownsRow.stored (HOd.out) J (.bool true)).1
          have HG9 := Lib.hid (From.setCell (p := ⟨B, J, none⟩) (HGd.out) (by show _ ≤ B; omega) (.bool true))
          go_wp2_with fail
          go_roundw
          case rel => exact ⟨j + 1, by omega, by go_num, (by show World.ownsRow _ _ _ _ _ _ _; rw [HE2.out]; exact HO9.out), HG9⟩
          case measure => simp [intOf]; try omega
        · obtain rfl : n3 = j := by omega
          have HO7 : Hid (wr.ownsRow (w.heap.size + 1) 4 1 (.slice (some ⟨B, 0, none⟩) n1 n1) n1 (bbs (startK L o (k + 1)))) := by show World.ownsRow _ _ _ _ _ _ _; rw [HT.out]; have := HO.out; rw [← HN3.out, List.take_length] at this; exact this
          go_wp2_with fail
          go_roundw
          case rel => exact ⟨k + 1, by omega, by go_num, HO7, HG⟩
          case measure => simp [intOf]; try omega
    · obtain rfl : n2 = k := by omega
      obtain ⟨S0, hS0⟩ : ∃ S0, startK L o n2 = S0 := ⟨_, rfl⟩
      have hS0l : S0.length = n1 := by rw [← hS0, startK_length, HN1.out]
      have HS0l := Lib.hid hS0l
      have HR0 : Hid (reachedL o L = sweeps o.syms o.secs S0 n1) := by show _ = _; unfold reachedL; rw [HN2.out, hS0, HN1.out]
      rw [hS0] at HO
      clear hS0 hS0l
      go_wp2_with fail
      go_loopw [9] (fun i wr => ∃ (k : Nat), k ≤ n1 ∧ i = .int .i64 k ∧ Hid (wr.ownsRow (w.heap.size + 1) 4 1 (.slice (some ⟨B, 0, none⟩) n1 n1) n1 (bbs (sweeps o.syms o.secs S0 k))) ∧ Hid (From w2.heap.size w2 wr)) (fun i _ => n1 - (intOf i).toNat)
      case atStart => exact ⟨0, Nat.zero_le _, rfl, HO, HG⟩
      case round =>
        clear HO HG HB HF cb zb hltk hkk
        obtain ⟨k, hkk, rfl, HO, HG⟩ := hrel
        have HB := Lib.hid (HB2.out.call HG.out.below)
        have HF := Lib.hid (HF2.out.call HG.out.below)
        have cb := HB.out.cell
        have zb := HB.out.lt
        by_cases hltk : k < n1
        · have i1 : (k : Int) < (n1 : Int) := by omega
          have i3 : (0 : Int) ≤ (k : Int) := by omega
          obtain ⟨S1, hS1⟩ : ∃ S1, sweeps o.syms o.secs S0 k = S1 := ⟨_, rfl⟩
          have HS1l : Hid (S1.length = n1) := by show _ = _; rw [← hS1, sweeps_length, HS0l.out]
          have HR1 : Hid (sweeps o.syms o.secs S0 (k + 1) = sweepK o.syms o.secs S1 n1) := by show sweepK o.syms o.secs (sweeps o.syms o.secs S0 k) o.secs.length = _; rw [hS1, HN1.out]
          rw [hS1] at HO
          clear hS1
          go_wp2_with fail
          go_loopw [10] (fun i wr => ∃ (q : Nat), q ≤ n1 ∧ i = .int .i64 q ∧ Hid (wr.ownsRow (w.heap.size + 1) 4 1 (.slice (some ⟨B, 0, none⟩) n1 n1) n1 (bbs (sweepK o.syms o.secs S1 q))) ∧ Hid (From w2.heap.size w2 wr)) (fun i _ => n1 - (intOf i).toNat)
          case atStart => exact ⟨0, Nat.zero_le _, rfl, HO, HG⟩
          case round =>
            clear HO HG HB HF cb zb
            obtain ⟨q, hkq, rfl, HO, HG⟩ := hrel
            have HB := Lib.hid (HB2.out.call HG.out.below)
            have HF := Lib.hid (HF2.out.call HG.out.below)
            have cb := HB.out.cell
            have zb := HB.out.lt
            by_cases hltq : q < n1
            · have i5 : (q : Int) < (n1 : Int) := by omega
              have i6 : (0 : Int) ≤ (q : Int) := by omega
              obtain ⟨b, off, rfl, hc⟩ := HC.out (by have := HN1.out; omega)
              obtain ⟨vb, vf, hb, hf, c0, c1, c2, c3, c4, c5⟩ := hc q (by rw [HN1.out]; exact hltq)
              obtain ⟨ba, bc, rfl, -, hbm, -⟩ := hb.form
              obtain ⟨fa, fc, rfl, -, hfm, -, hfc⟩ := hf.form
              have hbl : b < w.heap.size := World.block_lt_of_cell? w _ c0
              have g0 := (HF.out.below.cell (p := ⟨b, off + q * 6, none⟩) hbl).trans c0
              have g1 := (HF.out.below.cell (p := ⟨b, off + q * 6 + 1, none⟩) hbl).trans c1
              have g2 := (HF.out.below.cell (p := ⟨b, off + q * 6 + 2, none⟩) hbl).trans c2
              have g3 := (HF.out.below.cell (p := ⟨b, off + q * 6 + 3, none⟩) hbl).trans c3
              have g4 := (HF.out.below.cell (p := ⟨b, off + q * 6 + 4, none⟩) hbl).trans c4
              have g5 := (HF.out.below.cell (p := ⟨b, off + q * 6 + 5, none⟩) hbl).trans c5
              have hx0 := objB_sec HV.out (List.getElem_mem (l := o.secs) (by rw [HN1.out]; exact hltq))
              have HT := Lib.hid (sweepK_step o.syms o.secs S1 q (by rw [HN1.out]; exact hltq))
              have HFC := Lib.hid hfc
              have HC5 := Lib.hid c5
              clear hc c0 c1 c2 c3 c4 c5 hb hf hfc
              generalize o.secs[q]'(by rw [HN1.out]; exact hltq) = x at *
              have hnfl := hx0.fixl
              have HX0 := Lib.hid hx0
              clear hx0
              obtain ⟨nb, hnb⟩ : ∃ nb, x.bytes.length = nb := ⟨_, rfl⟩
              obtain ⟨nf, hnf⟩ : ∃ nf, x.fix.length = nf := ⟨_, rfl⟩
              have HNF := Lib.hid hnf
              rw [hnb] at g3
              rw [hnf] at hnfl g5 HC5
              clear hnb hnf hbm hfm
              obtain ⟨S2, hS2⟩ : ∃ S2, sweepK o.syms o.secs S1 q = S2 := ⟨_, rfl⟩
              have HS2l : Hid (S2.length = n1) := by show _ = _; rw [← hS2, sweepK_length, HS1l.out]
              rw [hS2] at HO HT
              clear hS2
              go_wp2_with fail
              go_loopw [11] (fun i wr => ∃ (j : Nat), j ≤ nf ∧ i = .int .i64 j ∧ Hid (wr.ownsRow (w.heap.size + 1) 4 1 (.slice (some ⟨B, 0, none⟩) n1 n1) n1 (bbs ((x.fix.take j).foldl (fixSet o.syms q) S2))) ∧ Hid (From w2.heap.size w2 wr)) (fun i _ => nf - (intOf i).toNat)
              case atStart => exact ⟨0, Nat.zero_le _, rfl, HO, HG⟩
              case round =>
                clear HO HG HB HF cb zb g0 g1 g2 g3 g4 g5
                obtain ⟨j, hkj, rfl, HO, HG⟩ := hrel
                have HB := Lib.hid (HB2.out.call HG.out.below)
                have HF := Lib.hid (HF2.out.call HG.out.below)
                have cb := HB.out.cell
                have zb := HB.out.lt
                by_cases hltj : j < nf
                · have i8 : (j : Int) < (nf : Int) := by omega
                  have i9 : (0 : Int) ≤ (j : Int) := by omega
                  have g5 := (HF.out.below.cell (p := ⟨b, off + q * 6 + 5, none⟩) hbl).trans HC5.out
                  obtain ⟨b2, off2, rfl, hc2⟩ := HFC.out (by have := HNF.out; omega)
                  obtain ⟨d0, d1, d2, d3⟩ := hc2 j (by have := HNF.out; omega)
                  have hbl2 : b2 < w.heap.size := World.block_lt_of_cell? w _ d0
                  have q0 := (HF.out.below.cell (p := ⟨b2, off2 + j * 4, none⟩) hbl2).trans d0
                  have q1 := (HF.out.below.cell (p := ⟨b2, off2 + j * 4 + 1, none⟩) hbl2).trans d1
                  have q2 := (HF.out.below.cell (p := ⟨b2, off2 + j * 4 + 2, none⟩) hbl2).trans d2
                  have q3 := (HF.out.below.cell (p := ⟨b2, off2 + j * 4 + 3, none⟩) hbl2).trans d3
                  have hy0 := HX0.out.fix _ (List.getElem_mem (l := x.fix) (by rw [HNF.out]; exact hltj))
                  have HT4 := Lib.hid (foldFix_step o.syms q S2 x.fix j (by rw [HNF.out]; exact hltj))
                  clear hc2 d0 d1 d2 d3
                  generalize x.fix[j]'(by rw [HNF.out]; exact hltj) = y at *
                  have hto := hy0.to
                  rw [HN2.out] at hto
                  clear hy0
                  obtain ⟨y1, y2, y3, y4⟩ := y
                  dsimp only at q0 q1 q2 q3 hto
                  obtain ⟨J, rfl⟩ := Int.eq_ofNat_of_zero_le hto.1
                  have hJ : J < n2 := by omega
                  have hJ1 : (J : Int) < (n2 : Int) := by omega
                  have hJ3 : (0 : Int) ≤ (J : Int) := by omega
                  obtain ⟨b3, off3, rfl, hc3⟩ := HD.out (by have := HN2.out; omega)
                  obtain ⟨-, -, f2, -⟩ := hc3 J (by rw [HN2.out]; exact hJ)
                  have hbl3 : b3 < w.heap.size := World.block_lt_of_cell? w _ f2
                  have zb3 : b3 < wr.heap.size := Nat.lt_of_lt_of_le hbl3 HF.out.le
                  have r2 := (HF.out.below.cell (p := ⟨b3, off3 + J * 4 + 2, none⟩) hbl3).trans f2
                  have hw1 := (objB_sym HV.out (List.getElem_mem (l := o.syms) (by rw [HN2.out]; exact hJ))).whr
                  rw [HN1.out] at hw1
                  have HWA : Hid (whrAt o.syms (J : Int) = (o.syms[J]'(by rw [HN2.out]; exact hJ)).whr) := whrAt_of hJ3 (by rw [HN2.out]; exact hJ)
                  obtain ⟨wh, hwh⟩ : ∃ wh, (o.syms[J]'(by rw [HN2.out]; exact hJ)).whr = wh := ⟨_, rfl⟩
                  rw [hwh] at r2 hw1 HWA
                  clear hwh hc3 f2
                  obtain ⟨S3, hS3⟩ : ∃ S3, (x.fix.take j).foldl (fixSet o.syms q) S2 = S3 := ⟨_, rfl⟩
                  have HLEN : Hid (S3.length = n1) := by show _ = _; rw [← hS3, foldFix_length, HS2l.out]
                  have HREST := Lib.hid (foldFix_rest o.syms q S2 x.fix j)
                  rw [hS3] at HO HT4 HREST
                  clear hS3
                  have hd := HO.out.cellAt q (by omega)
                  rw [bbs_get _ _ (by rw [HLEN.out]; omega)] at hd
                  cases hq : S3.getD q false
                  · rw [hq] at hd
                    have HO7 : Hid (wr.ownsRow (w.heap.size + 1) 4 1 (.slice (some ⟨B, 0, none⟩) n1 n1) n1 (bbs (sweepK o.syms o.secs S1 (q + 1)))) := by show World.ownsRow _ _ _ _ _ _ _; rw [HT.out, HREST.out hq]; exact HO.out
                    clear hq
                    go_wp2_with fail
                    go_roundw
                    case rel => exact ⟨q + 1, by omega, by go_num, HO7, HG⟩
                    case measure => simp [intOf]; try omega
                  rw [hq] at hd
                  by_cases m2 : 0 ≤ wh
                  case neg =>
                    have e2 : wh < 0 := by omega
                    have HE2 : Hid (fixSet o.syms q S3 (y1, y2, (J : Int), y4) = S3) := by show _ = _; unfold fixSet; rw [if_neg (fun h => m2 (HWA.out ▸ h.2))]
                    clear hq m2
                    go_wp2_with fail
                    go_quiet (fail)
                    have HGd := Lib.hid (HG.out.drewN nq)
                    have HOd : Hid ((wr.drewN nq).ownsRow (w.heap.size + 1) 4 1 (.slice (some ⟨B, 0, none⟩) n1 n1) n1 (bbs (S3))) := owns_call HO.out ((From.start wr).drewN nq).below
                    go_wp2_with fail
                    go_roundw
                    case rel => exact ⟨j + 1, by omega, by go_num, (by show World.ownsRow _ _ _ _ _ _ _; rw [HT4.out, HE2.out]; exact HOd.out), HGd⟩
                    case measure => simp [intOf]; try omega
                  obtain ⟨K, rfl⟩ := Int.eq_ofNat_of_zero_le m2
                  have HE2 : Hid (fixSet o.syms q S3 (y1, y2, (J : Int), y4) = S3.set K true) := by show _ = _; unfold fixSet; rw [if_pos ⟨hq, by rw [HWA.out]; exact m2⟩, HWA.out]; rfl
                  clear hq
                  have hK : K < n1 := by omega
                  have jK : (K : Int) < (n1 : Int) := by omega
                  go_wp2_with fail
                  go_quiet (fail)
                  have HGd := Lib.hid (HG.out.drewN nq)
                  have HOd : Hid ((wr.drewN nq).ownsRow (w.heap.size + 1) 4 1 (.slice (some ⟨B, 0, none⟩) n1 n1) n1 (bbs (S3))) := owns_call HO.out ((From.start wr).drewN nq).below
                  clear g5 q0 q1 q2 q3 r2 cb zb hd zb3
                  have hd2 := HOd.out.cellAt K (by omega)
                  rw [bbs_get _ _ (by rw [HLEN.out]; omega)] at hd2
                  have hf := HOd.out.frozenAt K
                  have HO9 : Hid (((wr.drewN nq).setCell ⟨B, K, none⟩ (.bool true)).ownsRow (w.heap.size + 1) 4 1 (.slice (some ⟨B, 0, none⟩) n1 n1) n1 (bbs ((S3).set K true))) := by
                    show World.ownsRow _ _ _ _ _ _ _
                    rw [bbs_set]
                    exact (World.ownsRow.stored (HOd.out) K (.bool true)).1
                  have HG9 := Lib.hid (From.setCell (p := ⟨B, K, none⟩) (HGd.out) (by show _ ≤ B; omega) (.bool true))
                  go_wp2_with fail
                  go_roundw
                  case rel => exact ⟨j + 1, by omega, by go_num, (by show World.ownsRow _ _ _ _ _ _ _; rw [HT4.out, HE2.out]; exact HO9.out), HG9⟩
                  case measure => simp [intOf]; try omega
                · obtain rfl : nf = j := by omega
                  have g5 := (HF.out.below.cell (p := ⟨b, off + q * 6 + 5, none⟩) hbl).trans HC5.out
                  have HO7 : Hid (wr.ownsRow (w.heap.size + 1) 4 1 (.slice (some ⟨B, 0, none⟩) n1 n1) n1 (bbs (sweepK o.syms o.secs S1 (q + 1)))) := by show World.ownsRow _ _ _ _ _ _ _; rw [HT.out]; have := HO.out; rw [← HNF.out, List.take_length] at this; exact this
                  go_wp2_with fail
                  go_roundw
                  case rel => exact ⟨q + 1, by omega, by go_num, HO7, HG⟩
                  case measure => simp [intOf]; try omega
            · obtain rfl : n1 = q := by omega
              have HO7 : Hid (wr.ownsRow (w.heap.size + 1) 4 1 (.slice (some ⟨B, 0, none⟩) n1 n1) n1 (bbs (sweeps o.syms o.secs S0 (k + 1)))) := by show World.ownsRow _ _ _ _ _ _ _; rw [HR1.out]; exact HO.out
              go_wp2_with fail
              go_roundw
              case rel => exact ⟨k + 1, by omega, by go_num, HO7, HG⟩
              case measure => simp [intOf]; try omega
        · obtain rfl : n1 = k := by omega
          have HR : Hid (wr.ownsRow (w.heap.size + 1) 4 1 (.slice (some ⟨B, 0, none⟩) n1 n1) n1 (bbs (reachedL o L))) := by show World.ownsRow _ _ _ _ _ _ _; rw [HR0.out]; exact HO.out
          have HOi : Hid (OwnI wr w.heap.size (.slice (some ⟨w.heap.size + 1, 0, none⟩) 0 0) []) := owns_call HO2.out HG.out.below
          have HRl : Hid ((reachedL o L).length = n1) := by show _ = _; rw [reachedL_length, HN1.out]
          obtain ⟨R, hR⟩ : ∃ R, reachedL o L = R := ⟨_, rfl⟩
          rw [hR] at HR HRl EI
          clear hR HO
          have HO := HOi
          clear HOi HR0
          go_wp2_with fail
          go_loopw [5, 13] (fun out i wr => ∃ (k : Nat) (U : List Int) (oa : Option Addr) (oc : Nat), k ≤ n1 ∧ i = .int .i64 k ∧ out = .slice oa U.length oc ∧ U.length ≤ k ∧ Hid (U = idxK R k) ∧ Hid (OwnI wr w.heap.size (.slice oa U.length oc) U) ∧ Hid (wr.ownsRow (w.heap.size + 1) 4 1 (.slice (some ⟨B, 0, none⟩) n1 n1) n1 (bbs R)) ∧ Hid (From w.heap.size w wr)) (fun _ i _ => n1 - (intOf i).toNat)
          case atStart => exact ⟨0, [], _, _, Nat.zero_le _, rfl, rfl, Nat.zero_le _, (by show _ = _; simp [idxK]), HO, HR, HF⟩
          case round =>
            clear HO HR HF
            obtain ⟨k, U, oa, oc, hk, rfl, rfl, hU, HU, HO, HR, HF⟩ := hrel
            by_cases hlt : k < n1
            · have i1 : (k : Int) < (n1 : Int) := by omega
              have i3 : (0 : Int) ≤ (k : Int) := by omega
              have hd := HR.out.cellAt k (by omega)
              rw [bbs_get _ _ (by rw [HRl.out]; omega)] at hd
              have HT := Lib.hid (idxK_step R k)
              cases hq : R.getD k false
              · rw [hq] at hd
                have HU2 : Hid (U = idxK R (k + 1)) := by show _ = _; rw [HT.out, hq]; simpa using HU.out
                clear hq
                go_wp2_with fail
                go_roundw
                case rel => exact ⟨k + 1, U, oa, oc, by omega, by go_num, rfl, by omega, HU2, HO, HR, HF⟩
                case measure => simp [intOf]; try omega
              · rw [hq] at hd
                have HU2 : Hid (U ++ [(k : Int)] = idxK R (k + 1)) := by show _ = _; rw [HT.out, hq, HU.out]; simp
                clear hq
                go_wp2_with (at_builtin; refine wpList_append_src rfl (.tmp 134) (.tmp 136) 52 52 rfl w.heap.size 3 j0 (.int .i64 0) 1 8 Try.underlying52 hj0 hy0 hy1 hy2 rfl (by decide) _ _ _ rfl (World.ownsRow.alloc HO.out _) _ 1 [_] rfl (src_at Try.underlying52 _ [_] 1 1 1 _ rfl ?c0 _ (by first | rfl | simp)) ?c1 ?c2 ?c3 ?_)
                case c0 => intro u hu; obtain rfl := List.mem_singleton.1 hu; rfl
                case c1 => unfold maxLen; omega
                case c2 => omega
                case c3 => have := HF.out.le; simp; omega
                intro v' w4 hown hgr
                have hown4 : OwnI w4 w.heap.size v' (U ++ [(k : Int)]) := owns_snocI hown
                obtain ⟨va, vc, rfl⟩ := owns_form hown4
                have HF4 := Lib.hid (From.grown (HF.out.alloc _) hgr (owns_block HO.out))
                have HR4 : Hid (w4.ownsRow (w.heap.size + 1) 4 1 (.slice (some ⟨B, 0, none⟩) n1 n1) n1 (bbs R)) := owns_keptNe (World.ownsRow.alloc HR.out _) (World.ownsRow.alloc HO.out _) (by decide) hgr
                obtain ⟨U2, hU2⟩ : ∃ U2, U ++ [(k : Int)] = U2 := ⟨_, rfl⟩
                have hl2 : U2.length ≤ k + 1 := by rw [← hU2, List.length_append]; simp; omega
                rw [hU2] at hown4 HU2 ⊢
                have HO4 := Lib.hid hown4
                clear hown hown4 hgr hU2 HO HR HF HU
                go_wp2_with fail
                go_roundw
                case rel => exact ⟨k + 1, U2, va, vc, by omega, by go_num, rfl, hl2, HU2, HO4, HR4, HF4⟩
                case measure => simp [intOf]; try omega
            · obtain rfl : n1 = k := by omega
              go_wp2_with fail
              go_ret
              exact ⟨_, rfl, by rw [EI.out, ← HU.out]; exact HO.out, HF.out.below⟩
end Go.Proofs.Ythccjimckjecjaa
