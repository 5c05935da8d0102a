/- Names hidden: both functions compute the same. -/
import Derived.Test.YthccjimckjecjaaCopyO
import Derived.Test.YthccjimckjecjaaCopyS
import Derived.Test.YthccjimckjecjaaPlainH
import Derived.Test.YthccjimckjecjaaIdx
import Derived.Test.YthccjimckjecjaaLen
namespace Go.Proofs.Ythccjimckjecjaa
open Go.ChangeShapes Go.WideShapes Go.ChangeAt Go.RowKit Go.Joins
set_option linter.unusedSimpArgs false
set_option linter.unusedVariables false
set_option maxRecDepth 100000
theorem inB_step (L : List ByteArray) (s : ByteArray) (j : Nat) (hj : j < L.length) : inB (L.take (j + 1)) s = (inB (L.take j) s || decide (L[j] = s)) := by
  unfold inB
  rw [List.take_succ_eq_append_getElem hj, List.any_append]
  simp
set_option maxHeartbeats 4000000 in
theorem i_HideNames (w : World) (v v2 : Value) (o : ObjD) (L : List ByteArray) (h : ObjAt w v o) (hL : StrsAt w v2 L) (hs : (∀ s ∈ o.secs, s.name.size ≤ maxLen) ∧ ∀ s ∈ o.syms, s.name.size ≤ maxLen) :
    Calls Try.prog 23 #[v, v2] w fun e w' => ∃ r, e = .returned r ∧ OwnObj w' w.heap.size r (hideO o L) ∧ Below w.heap.size w w' := by
  have HOB := Lib.hid h
  obtain ⟨vs, vy, rfl, h1, h2⟩ := h
  obtain ⟨sa, sc, rfl, hcap, hmax, hnone, hcell⟩ := h1.form
  obtain ⟨ya, yc, rfl, hcap2, hmax2, hnone2, hcell2⟩ := h2.form
  obtain ⟨za, zc, rfl, hcap3, hmax3, hnone3, hcell3⟩ := hL.form
  have HL := Lib.hid hL
  have HE := Lib.hid hcell3
  have HN0 := Lib.hid hs
  clear h1 h2 hcell hcell2 hcell3 hnone hnone2 hnone3 hL hs
  unfold maxLen at hmax hmax2 hmax3
  obtain ⟨n1, hn1⟩ : ∃ n1, o.secs.length = n1 := ⟨_, rfl⟩
  obtain ⟨n2, hn2⟩ : ∃ n2, o.syms.length = n2 := ⟨_, rfl⟩
  obtain ⟨n3, hn3⟩ : ∃ n3, L.length = n3 := ⟨_, rfl⟩
  have HN1 := Lib.hid hn1
  have HN2 := Lib.hid hn2
  have HN3 := Lib.hid hn3
  rw [hn1] at hcap HOB ⊢
  rw [hn2] at hcap2 HOB ⊢
  rw [hn3] at hcap3 HL ⊢
  clear hn1 hn2 hn3
  have HF0 := Lib.hid (((From.start w).alloc (.cells #[.slice sa n1 sc, .slice ya n2 yc] 26)).alloc (.cells #[.slice none 0 0, .slice none 0 0] 26))
  have HB0 := Lib.hid ((Blk.new w #[.slice sa n1 sc, .slice ya n2 yc] 26).alloc (.cells #[.slice none 0 0, .slice none 0 0] 26))
  have hr0 : Blk ((w.alloc (.cells #[.slice sa n1 sc, .slice ya n2 yc] 26)).alloc (.cells #[.slice none 0 0, .slice none 0 0] 26)) (w.heap.size + 1) #[.slice none 0 0, .slice none 0 0] 26 := Blk.newAt _ _ _ _ (by simp)
  have HR0 := Lib.hid hr0
  clear hr0
  cases hq : objB o
  · have E : hideO o L = ⟨[], []⟩ := by unfold hideO; rw [hq]; rfl
    rw [E]
    go_enter Try.func23, Try.ntmps23
    go_wp2_with fail
    refine (i_ObjectValid _ _ o (HOB.out.below (Nat.le_refl _) HF0.out.below) HN0.out).mono ?_
    rw [hq]
    rintro e w2 ⟨rfl, k2⟩
    have HF2 := Lib.hid (HF0.out.call k2)
    have HR2 := Lib.hid (HR0.out.call k2)
    have cR := HR2.out.cell
    have fR := HR2.out.frozen
    have zR := HR2.out.lt
    clear k2 hq
    go_wp2_with fail
    refine bodyPost_ret (v := .agg #[.slice none 0 0, .slice none 0 0]) (by simp [results, Try.results23, go_sem, cR, zR]) rfl ⟨_, rfl, ⟨_, _, [], rfl, rfl, ⟨World.ownsRow_nil _ _ _ _, (fun x hx => by cases hx), by simp [blksOf, Value.ownBlock]⟩, World.ownsRow_nil _ _ _ _, fun k hk => by cases hk⟩, ?_⟩
    exact ((HF2.out.setCell (p := ⟨w.heap.size + 1, 0, none⟩) (Nat.le_succ _) (.slice none 0 0)).setCell (p := ⟨w.heap.size + 1, 1, none⟩) (Nat.le_succ _) (.slice none 0 0)).below
  have HFew := Lib.hid (objB_fewO hq)
  have hf2 := (objB_few hq).2
  rw [HN2.out] at hf2
  have EI : Hid (hideO o L = ⟨o.secs, o.syms.map (hideS L)⟩) := by show _ = _; unfold hideO; rw [hq, if_pos rfl]
  go_enter Try.func23, Try.ntmps23
  go_wp2_with fail
  refine (i_ObjectValid _ _ o (HOB.out.below (Nat.le_refl _) HF0.out.below) HN0.out).mono ?_
  rw [hq]
  rintro e w2 ⟨rfl, k2⟩
  have HF2 := Lib.hid (HF0.out.call k2)
  have HR2 := Lib.hid (HR0.out.call k2)
  have HB2 := Lib.hid (HB0.out.call k2)
  have cb := HB2.out.cell
  have zb := HB2.out.lt
  have zR : w.heap.size + 1 < w2.heap.size := HR2.out.lt
  clear k2 hq HF0 HR0 HB0
  go_wp2_with fail
  refine (i_copyObject _ _ o (HOB.out.below (Nat.le_refl _) HF2.out.below) HFew.out).mono ?_
  rintro e w3 ⟨r, rfl, ⟨vs, vy, ls, rfl, hsecs, hS, hY, hd⟩, k3⟩
  have hY' : w3.ownsRow w2.heap.size 78 4 vy o.syms.length (o.syms.flatMap symL) := hY
  rw [HN2.out] at hY'
  have hls : ls.length = n1 := by have := congrArg List.length hsecs; rw [List.length_map, HN1.out] at this; exact this.symm
  have hrow := hS.row
  rw [hls] at hrow
  obtain ⟨pa, pc, rfl⟩ := owns_form hrow
  obtain ⟨qa, qc, rfl⟩ := owns_form hY'
  have HSE := Lib.hid hsecs
  have HDJ := Lib.hid hd
  have HYlt : Hid (∀ q, (Value.slice qa n2 qc).ownBlock = some q → w2.heap.size ≤ q ∧ q < w3.heap.size) := fun q hq => World.ownsRow.lt hY' q hq
  have HF3 := Lib.hid ((HF2.out.call k3).alloc (.cells #[.slice pa n1 pc, .slice qa n2 qc] 26))
  have HR3 := Lib.hid ((HR2.out.call k3).alloc (.cells #[.slice pa n1 pc, .slice qa n2 qc] 26))
  have HB3 := Lib.hid (Blk.new w3 #[.slice pa n1 pc, .slice qa n2 qc] 26)
  have HS3 := Lib.hid (hS.alloc (.cells #[.slice pa n1 pc, .slice qa n2 qc] 26))
  have z23 : w2.heap.size ≤ w3.heap.size := k3.size
  obtain ⟨m, hm⟩ : ∃ m, w2.heap.size = m := ⟨_, rfl⟩
  rw [hm] at hY' zR z23 HYlt HS3
  have HY3 : Hid ((w3.alloc (.cells #[.slice pa n1 pc, .slice qa n2 qc] 26)).ownsRow m 78 4 (.slice qa n2 qc) n2 ((hideK o L 0).flatMap symL)) := by show World.ownsRow _ _ _ _ _ _ _; have := World.ownsRow.alloc hY' (.cells #[.slice pa n1 pc, .slice qa n2 qc] 26); simpa [hideK] using this
  obtain ⟨B, hB⟩ : ∃ B, w3.heap.size = B := ⟨_, rfl⟩
  have cb3 := HB3.out.cell
  have zb3 := HB3.out.lt
  rw [hB] at HB3 HYlt cb3 zb3 z23
  clear hS hY hY' hd hrow k3 hm HB2 HF2 HR2 cb zb
  simp only [hB]
  go_wp2_with fail
  go_loopw [17] (fun i wr => ∃ (k : Nat), k ≤ n2 ∧ i = .int .i64 k ∧ Hid (OwnSecs wr m (.slice pa n1 pc) ls) ∧ Hid (wr.ownsRow m 78 4 (.slice qa n2 qc) n2 ((hideK o L k).flatMap symL)) ∧ Hid (Blk wr (w.heap.size + 1) #[.slice none 0 0, .slice none 0 0] 26) ∧ Hid (Blk wr B #[.slice pa n1 pc, .slice qa n2 qc] 26) ∧ Hid (From w.heap.size w wr)) (fun i _ => n2 - (intOf i).toNat)
  case atStart => exact ⟨0, Nat.zero_le _, rfl, HS3, HY3, HR3, HB3, HF3⟩
  case round =>
    clear HS3 HY3 HR3 HB3 HF3 cb3 zb3
    obtain ⟨k, hk, rfl, HO, HY, HR, HB, HF⟩ := hrel
    have cb := HB.out.cell
    have zb := HB.out.lt
    by_cases hlt : k < n2
    · skip
      have i1 : (k : Int) < (n2 : Int) := by omega
      have i3 : (0 : Int) ≤ (k : Int) := by omega
      obtain ⟨g, gc, hv⟩ := row_some HY.out (by intro e; simp only [Value.slice.injEq] at e; omega)
      simp only [Value.slice.injEq] at hv
      obtain ⟨rfl, -, rfl⟩ := hv
      have hltL : k < o.syms.length := by rw [HN2.out]; exact hlt
      have HG := Lib.hid (hideK_get o L k hltL)
      have HT := Lib.hid (hideK_step o L k hltL)
      have HKl : Hid ((hideK o L k).length = n2) := by show _ = _; rw [hideK_length, HN2.out]
      generalize o.syms[k] = x at *
      obtain ⟨nm, bd, wh, vl⟩ := x
      have hgB := HYlt.out g rfl
      obtain ⟨S, hS⟩ : ∃ S, hideK o L k = S := ⟨_, rfl⟩
      rw [hS] at HG HT HKl HY
      clear hS
      obtain ⟨g0, g1, g2, g3⟩ := syms_cells HY.out HKl.out HG.out
      dsimp only at g0 g1 g2 g3
      have HOa := Lib.hid (HO.out.alloc (.cells #[.string nm, .int .i64 bd, .int .i64 wh, .int .i64 vl] 78))
      have HYa : Hid ((wr.alloc (.cells #[.string nm, .int .i64 bd, .int .i64 wh, .int .i64 vl] 78)).ownsRow m 78 4 (.slice (some ⟨g, 0, none⟩) n2 qc) n2 ((S).flatMap symL)) := World.ownsRow.alloc HY.out (.cells #[.string nm, .int .i64 bd, .int .i64 wh, .int .i64 vl] 78)
      have HRa := Lib.hid (HR.out.alloc (.cells #[.string nm, .int .i64 bd, .int .i64 wh, .int .i64 vl] 78))
      have HBa := Lib.hid (HB.out.alloc (.cells #[.string nm, .int .i64 bd, .int .i64 wh, .int .i64 vl] 78))
      have HFa := Lib.hid (HF.out.alloc (.cells #[.string nm, .int .i64 bd, .int .i64 wh, .int .i64 vl] 78))
      by_cases m1 : wh = -1
      · have e1 : (wh != -1) = false := by simpa using m1
        have HE2 : Hid (hideS L ⟨nm, bd, wh, vl⟩ = ⟨nm, bd, wh, vl⟩) := by show _ = _; unfold hideS; rw [if_neg (fun h => h.1 m1)]
        clear m1
        go_wp2_with fail
        go_roundw
        case rel => exact ⟨k + 1, by omega, by go_num, HOa, (by show World.ownsRow _ _ _ _ _ _ _; rw [HT.out, HE2.out, set_same HG.out]; exact HYa.out), HRa, HBa, HFa⟩
        case measure => simp [intOf]; try omega
      have e1 : (wh != -1) = true := by simpa using m1
      have HM1 := Lib.hid m1
      go_wp2_with fail
      refine (containsStr_any _ _ L nm (HL.out.below (Nat.le_refl _) HFa.out.below)).mono ?_
      rintro e w5 ⟨rfl, k5⟩
      have HO5 := Lib.hid (HOa.out.call k5)
      have HY5 : Hid (w5.ownsRow m 78 4 (.slice (some ⟨g, 0, none⟩) n2 qc) n2 ((S).flatMap symL)) := owns_call HYa.out k5
      have HR5 := Lib.hid (HRa.out.call k5)
      have HB5 := Lib.hid (HBa.out.call k5)
      have HF5 := Lib.hid (HFa.out.call k5)
      clear k5 HO HY HR HB HF HOa HYa HRa HBa HFa g0 g1 g2 g3 cb zb m1
      cases hq : inB L nm
      case true =>
        have HE2 : Hid (hideS L ⟨nm, bd, wh, vl⟩ = ⟨nm, bd, wh, vl⟩) := by show _ = _; unfold hideS; rw [if_neg (fun h => by rw [hq] at h; cases h.2)]
        clear hq
        go_wp2_with fail
        go_roundw
        case rel => exact ⟨k + 1, by omega, by go_num, HO5, (by show World.ownsRow _ _ _ _ _ _ _; rw [HT.out, HE2.out, set_same HG.out]; exact HY5.out), HR5, HB5, HF5⟩
        case measure => simp [intOf]; try omega
      have HE2 : Hid (hideS L ⟨nm, bd, wh, vl⟩ = ⟨nm, 0, wh, vl⟩) := by show _ = _; unfold hideS; rw [if_pos ⟨HM1.out, hq⟩]
      clear hq
      obtain ⟨g0, g1, g2, g3⟩ := syms_cells HY5.out HKl.out HG.out
      dsimp only at g0 g1 g2 g3
      have cb := HB5.out.cell
      have zb := HB5.out.lt
      have fg : (w5).frozen? ⟨g, k * 4 + 1, none⟩ = false := World.ownsRow.frozenAt (HY5.out) (k * 4 + 1)
      have HY9 : Hid (((w5).setCell ⟨g, k * 4 + 1, none⟩ (.int .i64 0)).ownsRow m 78 4 (.slice (some ⟨g, 0, none⟩) n2 qc) n2 ((S.set k ⟨nm, 0, wh, vl⟩).flatMap symL)) := by
        show World.ownsRow _ _ _ _ _ _ _
        have h1 := (World.ownsRow.stored (HY5.out) (k * 4 + 1) (.int .i64 0)).1
        rw [syms_set HG.out (x' := ⟨nm, 0, wh, vl⟩) 1 (.int .i64 0) (by decide) rfl] at h1
        exact h1
      have HO9 := Lib.hid (OwnSecs.other (HO5.out) (Other.setCell (bs := [g]) (p := ⟨g, k * 4 + 1, none⟩) (by simp) (.int .i64 0)) (fun q hq hm => by
        obtain rfl := List.mem_singleton.1 hm
        exact HDJ.out _ rfl hq))
      have HR9 := Lib.hid (Blk.other (p := ⟨g, k * 4 + 1, none⟩) (HR5.out) (by show g ≠ _; omega) (.int .i64 0))
      have HB9 := Lib.hid (Blk.other (p := ⟨g, k * 4 + 1, none⟩) (HB5.out) (by show g ≠ _; omega) (.int .i64 0))
      have HF9 := Lib.hid (From.setCell (p := ⟨g, k * 4 + 1, none⟩) (HF5.out) (by show _ ≤ g; omega) (.int .i64 0))
      go_wp2_with fail
      go_roundw
      case rel => exact ⟨k + 1, by omega, by go_num, HO9, (by show World.ownsRow _ _ _ _ _ _ _; rw [HT.out, HE2.out]; exact HY9.out), HR9, HB9, HF9⟩
      case measure => simp [intOf]; try omega
    · obtain rfl : n2 = k := by omega
      have cR := HR.out.cell
      have fR := HR.out.frozen
      have zR2 := HR.out.lt
      have hne : B ≠ w.heap.size + 1 := by omega
      go_wp2_with fail
      refine bodyPost_ret (v := .agg #[.slice pa n1 pc, .slice qa n2 qc]) (by simp [results, Try.results23, go_sem, cR, zR2]) rfl ⟨_, rfl, ?_, ?_⟩
      · rw [EI.out]
        refine ⟨_, _, ls, rfl, HSE.out, ?_, ?_, HDJ.out⟩
        · exact ((HO.out.setBelow (a := ⟨w.heap.size + 1, 0, none⟩) zR _).setBelow (a := ⟨w.heap.size + 1, 1, none⟩) zR _).mono (show w.heap.size ≤ m by omega)
        · have h := ownsRow_setCell_below (ownsRow_setCell_below HY.out (a := ⟨w.heap.size + 1, 0, none⟩) zR (.slice pa n1 pc)) (a := ⟨w.heap.size + 1, 1, none⟩) zR (.slice qa n2 qc)
          have e := hideK_full o L
          rw [HN2.out] at e
          rw [e] at h
          have hl : (o.syms.map (hideS L)).length = n2 := by rw [List.length_map, HN2.out]
          unfold OwnSyms
          rw [hl]
          exact owns_mono h (show w.heap.size ≤ m by omega)
      · exact ((HF.out.setCell (p := ⟨w.heap.size + 1, 0, none⟩) (Nat.le_succ _) (.slice pa n1 pc)).setCell (p := ⟨w.heap.size + 1, 1, none⟩) (Nat.le_succ _) (.slice qa n2 qc)).below
set_option maxHeartbeats 4000000 in
theorem s_HideNames (w : World) (v v2 : Value) (o : ObjD) (L : List ByteArray) (h : ObjAt w v o) (hL : StrsAt w v2 L) (hs : (∀ s ∈ o.secs, s.name.size ≤ maxLen) ∧ ∀ s ∈ o.syms, s.name.size ≤ maxLen) :
    Calls Try.prog 25 #[v, v2] w fun e w' => ∃ r, e = .returned r ∧ OwnObj w' w.heap.size r (hideO o L) ∧ Below w.heap.size w w' := by
  have HOB := Lib.hid h
  obtain ⟨vs, vy, rfl, h1, h2⟩ := h
  obtain ⟨sa, sc, rfl, hcap, hmax, hnone, hcell⟩ := h1.form
  obtain ⟨ya, yc, rfl, hcap2, hmax2, hnone2, hcell2⟩ := h2.form
  obtain ⟨za, zc, rfl, hcap3, hmax3, hnone3, hcell3⟩ := hL.form
  have HL := Lib.hid hL
  have HE := Lib.hid hcell3
  have HN0 := Lib.hid hs
  clear h1 h2 hcell hcell2 hcell3 hnone hnone2 hnone3 hL hs
  unfold maxLen at hmax hmax2 hmax3
  obtain ⟨n1, hn1⟩ : ∃ n1, o.secs.length = n1 := ⟨_, rfl⟩
  obtain ⟨n2, hn2⟩ : ∃ n2, o.syms.length = n2 := ⟨_, rfl⟩
  obtain ⟨n3, hn3⟩ : ∃ n3, L.length = n3 := ⟨_, rfl⟩
  have HN1 := Lib.hid hn1
  have HN2 := Lib.hid hn2
  have HN3 := Lib.hid hn3
  rw [hn1] at hcap HOB ⊢
  rw [hn2] at hcap2 HOB ⊢
  rw [hn3] at hcap3 HL ⊢
  clear hn1 hn2 hn3
  have HF0 := Lib.hid (((From.start w).alloc (.cells #[.slice sa n1 sc, .slice ya n2 yc] 26)).alloc (.cells #[.slice none 0 0, .slice none 0 0] 26))
  have HB0 := Lib.hid ((Blk.new w #[.slice sa n1 sc, .slice ya n2 yc] 26).alloc (.cells #[.slice none 0 0, .slice none 0 0] 26))
  have hr0 : Blk ((w.alloc (.cells #[.slice sa n1 sc, .slice ya n2 yc] 26)).alloc (.cells #[.slice none 0 0, .slice none 0 0] 26)) (w.heap.size + 1) #[.slice none 0 0, .slice none 0 0] 26 := Blk.newAt _ _ _ _ (by simp)
  have HR0 := Lib.hid hr0
  clear hr0
  cases hq : objB o
  · have E : hideO o L = ⟨[], []⟩ := by unfold hideO; rw [hq]; rfl
    rw [E]
    go_enter Try.func25, Try.ntmps25
    go_wp2_with fail
    refine (s_ObjectValid _ _ o (HOB.out.below (Nat.le_refl _) HF0.out.below) HN0.out).mono ?_
    rw [hq]
    rintro e w2 ⟨rfl, k2⟩
    have HF2 := Lib.hid (HF0.out.call k2)
    have HR2 := Lib.hid (HR0.out.call k2)
    have cR := HR2.out.cell
    have fR := HR2.out.frozen
    have zR := HR2.out.lt
    clear k2 hq
    go_wp2_with fail
    refine bodyPost_ret (v := .agg #[.slice none 0 0, .slice none 0 0]) (by simp [results, Try.results25, go_sem, cR, zR]) rfl ⟨_, rfl, ⟨_, _, [], rfl, rfl, ⟨World.ownsRow_nil _ _ _ _, (fun x hx => by cases hx), by simp [blksOf, Value.ownBlock]⟩, World.ownsRow_nil _ _ _ _, fun k hk => by cases hk⟩, ?_⟩
    exact ((HF2.out.setCell (p := ⟨w.heap.size + 1, 0, none⟩) (Nat.le_succ _) (.slice none 0 0)).setCell (p := ⟨w.heap.size + 1, 1, none⟩) (Nat.le_succ _) (.slice none 0 0)).below
  have HFew := Lib.hid (objB_fewO hq)
  have hf2 := (objB_few hq).2
  rw [HN2.out] at hf2
  have EI : Hid (hideO o L = ⟨o.secs, o.syms.map (hideS L)⟩) := by show _ = _; unfold hideO; rw [hq, if_pos rfl]
  go_enter Try.func25, Try.ntmps25
  go_wp2_with fail
  refine (s_ObjectValid _ _ o (HOB.out.below (Nat.le_refl _) HF0.out.below) HN0.out).mono ?_
  rw [hq]
  rintro e w2 ⟨rfl, k2⟩
  have HF2 := Lib.hid (HF0.out.call k2)
  have HR2 := Lib.hid (HR0.out.call k2)
  have HB2 := Lib.hid (HB0.out.call k2)
  have cb := HB2.out.cell
  have zb := HB2.out.lt
  have zR : w.heap.size + 1 < w2.heap.size := HR2.out.lt
  clear k2 hq HF0 HR0 HB0
  go_wp2_with fail
  refine (s_l4Copy _ _ o (HOB.out.below (Nat.le_refl _) HF2.out.below) HFew.out).mono ?_
  rintro e w3 ⟨r, rfl, ⟨vs, vy, ls, rfl, hsecs, hS, hY, hd⟩, k3⟩
  have hY' : w3.ownsRow w2.heap.size 78 4 vy o.syms.length (o.syms.flatMap symL) := hY
  rw [HN2.out] at hY'
  have hls : ls.length = n1 := by have := congrArg List.length hsecs; rw [List.length_map, HN1.out] at this; exact this.symm
  have hrow := hS.row
  rw [hls] at hrow
  obtain ⟨pa, pc, rfl⟩ := owns_form hrow
  obtain ⟨qa, qc, rfl⟩ := owns_form hY'
  have HSE := Lib.hid hsecs
  have HDJ := Lib.hid hd
  have HYlt : Hid (∀ q, (Value.slice qa n2 qc).ownBlock = some q → w2.heap.size ≤ q ∧ q < w3.heap.size) := fun q hq => World.ownsRow.lt hY' q hq
  have HF3 := Lib.hid ((HF2.out.call k3).alloc (.cells #[.slice pa n1 pc, .slice qa n2 qc] 26))
  have HR3 := Lib.hid ((HR2.out.call k3).alloc (.cells #[.slice pa n1 pc, .slice qa n2 qc] 26))
  have HB3 := Lib.hid (Blk.new w3 #[.slice pa n1 pc, .slice qa n2 qc] 26)
  have HS3 := Lib.hid (hS.alloc (.cells #[.slice pa n1 pc, .slice qa n2 qc] 26))
  have z23 : w2.heap.size ≤ w3.heap.size := k3.size
  obtain ⟨m, hm⟩ : ∃ m, w2.heap.size = m := ⟨_, rfl⟩
  rw [hm] at hY' zR z23 HYlt HS3
  have HY3 : Hid ((w3.alloc (.cells #[.slice pa n1 pc, .slice qa n2 qc] 26)).ownsRow m 78 4 (.slice qa n2 qc) n2 ((hideK o L 0).flatMap symL)) := by show World.ownsRow _ _ _ _ _ _ _; have := World.ownsRow.alloc hY' (.cells #[.slice pa n1 pc, .slice qa n2 qc] 26); simpa [hideK] using this
  obtain ⟨B, hB⟩ : ∃ B, w3.heap.size = B := ⟨_, rfl⟩
  have cb3 := HB3.out.cell
  have zb3 := HB3.out.lt
  rw [hB] at HB3 HYlt cb3 zb3 z23
  clear hS hY hY' hd hrow k3 hm HB2 HF2 HR2 cb zb
  simp only [hB]
  go_wp2_with fail
  go_loopw [6] (fun i wr => ∃ (k : Nat), k ≤ n2 ∧ i = .int .i64 k ∧ Hid (OwnSecs wr m (.slice pa n1 pc) ls) ∧ Hid (wr.ownsRow m 78 4 (.slice qa n2 qc) n2 ((hideK o L k).flatMap symL)) ∧ Hid (Blk wr (w.heap.size + 1) #[.slice none 0 0, .slice none 0 0] 26) ∧ Hid (Blk wr B #[.slice pa n1 pc, .slice qa n2 qc] 26) ∧ Hid (From w.heap.size w wr)) (fun i _ => n2 - (intOf i).toNat)
  case atStart => exact ⟨0, Nat.zero_le _, rfl, HS3, HY3, HR3, HB3, HF3⟩
  case round =>
    clear HS3 HY3 HR3 HB3 HF3 cb3 zb3
    obtain ⟨k, hk, rfl, HO, HY, HR, HB, HF⟩ := hrel
    have cb := HB.out.cell
    have zb := HB.out.lt
    by_cases hlt : k < n2
    · skip
      have i1 : (k : Int) < (n2 : Int) := by omega
      have i3 : (0 : Int) ≤ (k : Int) := by omega
      obtain ⟨g, gc, hv⟩ := row_some HY.out (by intro e; simp only [Value.slice.injEq] at e; omega)
      simp only [Value.slice.injEq] at hv
      obtain ⟨rfl, -, rfl⟩ := hv
      have hltL : k < o.syms.length := by rw [HN2.out]; exact hlt
      have HG := Lib.hid (hideK_get o L k hltL)
      have HT := Lib.hid (hideK_step o L k hltL)
      have HKl : Hid ((hideK o L k).length = n2) := by show _ = _; rw [hideK_length, HN2.out]
      generalize o.syms[k] = x at *
      obtain ⟨nm, bd, wh, vl⟩ := x
      have hgB := HYlt.out g rfl
      obtain ⟨S, hS⟩ : ∃ S, hideK o L k = S := ⟨_, rfl⟩
      rw [hS] at HG HT HKl HY
      clear hS
      obtain ⟨g0, g1, g2, g3⟩ := syms_cells HY.out HKl.out HG.out
      dsimp only at g0 g1 g2 g3
      have HW : Hid ((wh == -1) = (decide (wh = -1) || inB (L.take 0) nm)) := by show _ = _; by_cases h : wh = -1 <;> simp [inB, h]
      go_wp2_with fail
      rw [HW.out]
      go_loopw [7, 8] (fun q i wr => ∃ (j : Nat), j ≤ n3 ∧ i = .int .i64 j ∧ q = .bool (decide (wh = -1) || inB (L.take j) nm) ∧ Hid (OwnSecs wr m (.slice pa n1 pc) ls) ∧ Hid (wr.ownsRow m 78 4 (.slice (some ⟨g, 0, none⟩) n2 qc) n2 ((S).flatMap symL)) ∧ Hid (Blk wr (w.heap.size + 1) #[.slice none 0 0, .slice none 0 0] 26) ∧ Hid (Blk wr B #[.slice pa n1 pc, .slice (some ⟨g, 0, none⟩) n2 qc] 26) ∧ Hid (From w.heap.size w wr)) (fun _ i _ => n3 - (intOf i).toNat)
      case atStart => exact ⟨0, Nat.zero_le _, rfl, rfl, HO, HY, HR, HB, HF⟩
      case round =>
        clear HO HY HR HB HF cb zb g0 g1 g2 g3
        obtain ⟨j, hj, rfl, rfl, HO, HY, HR, HB, HF⟩ := hrel
        have cb := HB.out.cell
        have zb := HB.out.lt
        obtain ⟨g0, g1, g2, g3⟩ := syms_cells HY.out HKl.out HG.out
        dsimp only at g0 g1 g2 g3
        by_cases hltj : j < n3
        · have j1 : (j : Int) < (n3 : Int) := by omega
          have j3 : (0 : Int) ≤ (j : Int) := by omega
          obtain ⟨b4, off4, rfl, hc4⟩ := HE.out (by have := HN3.out; omega)
          have c4 := hc4 j (by rw [HN3.out]; exact hltj)
          have hbl4 : b4 < w.heap.size := World.block_lt_of_cell? w _ c4
          have g4 := (HF.out.below.cell (p := ⟨b4, off4 + j, none⟩) hbl4).trans c4
          have HI : Hid (inB (L.take (j + 1)) nm = (inB (L.take j) nm || decide (L[j]'(by rw [HN3.out]; exact hltj) = nm))) := inB_step L nm j (by rw [HN3.out]; exact hltj)
          clear c4 hc4
          generalize L[j]'(by rw [HN3.out]; exact hltj) = nj at *
          obtain ⟨bj, hbj⟩ : ∃ bj, (decide (wh = -1) || inB (L.take j) nm) = bj := ⟨_, rfl⟩
          by_cases m0 : bytesS nj = bytesS nm
          · have e1 := str_eq m0
            have HQ : Hid ((decide (wh = -1) || inB (L.take (j + 1)) nm) = true) := by show _ = _; rw [HI.out, decide_eq_true (bytesS_inj m0)]; simp
            rw [hbj]
            cases bj
            · go_wp2_with fail
              go_quiet (fail)
              go_wp2_with fail
              go_roundw
              case rel => exact ⟨j + 1, by omega, by go_num, by rw [HQ.out], (HO.out.call ((From.start wr).drewN nq).below), (owns_call HY.out ((From.start wr).drewN nq).below), (HR.out.call ((From.start wr).drewN nq).below), (HB.out.call ((From.start wr).drewN nq).below), (HF.out.drewN nq)⟩
              case measure => simp [intOf]; try omega
            · go_wp2_with fail
              go_quiet (fail)
              go_wp2_with fail
              go_roundw
              case rel => exact ⟨j + 1, by omega, by go_num, by rw [HQ.out], (HO.out.call ((From.start wr).drewN nq).below), (owns_call HY.out ((From.start wr).drewN nq).below), (HR.out.call ((From.start wr).drewN nq).below), (HB.out.call ((From.start wr).drewN nq).below), (HF.out.drewN nq)⟩
              case measure => simp [intOf]; try omega
          · have e1 := str_ne m0
            have HQ : Hid ((decide (wh = -1) || inB (L.take (j + 1)) nm) = bj) := by show _ = _; rw [HI.out, show decide (nj = nm) = false from decide_eq_false (fun h => m0 (by rw [h])), Bool.or_false]; exact hbj
            rw [hbj]
            cases bj
            · go_wp2_with fail
              go_quiet (fail)
              go_wp2_with fail
              go_roundw
              case rel => exact ⟨j + 1, by omega, by go_num, by rw [HQ.out], (HO.out.call ((From.start wr).drewN nq).below), (owns_call HY.out ((From.start wr).drewN nq).below), (HR.out.call ((From.start wr).drewN nq).below), (HB.out.call ((From.start wr).drewN nq).below), (HF.out.drewN nq)⟩
              case measure => simp [intOf]; try omega
            · go_wp2_with fail
              go_quiet (fail)
              go_wp2_with fail
              go_roundw
              case rel => exact ⟨j + 1, by omega, by go_num, by rw [HQ.out], (HO.out.call ((From.start wr).drewN nq).below), (owns_call HY.out ((From.start wr).drewN nq).below), (HR.out.call ((From.start wr).drewN nq).below), (HB.out.call ((From.start wr).drewN nq).below), (HF.out.drewN nq)⟩
              case measure => simp [intOf]; try omega
        · obtain rfl : n3 = j := by omega
          have HQ : Hid ((decide (wh = -1) || inB (L.take n3) nm) = (decide (wh = -1) || inB L nm)) := by show _ = _; rw [← HN3.out, List.take_length]
          obtain ⟨bj, hbj⟩ : ∃ bj, (decide (wh = -1) || inB (L.take n3) nm) = bj := ⟨_, rfl⟩
          rw [hbj] at HQ ⊢
          clear hbj
          cases bj
          · have HE2 : Hid (hideS L ⟨nm, bd, wh, vl⟩ = ⟨nm, 0, wh, vl⟩) := by
              have h := HQ.out.symm
              simp only [Bool.or_eq_false_iff, decide_eq_false_iff_not] at h
              show _ = _; unfold hideS; rw [if_pos h]
            have fg : (wr).frozen? ⟨g, k * 4 + 1, none⟩ = false := World.ownsRow.frozenAt (HY.out) (k * 4 + 1)
            have HY9 : Hid (((wr).setCell ⟨g, k * 4 + 1, none⟩ (.int .i64 0)).ownsRow m 78 4 (.slice (some ⟨g, 0, none⟩) n2 qc) n2 ((S.set k ⟨nm, 0, wh, vl⟩).flatMap symL)) := by
              show World.ownsRow _ _ _ _ _ _ _
              have h1 := (World.ownsRow.stored (HY.out) (k * 4 + 1) (.int .i64 0)).1
              rw [syms_set HG.out (x' := ⟨nm, 0, wh, vl⟩) 1 (.int .i64 0) (by decide) rfl] at h1
              exact h1
            have HO9 := Lib.hid (OwnSecs.other (HO.out) (Other.setCell (bs := [g]) (p := ⟨g, k * 4 + 1, none⟩) (by simp) (.int .i64 0)) (fun q hq hm => by
              obtain rfl := List.mem_singleton.1 hm
              exact HDJ.out _ rfl hq))
            have HR9 := Lib.hid (Blk.other (p := ⟨g, k * 4 + 1, none⟩) (HR.out) (by show g ≠ _; omega) (.int .i64 0))
            have HB9 := Lib.hid (Blk.other (p := ⟨g, k * 4 + 1, none⟩) (HB.out) (by show g ≠ _; omega) (.int .i64 0))
            have HF9 := Lib.hid (From.setCell (p := ⟨g, k * 4 + 1, none⟩) (HF.out) (by show _ ≤ g; omega) (.int .i64 0))
            go_wp2_with fail
            go_roundw
            case rel => exact ⟨k + 1, by omega, by go_num, HO9, (by show World.ownsRow _ _ _ _ _ _ _; rw [HT.out, HE2.out]; exact HY9.out), HR9, HB9, HF9⟩
            case measure => simp [intOf]; try omega
          · have HE2 : Hid (hideS L ⟨nm, bd, wh, vl⟩ = ⟨nm, bd, wh, vl⟩) := by
              have h := HQ.out.symm
              simp only [Bool.or_eq_true, decide_eq_true_eq] at h
              show _ = _; unfold hideS; rw [if_neg (fun h2 => by rcases h with h | h; exact h2.1 h; rw [h] at h2; cases h2.2)]
            go_wp2_with fail
            go_roundw
            case rel => exact ⟨k + 1, by omega, by go_num, HO, (by show World.ownsRow _ _ _ _ _ _ _; rw [HT.out, HE2.out, set_same HG.out]; exact HY.out), HR, HB, HF⟩
            case measure => simp [intOf]; try omega
    · obtain rfl : n2 = k := by omega
      have cR := HR.out.cell
      have fR := HR.out.frozen
      have zR2 := HR.out.lt
      have hne : B ≠ w.heap.size + 1 := by omega
      go_wp2_with fail
      refine bodyPost_ret (v := .agg #[.slice pa n1 pc, .slice qa n2 qc]) (by simp [results, Try.results25, go_sem, cR, zR2]) rfl ⟨_, rfl, ?_, ?_⟩
      · rw [EI.out]
        refine ⟨_, _, ls, rfl, HSE.out, ?_, ?_, HDJ.out⟩
        · exact ((HO.out.setBelow (a := ⟨w.heap.size + 1, 0, none⟩) zR _).setBelow (a := ⟨w.heap.size + 1, 1, none⟩) zR _).mono (show w.heap.size ≤ m by omega)
        · have h := ownsRow_setCell_below (ownsRow_setCell_below HY.out (a := ⟨w.heap.size + 1, 0, none⟩) zR (.slice pa n1 pc)) (a := ⟨w.heap.size + 1, 1, none⟩) zR (.slice qa n2 qc)
          have e := hideK_full o L
          rw [HN2.out] at e
          rw [e] at h
          have hl : (o.syms.map (hideS L)).length = n2 := by rw [List.length_map, HN2.out]
          unfold OwnSyms
          rw [hl]
          exact owns_mono h (show w.heap.size ≤ m by omega)
      · exact ((HF.out.setCell (p := ⟨w.heap.size + 1, 0, none⟩) (Nat.le_succ _) (.slice pa n1 pc)).setCell (p := ⟨w.heap.size + 1, 1, none⟩) (Nat.le_succ _) (.slice qa n2 qc)).below
end Go.Proofs.Ythccjimckjecjaa
