/- Copies of objects: l4Copy. -/
import Derived.Test.YthccjimckjecjaaCopy
import Derived.Test.YthccjimckjecjaaDrawY
import Derived.Test.YthccjimckjecjaaInv
import Derived.Test.YthccjimckjecjaaLen
namespace Go.Proofs.Ythccjimckjecjaa
open Go.ChangeShapes Go.WideShapes Go.ChangeAt Go.RowKit Go.Joins
set_option linter.unusedSimpArgs false
set_option linter.unusedVariables false
set_option maxRecDepth 100000
set_option maxHeartbeats 4000000 in
theorem s_l4Copy (w : World) (v : Value) (o : ObjD) (h : ObjAt w v o) (hf : FewObj o) :
    Calls Try.prog 76 #[v] w fun e w' => ∃ r, e = .returned r ∧ OwnObj w' w.heap.size r o ∧ Below w.heap.size w w' := by
  obtain ⟨vs, vy, rfl, h1, h2⟩ := h
  obtain ⟨j0, hj0, hy0, hy1, hy2⟩ := info_parts info_sec
  obtain ⟨k0, hk0, hu0, hu1, hu2⟩ := info_parts info_sym
  obtain ⟨b0, hb0, hp0, hp1, hp2⟩ := info_parts info_u8
  obtain ⟨f0, hf0, hq0, hq1, hq2⟩ := info_parts info_fix
  have HY := Lib.hid h2
  obtain ⟨sa, sc, rfl, hcap, hmax, hnone, hcell⟩ := h1.form
  obtain ⟨ya, yc, rfl, -⟩ := h2.form
  have HC := Lib.hid hcell
  have HFew := Lib.hid hf
  clear h1 h2 hcell hnone
  unfold maxLen at hmax
  have hl1 := hf.1
  have hl2 := hf.2.1
  clear hf
  obtain ⟨n1, hn1⟩ : ∃ n1, o.secs.length = n1 := ⟨_, rfl⟩
  obtain ⟨n2, hn2⟩ : ∃ n2, o.syms.length = n2 := ⟨_, rfl⟩
  have HN1 := Lib.hid hn1
  have HM2 := Lib.hid hn2
  rw [hn2] at HY hl2 ⊢
  rw [hn1] at hcap hl1 ⊢
  clear hn1 hn2
  have hr0 : (((w.alloc (.cells #[.slice sa n1 sc, .slice ya n2 yc] 26)).alloc (.cells #[.slice none 0 0, .slice none 0 0] 26)).alloc (.cells #[] 78)).ownsRow (w.heap.size + 2) 78 4 (.slice (some ⟨w.heap.size + 2, 0, none⟩) 0 0) 0 [] := by
    have := World.ownsRow_lit ((w.alloc (.cells #[.slice sa n1 sc, .slice ya n2 yc] 26)).alloc (.cells #[.slice none 0 0, .slice none 0 0] 26)) #[] (e := 78) (size := 4) (base := w.heap.size + 2) 0 (by simp) (Nat.zero_le _) rfl
    simpa using this
  have HR0 := Lib.hid hr0
  have HF1 := Lib.hid ((((From.start w).alloc (.cells #[.slice sa n1 sc, .slice ya n2 yc] 26)).alloc (.cells #[.slice none 0 0, .slice none 0 0] 26)).alloc (.cells #[] 78))
  have HB0 := Lib.hid (((Blk.new w #[.slice sa n1 sc, .slice ya n2 yc] 26).alloc (.cells #[.slice none 0 0, .slice none 0 0] 26)).alloc (.cells #[] 78))
  have hb1 : Blk ((w.alloc (.cells #[.slice sa n1 sc, .slice ya n2 yc] 26)).alloc (.cells #[.slice none 0 0, .slice none 0 0] 26)) (w.heap.size + 1) #[.slice none 0 0, .slice none 0 0] 26 := Blk.newAt _ _ _ _ (by simp)
  have HB1 := Lib.hid (hb1.alloc (.cells #[] 78))
  clear hr0 hb1
  go_enter Try.func76, Try.ntmps76
  go_wp2_with (at_builtin; refine wpList_append_src rfl (.tmp 6) (.tmp 8) 24 24 rfl (w.heap.size + 2) 78 k0 _ 4 40 Try.underlying24 hk0 hu0 hu1 hu2 rfl (by decide) _ _ _ rfl HR0.out _ o.syms.length (o.syms.flatMap symL) rfl (src_reads Try.underlying24 (HY.out.below (Nat.le_refl _) HF1.out.below) (syms_one o.syms)) ?c1 ?c2 ?c3 ?_)
  case c1 => unfold maxLen; rw [HM2.out]; omega
  case c2 => rw [HM2.out]; omega
  case c3 => simp
  intro v' w2 hown hgr
  try rw [Nat.zero_add] at hown
  try rw [List.nil_append] at hown
  have HF2 := Lib.hid (From.grown HF1.out hgr (fun k hk => by have := owns_block HR0.out k hk; omega))
  have HB02 := Lib.hid (Blk.grown HB0.out hgr (fun e => by have := owns_block HR0.out _ e.symm; omega))
  have HB12 := Lib.hid (Blk.grown HB1.out hgr (fun e => by have := owns_block HR0.out _ e.symm; omega))
  have hoy : OwnSyms w2 (w.heap.size + 2) v' o.syms := hown
  obtain ⟨ra, rc, rfl⟩ := owns_form hoy
  have HOy := Lib.hid hoy
  have c0 := HB02.out.cell
  have z0 := HB02.out.lt
  have z1 : w.heap.size + 1 < w2.heap.size := HB12.out.lt
  rw [HM2.out]
  clear hown hgr hoy HF1 HB0 HB1 HR0
  go_wp2_with fail
  have HF3 := Lib.hid (HF2.out.alloc (.cells #[.slice none 0 0, .slice ra n2 rc] 26))
  have HB3 := Lib.hid (Blk.new w2 #[.slice none 0 0, .slice ra n2 rc] 26)
  have HB13 := Lib.hid (HB12.out.alloc (.cells #[.slice none 0 0, .slice ra n2 rc] 26))
  have HB03 := Lib.hid (HB02.out.alloc (.cells #[.slice none 0 0, .slice ra n2 rc] 26))
  have HY3 : Hid (OwnSyms (w2.alloc (.cells #[.slice none 0 0, .slice ra n2 rc] 26)) (w.heap.size + 2) (.slice ra o.syms.length rc) o.syms) := World.ownsRow.alloc HOy.out _
  generalize hw3 : w2.alloc (.cells #[.slice none 0 0, .slice ra n2 rc] 26) = w3 at HF3 HB3 HB13 HB03 HY3 ⊢
  clear hw3
  have HYlt : Hid (∀ q, (Value.slice ra o.syms.length rc).ownBlock = some q → w.heap.size + 2 ≤ q ∧ q < w2.heap.size) := fun q hq => World.ownsRow.lt HOy.out q hq
  clear HOy c0 z0 HF2 HB02 HB12
  generalize hB : w2.heap.size = B at *
  clear hB
  go_loopw [4] (fun i wr => ∃ (k : Nat) (ls : List (SecD × Value × Value)) (va : Option Addr) (vc : Nat), k ≤ n1 ∧ i = .int .i64 k ∧ Hid (o.secs.take k = ls.map (·.1)) ∧ Hid (OwnSecs wr (B + 1) (.slice va ls.length vc) ls) ∧
      Hid (OwnSyms wr (w.heap.size + 2) (.slice ra o.syms.length rc) o.syms) ∧ Hid (Blk wr (w.heap.size + 1) #[.slice none 0 0, .slice none 0 0] 26) ∧ Hid (Blk wr B #[.slice va ls.length vc, .slice ra n2 rc] 26) ∧ Hid (Blk wr w.heap.size #[.slice sa n1 sc, .slice ya n2 yc] 26) ∧ Hid (From w.heap.size w wr)) (fun i _ => n1 - (intOf i).toNat)
  case atStart => exact ⟨0, [], none, 0, Nat.zero_le _, rfl, (by show _ = _; simp), ⟨World.ownsRow_nil _ _ _ _, (fun x hx => by cases hx), by simp [blksOf, Value.ownBlock]⟩, HY3, HB13, HB3, HB03, HF3⟩
  case round =>
    clear HF3 HB3 HB13 HB03 HY3
    obtain ⟨k, ls, va, vc, hk, rfl, HL, HO, HY3, HB1, HB3, HB0, HF⟩ := hrel
    have cb := HB0.out.cell
    have zb := HB0.out.lt
    by_cases hlt : k < n1
    · obtain ⟨b, off, rfl, hc⟩ := HC.out (by have := HN1.out; omega)
      obtain ⟨vb, vf, hb, hf, c0, c1, c2, c3, c4, c5⟩ := hc k (by rw [HN1.out]; exact hlt)
      have hbl : b < w.heap.size := World.block_lt_of_cell? w _ c0
      have g0 := (HF.out.below.cell (p := ⟨b, off + k * 6, none⟩) hbl).trans c0
      have g1 := (HF.out.below.cell (p := ⟨b, off + k * 6 + 1, none⟩) hbl).trans c1
      have g2 := (HF.out.below.cell (p := ⟨b, off + k * 6 + 2, none⟩) hbl).trans c2
      have g3 := (HF.out.below.cell (p := ⟨b, off + k * 6 + 3, none⟩) hbl).trans c3
      have g4 := (HF.out.below.cell (p := ⟨b, off + k * 6 + 4, none⟩) hbl).trans c4
      have g5 := (HF.out.below.cell (p := ⟨b, off + k * 6 + 5, none⟩) hbl).trans c5
      have i1 : (k : Int) < (n1 : Int) := by omega
      have i3 : (0 : Int) ≤ (k : Int) := by omega
      obtain ⟨ba, bc, rfl, -⟩ := hb.form
      obtain ⟨fa, fc, rfl, -⟩ := hf.form
      have HBy0 := Lib.hid hb
      have HFi0 := Lib.hid hf
      have hltL : k < o.secs.length := by rw [HN1.out]; exact hlt
      have HT : Hid (o.secs.take (k + 1) = ls.map (·.1) ++ [o.secs[k]]) := by show _ = _; rw [List.take_succ_eq_append_getElem hltL, HL.out]
      have HBk := Lib.hid (HFew.out.2.2 o.secs[k] (List.getElem_mem hltL))
      have hlsl : ls.length ≤ k := by have := congrArg List.length HL.out; simp at this; have := HN1.out; omega
      clear hc c0 c1 c2 c3 c4 c5 hb hf HL
      generalize o.secs[k] = x at *
      obtain ⟨nb, hnb⟩ : ∃ nb, x.bytes.length = nb := ⟨_, rfl⟩
      obtain ⟨nf, hnf⟩ : ∃ nf, x.fix.length = nf := ⟨_, rfl⟩
      rw [hnb] at g3 HBy0
      rw [hnf] at g5 HFi0
      have HNB := Lib.hid hnb
      have HNF := Lib.hid hnf
      have hbl1 : nb ≤ 1073741824 := by rw [← hnb]; exact HBk.out.1
      have hbl2 : nf ≤ 1073741824 := by rw [← hnf]; exact HBk.out.2
      clear hnb hnf
      have HBw : Hid (BytesAt wr (.slice ba nb bc) x.bytes) := HBy0.out.below (Nat.le_refl _) HF.out.below
      have HFw : Hid (FixAt wr (.slice fa nf fc) x.fix) := HFi0.out.below (Nat.le_refl _) HF.out.below
      have hl0 : (((wr.alloc (.cells #[.string x.name, .int .i64 x.kind, .int .i64 x.align, .slice ba nb bc, .int .i64 x.size, .slice fa nf fc] 69))).alloc (.cells #[] 5)).ownsRow (wr.heap.size + 1) 5 1 (.slice (some ⟨wr.heap.size + 1, 0, none⟩) 0 0) 0 [] := by
        have := World.ownsRow_lit (wr.alloc (.cells #[.string x.name, .int .i64 x.kind, .int .i64 x.align, .slice ba nb bc, .int .i64 x.size, .slice fa nf fc] 69)) #[] (e := 5) (size := 1) (base := wr.heap.size + 1) 0 (by simp) (Nat.zero_le _) rfl
        simpa using this
      have HL0 := Lib.hid hl0
      have HFx := Lib.hid (((From.start wr).alloc (.cells #[.string x.name, .int .i64 x.kind, .int .i64 x.align, .slice ba nb bc, .int .i64 x.size, .slice fa nf fc] 69)).alloc (.cells #[] 5))
      have HBx := Lib.hid ((Blk.new wr #[.string x.name, .int .i64 x.kind, .int .i64 x.align, .slice ba nb bc, .int .i64 x.size, .slice fa nf fc] 69).alloc (.cells #[] 5))
      clear hl0
      go_wp2_with (at_builtin; refine wpList_append_src rfl (.tmp 23) (.tmp 25) 22 22 rfl (wr.heap.size + 1) 5 b0 _ 1 1 Try.underlying22 hb0 hp0 hp1 hp2 rfl (by decide) _ _ _ rfl HL0.out _ x.bytes.length (bvs x.bytes) rfl (src_reads Try.underlying22 (HBw.out.below (Nat.le_refl _) HFx.out.below) (bvs_one _)) ?c1 ?c2 ?c3 ?_)
      case c1 => unfold maxLen; rw [HNB.out]; omega
      case c2 => rw [HNB.out]; omega
      case c3 => simp
      intro v1 w6 hown hgr
      try rw [Nat.zero_add] at hown
      try rw [List.nil_append] at hown
      have hown1 : OwnB w6 (wr.heap.size + 1) v1 x.bytes := hown
      have hx6 := Blk.grown HBx.out hgr (fun e => by have := owns_block HL0.out _ e.symm; omega)
      have hf6 := From.grown HFx.out hgr (fun k hk => by have := owns_block HL0.out k hk; omega)
      obtain ⟨g1', g2', rfl⟩ := owns_form hown1
      have hx7 : Blk (w6.setCell ⟨wr.heap.size, 3, none⟩ (.slice g1' x.bytes.length g2')) wr.heap.size #[.string x.name, .int .i64 x.kind, .int .i64 x.align, .slice g1' x.bytes.length g2', .int .i64 x.size, .slice fa nf fc] 69 := by
        have := hx6.set (o := 3) (.slice g1' x.bytes.length g2')
        simpa using this
      have hf7 := hf6.setCell (p := ⟨wr.heap.size, 3, none⟩) (Nat.le_refl _) (.slice g1' x.bytes.length g2')
      have ho7 : OwnB (w6.setCell ⟨wr.heap.size, 3, none⟩ (.slice g1' x.bytes.length g2')) (wr.heap.size + 1) (.slice g1' x.bytes.length g2') x.bytes := ownsRow_setCell_below hown1 (a := ⟨wr.heap.size, 3, none⟩) (Nat.lt_succ_self _) _
      have hs7 : (w6.setCell ⟨wr.heap.size, 3, none⟩ (.slice g1' x.bytes.length g2')).heap.size = w6.heap.size := by simp [World.setCell]
      have hl7 : ((w6.setCell ⟨wr.heap.size, 3, none⟩ (.slice g1' x.bytes.length g2')).alloc (.cells #[] 80)).ownsRow (wr.heap.size + 1) 80 4 (.slice (some ⟨w6.heap.size, 0, none⟩) 0 0) 0 [] := by
        have h6 : wr.heap.size < w6.heap.size := hx6.lt
        have := World.ownsRow_lit (w6.setCell ⟨wr.heap.size, 3, none⟩ (.slice g1' x.bytes.length g2')) #[] (e := 80) (size := 4) (base := wr.heap.size + 1) 0 (by rw [hs7]; omega) (Nat.zero_le _) rfl
        rw [hs7] at this
        exact this
      have HL7 := Lib.hid hl7
      have HX7 := Lib.hid (hx7.alloc (.cells #[] 80))
      have HF7 := Lib.hid (hf7.alloc (.cells #[] 80))
      have HO7 : Hid (OwnB ((w6.setCell ⟨wr.heap.size, 3, none⟩ (.slice g1' x.bytes.length g2')).alloc (.cells #[] 80)) (wr.heap.size + 1) (.slice g1' x.bytes.length g2') x.bytes) := World.ownsRow.alloc ho7 _
      have cX6 := hx6.cell
      have fX6 := hx6.frozen
      have zX6 := hx6.lt
      clear hown hown1 hgr hx6 hf6 hx7 hf7 ho7 hs7 hl7 HL0 HFx HBx HBy0 HFi0 HBw
      go_wp2_with (at_builtin; refine wpList_append_src rfl (.tmp 28) (.tmp 30) 67 67 rfl (wr.heap.size + 1) 80 f0 _ 4 32 Try.underlying67 hf0 hq0 hq1 hq2 rfl (by decide) _ _ _ rfl HL7.out _ x.fix.length (fixCells x.fix) rfl (src_reads Try.underlying67 (HFw.out.below (Nat.le_refl _) HF7.out.below) (fix_one _)) ?c1 ?c2 ?c3 ?_)
      case c1 => unfold maxLen; rw [HNF.out]; omega
      case c2 => rw [HNF.out]; omega
      case c3 => have := HF7.out.le; have := HX7.out.lt; omega
      intro v2 w8 hown hgr
      try rw [Nat.zero_add] at hown
      try rw [List.nil_append] at hown
      have hown2 : OwnF w8 (wr.heap.size + 1) v2 x.fix := hown
      obtain ⟨q1', q2', rfl⟩ := owns_form hown2
      have hO8 : OwnB w8 (wr.heap.size + 1) (.slice g1' x.bytes.length g2') x.bytes := owns_keptNe HO7.out HL7.out (by decide) hgr
      have hx8 := Blk.grown HX7.out hgr (fun e => by have := owns_block HL7.out _ e.symm; omega)
      have hf8 := From.grown HF7.out hgr (fun k hk => by have := owns_block HL7.out k hk; omega)
      have hbx : Blk (w8.setCell ⟨wr.heap.size, 5, none⟩ (.slice q1' x.fix.length q2')) wr.heap.size #[.string x.name, .int .i64 x.kind, .int .i64 x.align, .slice g1' x.bytes.length g2', .int .i64 x.size, .slice q1' x.fix.length q2'] 69 := by
        have := hx8.set (o := 5) (.slice q1' x.fix.length q2')
        simpa using this
      have hFu := hf8.setCell (p := ⟨wr.heap.size, 5, none⟩) (Nat.le_refl _) (.slice q1' x.fix.length q2')
      have hb1 : OwnB (w8.setCell ⟨wr.heap.size, 5, none⟩ (.slice q1' x.fix.length q2')) (wr.heap.size + 1) (.slice g1' x.bytes.length g2') x.bytes := ownsRow_setCell_below hO8 (a := ⟨wr.heap.size, 5, none⟩) (Nat.lt_succ_self _) _
      have hf1 : OwnF (w8.setCell ⟨wr.heap.size, 5, none⟩ (.slice q1' x.fix.length q2')) (wr.heap.size + 1) (.slice q1' x.fix.length q2') x.fix := ownsRow_setCell_below hown2 (a := ⟨wr.heap.size, 5, none⟩) (Nat.lt_succ_self _) _
      have cX := hx8.cell
      have fX := hx8.frozen
      have zX := hx8.lt
      obtain ⟨M, hMM⟩ : ∃ M, wr.heap.size + 1 = M := ⟨_, rfl⟩
      have hX : wr.heap.size = wr.heap.size := rfl
      have hXM : wr.heap.size < M := by omega
      have hs8 : (w8.setCell ⟨wr.heap.size, 5, none⟩ (.slice q1' x.fix.length q2')).heap.size = w8.heap.size := by simp [World.setCell]
      have hMu : M ≤ (w8.setCell ⟨wr.heap.size, 5, none⟩ (.slice q1' x.fix.length q2')).heap.size := by rw [hs8]; have := zX; omega
      rw [hMM] at hb1 hf1
      clear hown hown2 hgr hO8 hx8 hf8 HL7 HX7 HF7 HO7 cX6 fX6 zX6 HFw g0 g1 g2 g3 g4 g5
      have hne := owns_ne hb1 hf1 (by decide)
      have HBb := Lib.hid hb1
      have HFf := Lib.hid hf1
      have HNE := Lib.hid hne
      have HBX2 := Lib.hid hbx
      have HLT := Lib.hid HO.out.lt
      have HO2 := Lib.hid (HO.out.call hFu.below)
      have HY2 : Hid (OwnSyms (w8.setCell ⟨wr.heap.size, 5, none⟩ (.slice q1' x.fix.length q2')) (w.heap.size + 2) (.slice ra o.syms.length rc) o.syms) := owns_call HY3.out hFu.below
      have HB02 := Lib.hid (HB0.out.call hFu.below)
      have HB12 := Lib.hid (HB1.out.call hFu.below)
      have HB32 := Lib.hid (HB3.out.call hFu.below)
      have HF2 := Lib.hid (HF.out.call hFu.below)
      have zB : B < wr.heap.size := HB3.out.lt
      have cX9 := hbx.cell
      have zX9 := hbx.lt
      have hMu8 : M ≤ w8.heap.size := by omega
      have cB := HB32.out.cell
      have fB := HB32.out.frozen
      have zB2 := HB32.out.lt
      clear hb1 hf1 hne hbx hFu HO HY3 HB1 HB3 HB0 HF
      go_wp2_with (at_builtin; refine wpList_append_own rfl (.tmp 34) (.tmp 36) 23 23 rfl (B + 1) 69 j0 _ 6 88 Try.underlying23 hj0 hy0 hy1 hy2 rfl (by decide) _ _ _ rfl (World.ownsRow.alloc HO2.out.row _) _ 1 [_, _, _, _, _, _] rfl (src_at Try.underlying23 _ [_, _, _, _, _, _] 6 1 1 _ rfl ?c0 _ (by simp [World.setCell])) ?c1 ?c2 ?c3 ?_)
      case c0 =>
        exact ⟨rfl, rfl, rfl, rfl, rfl, rfl⟩
      case c1 => unfold maxLen; omega
      case c2 => omega
      case c3 => first | omega | (simp; omega)
      intro v' w4 hown hgr hpl
      obtain ⟨ls2, hls2⟩ : ∃ ls2, ls ++ [(x, Value.slice g1' x.bytes.length g2', Value.slice q1' x.fix.length q2')] = ls2 := ⟨_, rfl⟩
      have hsn := (HO2.out.alloc (.cells #[.string x.name, .int .i64 x.kind, .int .i64 x.align, .slice g1' x.bytes.length g2', .int .i64 x.size, .slice q1' x.fix.length q2'] 69)).snoc (m := M) (x := (x, .slice g1' x.bytes.length g2', .slice q1' x.fix.length q2')) (fun k hk => by have := (HLT.out k hk).2; omega) (by omega) (World.ownsRow.alloc HBb.out _) (World.ownsRow.alloc HFf.out _) HNE.out hgr hown (by simpa using hpl)
      have hlen2 : ls.length + 1 = ls2.length := by rw [← hls2, List.length_append]; rfl
      have hown2 := hown
      rw [hlen2] at hown2
      obtain ⟨va2, vc2, rfl⟩ := owns_form hown2
      rw [hls2] at hsn
      have HSN := Lib.hid hsn
      have HB34 := Lib.hid (Blk.grown (HB32.out.alloc (.cells #[.string x.name, .int .i64 x.kind, .int .i64 x.align, .slice g1' x.bytes.length g2', .int .i64 x.size, .slice q1' x.fix.length q2'] 69)) hgr (fun e => by have := owns_block HO2.out.row B e.symm; omega))
      have HB04 := Lib.hid (Blk.grown (HB02.out.alloc (.cells #[.string x.name, .int .i64 x.kind, .int .i64 x.align, .slice g1' x.bytes.length g2', .int .i64 x.size, .slice q1' x.fix.length q2'] 69)) hgr (fun e => by have := owns_block HO2.out.row _ e.symm; omega))
      have HB14 := Lib.hid (Blk.grown (HB12.out.alloc (.cells #[.string x.name, .int .i64 x.kind, .int .i64 x.align, .slice g1' x.bytes.length g2', .int .i64 x.size, .slice q1' x.fix.length q2'] 69)) hgr (fun e => by have := owns_block HO2.out.row _ e.symm; omega))
      have HY4 : Hid (OwnSyms w4 (w.heap.size + 2) (.slice ra o.syms.length rc) o.syms) := World.ownsRow.kept (World.ownsRow.alloc HY2.out _) hgr (by
        cases hq : (Value.slice ra o.syms.length rc).ownBlock with
        | none => exact .inl rfl
        | some q => exact .inr fun e => (by have := HYlt.out q hq; have := owns_block HO2.out.row q e.symm; omega))
      have HF4 := Lib.hid (From.grown (HF2.out.alloc (.cells #[.string x.name, .int .i64 x.kind, .int .i64 x.align, .slice g1' x.bytes.length g2', .int .i64 x.size, .slice q1' x.fix.length q2'] 69)) hgr (fun k hk => by have := owns_block HO2.out.row k hk; omega))
      have HL2 : Hid (o.secs.take (k + 1) = ls2.map (·.1)) := by show _ = _; rw [HT.out, ← hls2, List.map_append]; rfl
      have HO5 : Hid (OwnSecs (w4.setCell ⟨B, 0, none⟩ (.slice va2 ls2.length vc2)) (B + 1) (.slice va2 ls2.length vc2) ls2) := HSN.out.setBelow (a := ⟨B, 0, none⟩) (Nat.lt_succ_self B) _
      have HY5 : Hid (OwnSyms (w4.setCell ⟨B, 0, none⟩ (.slice va2 ls2.length vc2)) (w.heap.size + 2) (.slice ra o.syms.length rc) o.syms) := ownsRow_setCell_other HY4.out (a := ⟨B, 0, none⟩) (fun e => by have := (HYlt.out B e).2; omega) _
      have HB15 : Hid (Blk (w4.setCell ⟨B, 0, none⟩ (.slice va2 ls2.length vc2)) (w.heap.size + 1) #[.slice none 0 0, .slice none 0 0] 26) := Blk.other HB14.out (p := ⟨B, 0, none⟩) (by show B ≠ _; omega) _
      have HB05 := Lib.hid (Blk.other HB04.out (p := ⟨B, 0, none⟩) (by show B ≠ _; omega) (.slice va2 ls2.length vc2))
      have HB35 : Hid (Blk (w4.setCell ⟨B, 0, none⟩ (.slice va2 ls2.length vc2)) B #[.slice va2 ls2.length vc2, .slice ra n2 rc] 26) := by
        show Blk _ _ _ _
        have := HB34.out.set (o := 0) (.slice va2 ls2.length vc2)
        simpa using this
      have HF5 : Hid (From w.heap.size w (w4.setCell ⟨B, 0, none⟩ (.slice va2 ls2.length vc2))) := From.setCell HF4.out (p := ⟨B, 0, none⟩) (by show _ ≤ B; omega) _
      have cB4 := HB34.out.cell
      have fB4 := HB34.out.frozen
      have zB4 := HB34.out.lt
      rw [hlen2] at *
      clear hown hown2 hgr hpl hsn hls2 cB fB
      go_wp2_with fail
      go_roundw
      case rel => exact ⟨k + 1, ls2, va2, vc2, by omega, by go_num, HL2, HO5, HY5, HB15, HB35, HB05, HF5⟩
      case measure => simp [intOf]; try omega
    · obtain rfl : n1 = k := by omega
      have hsecs : Hid (o.secs = ls.map (·.1)) := by show _ = _; rw [← HL.out, ← HN1.out, List.take_length]
      have cR := HB1.out.cell
      have fR := HB1.out.frozen
      have zR := HB1.out.lt
      have cB := HB3.out.cell
      have zB := HB3.out.lt
      have hne : B ≠ w.heap.size + 1 := by omega
      go_wp2_with fail
      refine bodyPost_ret (v := .agg #[.slice va ls.length vc, .slice ra n2 rc]) (by simp [results, Try.results76, go_sem, cR, zR]) rfl ⟨_, rfl, ⟨_, _, ls, rfl, hsecs.out, ?_, ?_, ?_⟩, ?_⟩
      · exact ((HO.out.setBelow (a := ⟨w.heap.size + 1, 0, none⟩) (by show w.heap.size + 1 < B + 1; omega) _).setBelow (a := ⟨w.heap.size + 1, 1, none⟩) (by show w.heap.size + 1 < B + 1; omega) _).mono (show w.heap.size ≤ B + 1 by omega)
      · have h := ownsRow_setCell_below (ownsRow_setCell_below HY3.out (a := ⟨w.heap.size + 1, 0, none⟩) (by show w.heap.size + 1 < w.heap.size + 2; omega) (.slice va ls.length vc)) (a := ⟨w.heap.size + 1, 1, none⟩) (by show w.heap.size + 1 < w.heap.size + 2; omega) (.slice ra n2 rc)
        rw [HM2.out] at h
        unfold OwnSyms
        rw [HM2.out]
        exact owns_mono h (show w.heap.size ≤ w.heap.size + 2 by omega)
      · intro q hq hm
        have := (HO.out.lt q hm).1
        have := (HYlt.out q (by rw [HM2.out]; exact hq)).2
        omega
      · exact ((HF.out.setCell (p := ⟨w.heap.size + 1, 0, none⟩) (Nat.le_succ _) (.slice va ls.length vc)).setCell (p := ⟨w.heap.size + 1, 1, none⟩) (Nat.le_succ _) (.slice ra n2 rc)).below
end Go.Proofs.Ythccjimckjecjaa
