/- Objects with some of their symbols: the reference. -/
import Derived.Test.YthccjimckjecjaaCopyS
import Derived.Test.YthccjimckjecjaaKeepI
import Derived.Test.YthccjimckjecjaaObjValS
import Derived.Test.YthccjimckjecjaaBools
namespace Go.Proofs.Ythccjimckjecjaa
open Go.ChangeShapes Go.WideShapes Go.ChangeAt Go.RowKit Go.Joins
set_option linter.unusedSimpArgs false
set_option linter.unusedVariables false
set_option maxRecDepth 100000
set_option maxHeartbeats 4000000 in
theorem s_l1OwnSection (w : World) (v : Value) (x : SecD) (h : SecAt w v x) (h1 : x.bytes.length ≤ 1073741824) (h2 : x.fix.length ≤ 1073741824) :
    Calls Try.prog 173 #[v] w fun e w' => ∃ vb vf, e = .returned (secV x vb vf) ∧ OwnB w' w.heap.size vb x.bytes ∧ OwnF w' w.heap.size vf x.fix ∧ Below w.heap.size w w' := by
  obtain ⟨vb, vf, rfl, hb, hf⟩ := h
  obtain ⟨b0, hb0, hp0, hp1, hp2⟩ := info_parts info_u8
  obtain ⟨f0, hf0, hq0, hq1, hq2⟩ := info_parts info_fix
  obtain ⟨ba, bc, rfl, -⟩ := hb.form
  obtain ⟨fa, fc, rfl, -⟩ := hf.form
  have HBY := Lib.hid hb
  have HFI := Lib.hid hf
  clear hb hf
  obtain ⟨nb, hnb⟩ : ∃ nb, x.bytes.length = nb := ⟨_, rfl⟩
  obtain ⟨nf, hnf⟩ : ∃ nf, x.fix.length = nf := ⟨_, rfl⟩
  have HNB := Lib.hid hnb
  have HNF := Lib.hid hnf
  unfold secV
  rw [hnb] at h1 HBY ⊢
  rw [hnf] at h2 HFI ⊢
  clear hnb hnf
  have HF3 := Lib.hid (((((From.start w).alloc (.cells #[.string x.name, .int .i64 x.kind, .int .i64 x.align, .slice ba nb bc, .int .i64 x.size, .slice fa nf fc] 69)).alloc (.cells secZero 69)).alloc (.cells #[.string x.name, .int .i64 x.kind, .int .i64 x.align, .slice ba nb bc, .int .i64 x.size, .slice fa nf fc] 69)).alloc (.cells #[] 5))
  have HA3 := Lib.hid ((((Blk.new w #[.string x.name, .int .i64 x.kind, .int .i64 x.align, .slice ba nb bc, .int .i64 x.size, .slice fa nf fc] 69).alloc (.cells secZero 69)).alloc (.cells #[.string x.name, .int .i64 x.kind, .int .i64 x.align, .slice ba nb bc, .int .i64 x.size, .slice fa nf fc] 69)).alloc (.cells #[] 5))
  have hr : Blk ((w.alloc (.cells #[.string x.name, .int .i64 x.kind, .int .i64 x.align, .slice ba nb bc, .int .i64 x.size, .slice fa nf fc] 69)).alloc (.cells secZero 69)) (w.heap.size + 1) secZero 69 := Blk.newAt _ _ _ _ (by simp)
  have HR3 := Lib.hid ((hr.alloc (.cells #[.string x.name, .int .i64 x.kind, .int .i64 x.align, .slice ba nb bc, .int .i64 x.size, .slice fa nf fc] 69)).alloc (.cells #[] 5))
  have hc : Blk (((w.alloc (.cells #[.string x.name, .int .i64 x.kind, .int .i64 x.align, .slice ba nb bc, .int .i64 x.size, .slice fa nf fc] 69)).alloc (.cells secZero 69)).alloc (.cells #[.string x.name, .int .i64 x.kind, .int .i64 x.align, .slice ba nb bc, .int .i64 x.size, .slice fa nf fc] 69)) (w.heap.size + 2) #[.string x.name, .int .i64 x.kind, .int .i64 x.align, .slice ba nb bc, .int .i64 x.size, .slice fa nf fc] 69 := Blk.newAt _ _ _ _ (by simp)
  have HC3 := Lib.hid (hc.alloc (.cells #[] 5))
  have hl : ((((w.alloc (.cells #[.string x.name, .int .i64 x.kind, .int .i64 x.align, .slice ba nb bc, .int .i64 x.size, .slice fa nf fc] 69)).alloc (.cells secZero 69)).alloc (.cells #[.string x.name, .int .i64 x.kind, .int .i64 x.align, .slice ba nb bc, .int .i64 x.size, .slice fa nf fc] 69)).alloc (.cells #[] 5)).ownsRow (w.heap.size + 3) 5 1 (.slice (some ⟨w.heap.size + 3, 0, none⟩) 0 0) 0 [] := by
    have := World.ownsRow_lit (((w.alloc (.cells #[.string x.name, .int .i64 x.kind, .int .i64 x.align, .slice ba nb bc, .int .i64 x.size, .slice fa nf fc] 69)).alloc (.cells secZero 69)).alloc (.cells #[.string x.name, .int .i64 x.kind, .int .i64 x.align, .slice ba nb bc, .int .i64 x.size, .slice fa nf fc] 69)) #[] (e := 5) (size := 1) (base := w.heap.size + 3) 0 (by simp) (Nat.zero_le _) rfl
    simpa using this
  have HL3 := Lib.hid hl
  clear hr hc hl
  go_enter Try.func173, Try.ntmps173
  go_wp2_with (at_builtin; refine wpList_append_src rfl (.tmp 5) (.tmp 7) 22 22 rfl (w.heap.size + 3) 5 b0 _ 1 1 Try.underlying22 hb0 hp0 hp1 hp2 rfl (by decide) _ _ _ rfl HL3.out _ x.bytes.length (bvs x.bytes) rfl (src_reads Try.underlying22 (HBY.out.below (Nat.le_refl _) HF3.out.below) (bvs_one _)) ?c1 ?c2 ?c3 ?_)
  case c1 => unfold maxLen; rw [HNB.out]; omega
  case c2 => rw [HNB.out]; omega
  case c3 => simp
  intro v1 w4 hown hgr
  try rw [Nat.zero_add] at hown
  try rw [List.nil_append] at hown
  have hown1 : OwnB w4 (w.heap.size + 3) v1 x.bytes := hown
  obtain ⟨g1, g2, rfl⟩ := owns_form hown1
  have hlB : ∀ k, (Value.slice (some ⟨w.heap.size + 3, 0, none⟩) 0 0).ownBlock = some k → w.heap.size + 3 ≤ k := fun k hk => by simp [Value.ownBlock] at hk; omega
  have HF4 := Lib.hid (From.grown HF3.out hgr (fun k hk => by have := hlB k hk; omega))
  have HA4 := Lib.hid (Blk.grown HA3.out hgr (fun e => by have := hlB _ e.symm; omega))
  have HR4 := Lib.hid (Blk.grown HR3.out hgr (fun e => by have := hlB _ e.symm; omega))
  have HC4 := Lib.hid (Blk.grown HC3.out hgr (fun e => by have := hlB _ e.symm; omega))
  have HO4 := Lib.hid hown1
  have cC := HC4.out.cell
  have fC := HC4.out.frozen
  have zC := HC4.out.lt
  have cA := HA4.out.cell
  have zA := HA4.out.lt
  clear hown hown1 hgr hlB HF3 HA3 HR3 HC3 HL3
  have HF5 := Lib.hid (((HF4.out.setCell (p := ⟨w.heap.size + 2, 3, none⟩) (by show _ ≤ w.heap.size + 2; omega) (.slice g1 x.bytes.length g2))).alloc (.cells #[] 80))
  have HA5 := Lib.hid ((HA4.out.other (p := ⟨w.heap.size + 2, 3, none⟩) (by show w.heap.size + 2 ≠ _; omega) (.slice g1 x.bytes.length g2)).alloc (.cells #[] 80))
  have HR5 := Lib.hid ((HR4.out.other (p := ⟨w.heap.size + 2, 3, none⟩) (by show w.heap.size + 2 ≠ _; omega) (.slice g1 x.bytes.length g2)).alloc (.cells #[] 80))
  have hc5 : Blk (w4.setCell ⟨w.heap.size + 2, 3, none⟩ (.slice g1 x.bytes.length g2)) (w.heap.size + 2) #[.string x.name, .int .i64 x.kind, .int .i64 x.align, .slice g1 x.bytes.length g2, .int .i64 x.size, .slice fa nf fc] 69 := by
    have := HC4.out.set (o := 3) (.slice g1 x.bytes.length g2)
    simpa using this
  have HC5 := Lib.hid (hc5.alloc (.cells #[] 80))
  have HO5 : Hid (OwnB ((w4.setCell ⟨w.heap.size + 2, 3, none⟩ (.slice g1 x.bytes.length g2)).alloc (.cells #[] 80)) (w.heap.size + 3) (.slice g1 x.bytes.length g2) x.bytes) := World.ownsRow.alloc (ownsRow_setCell_below HO4.out (a := ⟨w.heap.size + 2, 3, none⟩) (Nat.lt_succ_self _) _) _
  have hs5 : (w4.setCell ⟨w.heap.size + 2, 3, none⟩ (.slice g1 x.bytes.length g2)).heap.size = w4.heap.size := by simp [World.setCell]
  have hl5 : ((w4.setCell ⟨w.heap.size + 2, 3, none⟩ (.slice g1 x.bytes.length g2)).alloc (.cells #[] 80)).ownsRow (w.heap.size + 3) 80 4 (.slice (some ⟨w4.heap.size, 0, none⟩) 0 0) 0 [] := by
    have := World.ownsRow_lit (w4.setCell ⟨w.heap.size + 2, 3, none⟩ (.slice g1 x.bytes.length g2)) #[] (e := 80) (size := 4) (base := w.heap.size + 3) 0 (by rw [hs5]; omega) (Nat.zero_le _) rfl
    rw [hs5] at this
    exact this
  have HL5 := Lib.hid hl5
  clear hc5 hl5 hs5 HF4 HA4 HR4 HC4 HO4
  go_wp2_with (at_builtin; refine wpList_append_src rfl (.tmp 10) (.tmp 12) 67 67 rfl (w.heap.size + 3) 80 f0 _ 4 32 Try.underlying67 hf0 hq0 hq1 hq2 rfl (by decide) _ _ _ rfl HL5.out _ x.fix.length (fixCells x.fix) rfl (src_reads Try.underlying67 (HFI.out.below (Nat.le_refl _) HF5.out.below) (fix_one _)) ?c1 ?c2 ?c3 ?_)
  case c1 => unfold maxLen; rw [HNF.out]; omega
  case c2 => rw [HNF.out]; omega
  case c3 => exact HC5.out.lt
  intro v2 w6 hown hgr
  try rw [Nat.zero_add] at hown
  try rw [List.nil_append] at hown
  have hown2 : OwnF w6 (w.heap.size + 3) v2 x.fix := hown
  obtain ⟨q1, q2, rfl⟩ := owns_form hown2
  have hlB : ∀ k, (Value.slice (some ⟨w4.heap.size, 0, none⟩) 0 0).ownBlock = some k → w.heap.size + 3 ≤ k := fun k hk => by simp [Value.ownBlock] at hk; omega
  have HF6 := Lib.hid (From.grown HF5.out hgr (fun k hk => by have := hlB k hk; omega))
  have HR6 := Lib.hid (Blk.grown HR5.out hgr (fun e => by have := hlB _ e.symm; omega))
  have hC6 := Blk.grown HC5.out hgr (fun e => by have := hlB _ e.symm; omega)
  have HO6 : Hid (OwnB w6 (w.heap.size + 3) (.slice g1 x.bytes.length g2) x.bytes) := owns_keptNe HO5.out HL5.out (by decide) hgr
  have HP6 := Lib.hid hown2
  have cC := hC6.cell
  have fC := hC6.frozen
  have zC := hC6.lt
  have hc7 : Blk (w6.setCell ⟨w.heap.size + 2, 5, none⟩ (.slice q1 x.fix.length q2)) (w.heap.size + 2) #[.string x.name, .int .i64 x.kind, .int .i64 x.align, .slice g1 x.bytes.length g2, .int .i64 x.size, .slice q1 x.fix.length q2] 69 := by
    have := hC6.set (o := 5) (.slice q1 x.fix.length q2)
    simpa using this
  have HC7 := Lib.hid hc7
  have HR7 := Lib.hid (HR6.out.other (p := ⟨w.heap.size + 2, 5, none⟩) (by show w.heap.size + 2 ≠ _; omega) (.slice q1 x.fix.length q2))
  have HF7 := Lib.hid (HF6.out.setCell (p := ⟨w.heap.size + 2, 5, none⟩) (by show _ ≤ w.heap.size + 2; omega) (.slice q1 x.fix.length q2))
  have HO7 : Hid (OwnB (w6.setCell ⟨w.heap.size + 2, 5, none⟩ (.slice q1 x.fix.length q2)) (w.heap.size + 3) (.slice g1 x.bytes.length g2) x.bytes) := ownsRow_setCell_below HO6.out (a := ⟨w.heap.size + 2, 5, none⟩) (Nat.lt_succ_self _) _
  have HP7 : Hid (OwnF (w6.setCell ⟨w.heap.size + 2, 5, none⟩ (.slice q1 x.fix.length q2)) (w.heap.size + 3) (.slice q1 x.fix.length q2) x.fix) := ownsRow_setCell_below HP6.out (a := ⟨w.heap.size + 2, 5, none⟩) (Nat.lt_succ_self _) _
  have c7 := HC7.out.cell
  have z7 := HC7.out.lt
  have cR := HR7.out.cell
  have fR := HR7.out.frozen
  have zR := HR7.out.lt
  clear hown hown2 hgr hlB hC6 hc7 HF5 HA5 HR5 HC5 HO5 HL5 HF6 HR6 HO6 HP6 cA zA
  go_wp2_with fail
  refine bodyPost_ret (v := .agg #[.string x.name, .int .i64 x.kind, .int .i64 x.align, .slice g1 x.bytes.length g2, .int .i64 x.size, .slice q1 x.fix.length q2]) (by simp [results, Try.results173, go_sem, cR, zR]) rfl ⟨_, _, rfl, ?_, ?_, ?_⟩
  · have q : w.heap.size + 1 < w.heap.size + 3 := by omega
    exact owns_mono (ownsRow_setCell_below (ownsRow_setCell_below (ownsRow_setCell_below (ownsRow_setCell_below (ownsRow_setCell_below (ownsRow_setCell_below HO7.out (a := ⟨w.heap.size + 1, 0, none⟩) q _) (a := ⟨w.heap.size + 1, 1, none⟩) q _) (a := ⟨w.heap.size + 1, 2, none⟩) q _) (a := ⟨w.heap.size + 1, 3, none⟩) q _) (a := ⟨w.heap.size + 1, 4, none⟩) q _) (a := ⟨w.heap.size + 1, 5, none⟩) q _) (by omega)
  · have q : w.heap.size + 1 < w.heap.size + 3 := by omega
    exact owns_mono (ownsRow_setCell_below (ownsRow_setCell_below (ownsRow_setCell_below (ownsRow_setCell_below (ownsRow_setCell_below (ownsRow_setCell_below HP7.out (a := ⟨w.heap.size + 1, 0, none⟩) q _) (a := ⟨w.heap.size + 1, 1, none⟩) q _) (a := ⟨w.heap.size + 1, 2, none⟩) q _) (a := ⟨w.heap.size + 1, 3, none⟩) q _) (a := ⟨w.heap.size + 1, 4, none⟩) q _) (a := ⟨w.heap.size + 1, 5, none⟩) q _) (by omega)
  · exact ((((((HF7.out.setCell (p := ⟨w.heap.size + 1, 0, none⟩) (Nat.le_succ _) _).setCell (p := ⟨w.heap.size + 1, 1, none⟩) (Nat.le_succ _) _).setCell (p := ⟨w.heap.size + 1, 2, none⟩) (Nat.le_succ _) _).setCell (p := ⟨w.heap.size + 1, 3, none⟩) (Nat.le_succ _) _).setCell (p := ⟨w.heap.size + 1, 4, none⟩) (Nat.le_succ _) _).setCell (p := ⟨w.heap.size + 1, 5, none⟩) (Nat.le_succ _) _).below
set_option maxHeartbeats 4000000 in
theorem s_l1OwnSectionList (w : World) (v : Value) (l : List SecD) (h : SecsAt w v l) (hl : l.length ≤ 1048576) (hb : ∀ s ∈ l, s.bytes.length ≤ 1073741824 ∧ s.fix.length ≤ 1073741824) :
    Calls Try.prog 148 #[v] w (RetSecs w l) := by
  obtain ⟨a, cap, rfl, hcap, hmax, hnone, hcell⟩ := h.form
  obtain ⟨j0, hj0, hy0, hy1, hy2⟩ := info_parts info_sec
  have HC := Lib.hid hcell
  have HB := Lib.hid hb
  clear h hcell hnone hb
  unfold maxLen at hmax
  have HO0 : Hid (OwnSecs (w.alloc (.cells #[] 69)) w.heap.size (.slice (some ⟨w.heap.size, 0, none⟩) 0 0) []) := ⟨World.ownsRow_lit w #[] 0 (Nat.le_refl _) (Nat.zero_le _) rfl, (fun x hx => by cases hx), by simp [blksOf, Value.ownBlock]⟩
  go_enter Try.func148, Try.ntmps148
  go_wp2_with fail
  go_loopw [3, 4] (fun out i wr => ∃ (k : Nat) (ls : List (SecD × Value × Value)) (va : Option Addr) (vc : Nat), k ≤ l.length ∧ i = .int .i64 k ∧ out = .slice va ls.length vc ∧ Hid (l.take k = ls.map (·.1)) ∧ Hid (OwnSecs wr w.heap.size (.slice va ls.length vc) ls) ∧ Hid (From w.heap.size w wr)) (fun _ i _ => l.length - (intOf i).toNat)
  case atStart => exact ⟨0, [], _, _, Nat.zero_le _, rfl, rfl, (by show _ = _; simp), HO0, (From.start w).alloc _⟩
  case round =>
    clear HO0
    obtain ⟨k, ls, va, vc, hk, rfl, rfl, HL, HO, HF⟩ := hrel
    by_cases hlt : k < l.length
    · obtain ⟨b, off, rfl, hc⟩ := HC.out (by omega)
      obtain ⟨vb, vf, hb, hf, c0, c1, c2, c3, c4, c5⟩ := hc k hlt
      have hbl : b < w.heap.size := World.block_lt_of_cell? w _ c0
      have g0 := (HF.out.below.cell (p := ⟨b, off + k * 6, none⟩) hbl).trans c0
      have g1 := (HF.out.below.cell (p := ⟨b, off + k * 6 + 1, none⟩) hbl).trans c1
      have g2 := (HF.out.below.cell (p := ⟨b, off + k * 6 + 2, none⟩) hbl).trans c2
      have g3 := (HF.out.below.cell (p := ⟨b, off + k * 6 + 3, none⟩) hbl).trans c3
      have g4 := (HF.out.below.cell (p := ⟨b, off + k * 6 + 4, none⟩) hbl).trans c4
      have g5 := (HF.out.below.cell (p := ⟨b, off + k * 6 + 5, none⟩) hbl).trans c5
      have i1 : (k : Int) < (l.length : Int) := by omega
      have i3 : (0 : Int) ≤ (k : Int) := by omega
      obtain ⟨ba, bc, rfl, -⟩ := hb.form
      obtain ⟨fa, fc, rfl, -⟩ := hf.form
      have HSX : Hid (SecAt wr (secV l[k] (.slice ba l[k].bytes.length bc) (.slice fa l[k].fix.length fc)) l[k]) := ⟨_, _, rfl, hb.below (Nat.le_refl _) HF.out.below, hf.below (Nat.le_refl _) HF.out.below⟩
      have HT : Hid (l.take (k + 1) = ls.map (·.1) ++ [l[k]]) := by show _ = _; rw [List.take_succ_eq_append_getElem hlt, HL.out]
      have HBk := Lib.hid (HB.out l[k] (List.getElem_mem hlt))
      have hlsl : ls.length ≤ k := by have := congrArg List.length HL.out; simp at this; omega
      clear hc c0 c1 c2 c3 c4 c5 hb hf HL
      generalize l[k] = x at *
      go_wp2_with fail
      refine (s_l1OwnSection wr _ x HSX.out HBk.out.1 HBk.out.2).mono ?_
      rintro e w2 ⟨vb2, vf2, rfl, ob, of, h2⟩
      obtain ⟨g1', g2', rfl⟩ := owns_form ob
      obtain ⟨q1', q2', rfl⟩ := owns_form of
      have HLT := Lib.hid HO.out.lt
      have HO2 := Lib.hid (HO.out.call h2)
      have HF2 := Lib.hid (HF.out.call h2)
      have hne := owns_ne ob of (by decide)
      have HBb := Lib.hid ob
      have HFf := Lib.hid of
      have HNE := Lib.hid hne
      have z2 : wr.heap.size ≤ w2.heap.size := h2.size
      have zr : w.heap.size ≤ wr.heap.size := HF.out.le
      clear ob of h2 hne HO HF HSX g0 g1 g2 g3 g4 g5
      go_wp2_with (at_builtin; refine wpList_append_own rfl (.tmp 12) (.tmp 18) 23 23 rfl w.heap.size 69 j0 _ 6 88 Try.underlying23 hj0 hy0 hy1 hy2 rfl (by decide) _ _ _ rfl (World.ownsRow.alloc HO2.out.row _) _ 1 [_, _, _, _, _, _] rfl (src_new Try.underlying23 _ [_, _, _, _, _, _] 6 1 1 _ rfl ?c0) ?c1 ?c2 ?c3 ?_)
      case c0 =>
        intro u hu
        simp only [List.mem_cons, List.not_mem_nil, or_false] at hu
        rcases hu with rfl | rfl | rfl | rfl | rfl | rfl <;> rfl
      case c1 => unfold maxLen; omega
      case c2 => omega
      case c3 => first | omega | (simp; omega)
      intro v' w4 hown hgr hpl
      obtain ⟨ls2, hls2⟩ : ∃ ls2, ls ++ [(x, Value.slice g1' x.bytes.length g2', Value.slice q1' x.fix.length q2')] = ls2 := ⟨_, rfl⟩
      have hsn := (HO2.out.alloc (.cells #[.string x.name, .int .i64 x.kind, .int .i64 x.align, .slice g1' x.bytes.length g2', .int .i64 x.size, .slice q1' x.fix.length q2'] 69)).snoc (m := wr.heap.size) (x := (x, .slice g1' x.bytes.length g2', .slice q1' x.fix.length q2')) (fun k hk => (HLT.out k hk).2) zr (World.ownsRow.alloc HBb.out _) (World.ownsRow.alloc HFf.out _) HNE.out hgr hown (by first | exact hpl | simpa using hpl)
      have hlen2 : ls.length + 1 = ls2.length := by rw [← hls2, List.length_append]; rfl
      have hown2 := hown
      rw [hlen2] at hown2
      obtain ⟨va2, vc2, rfl⟩ := owns_form hown2
      rw [hls2] at hsn
      have HSN := Lib.hid hsn
      have HF4 := Lib.hid (From.grown (HF2.out.alloc (.cells #[.string x.name, .int .i64 x.kind, .int .i64 x.align, .slice g1' x.bytes.length g2', .int .i64 x.size, .slice q1' x.fix.length q2'] 69)) hgr (fun k hk => owns_block HO2.out.row k hk))
      have HL2 : Hid (l.take (k + 1) = ls2.map (·.1)) := by show _ = _; rw [HT.out, ← hls2, List.map_append]; rfl
      clear hown hown2 hgr hpl hsn hls2 HO2 HF2 HBb HFf HNE HLT HBk HT
      go_wp2_with fail
      go_roundw
      case rel => exact ⟨k + 1, ls2, va2, vc2, by omega, by go_num, rfl, HL2, HSN, HF4⟩
      case measure => simp [intOf]; try omega
    · obtain rfl : k = l.length := by omega
      go_wp2_with fail
      go_ret
      exact ⟨_, ls, rfl, by rw [← HL.out, List.take_length], HO.out, HF.out.below⟩
set_option maxHeartbeats 4000000 in
theorem s_l1OwnObject (w : World) (v : Value) (o : ObjD) (h : ObjAt w v o) (hf : FewObj o) :
    Calls Try.prog 89 #[v] w fun e w' => ∃ r, e = .returned r ∧ OwnObj w' w.heap.size r o ∧ Below w.heap.size w w' := by
  obtain ⟨k0, hk0, hu0, hu1, hu2⟩ := info_parts info_sym
  obtain ⟨vs, vy, rfl, h1, h2⟩ := h
  have HS := Lib.hid h1
  have HY := Lib.hid h2
  obtain ⟨sa, sc, rfl, -⟩ := h1.form
  obtain ⟨ya, yc, rfl, -⟩ := h2.form
  have HFew := Lib.hid hf
  have hl2 := hf.2.1
  clear h1 h2 hf
  obtain ⟨n1, hn1⟩ : ∃ n1, o.secs.length = n1 := ⟨_, rfl⟩
  obtain ⟨n2, hn2⟩ : ∃ n2, o.syms.length = n2 := ⟨_, rfl⟩
  have HN1 := Lib.hid hn1
  have HN2 := Lib.hid hn2
  rw [hn1] at HS ⊢
  rw [hn2] at HY hl2 ⊢
  clear hn1 hn2
  have HF3 := Lib.hid ((((From.start w).alloc (.cells #[.slice sa n1 sc, .slice ya n2 yc] 26)).alloc (.cells #[.slice none 0 0, .slice none 0 0] 26)).alloc (.cells #[.slice sa n1 sc, .slice ya n2 yc] 26))
  have HA3 := Lib.hid (((Blk.new w #[.slice sa n1 sc, .slice ya n2 yc] 26).alloc (.cells #[.slice none 0 0, .slice none 0 0] 26)).alloc (.cells #[.slice sa n1 sc, .slice ya n2 yc] 26))
  have hr : Blk ((w.alloc (.cells #[.slice sa n1 sc, .slice ya n2 yc] 26)).alloc (.cells #[.slice none 0 0, .slice none 0 0] 26)) (w.heap.size + 1) #[.slice none 0 0, .slice none 0 0] 26 := Blk.newAt _ _ _ _ (by simp)
  have HR3 := Lib.hid (hr.alloc (.cells #[.slice sa n1 sc, .slice ya n2 yc] 26))
  have hc : Blk (((w.alloc (.cells #[.slice sa n1 sc, .slice ya n2 yc] 26)).alloc (.cells #[.slice none 0 0, .slice none 0 0] 26)).alloc (.cells #[.slice sa n1 sc, .slice ya n2 yc] 26)) (w.heap.size + 2) #[.slice sa n1 sc, .slice ya n2 yc] 26 := Blk.newAt _ _ _ _ (by simp)
  have HC3 := Lib.hid hc
  have hz : (((w.alloc (.cells #[.slice sa n1 sc, .slice ya n2 yc] 26)).alloc (.cells #[.slice none 0 0, .slice none 0 0] 26)).alloc (.cells #[.slice sa n1 sc, .slice ya n2 yc] 26)).heap.size = w.heap.size + 3 := by simp
  clear hr hc
  go_enter Try.func89, Try.ntmps89
  go_wp2_with fail
  generalize hw3 : ((w.alloc (.cells #[.slice sa n1 sc, .slice ya n2 yc] 26)).alloc (.cells #[.slice none 0 0, .slice none 0 0] 26)).alloc (.cells #[.slice sa n1 sc, .slice ya n2 yc] 26) = w3 at *
  clear hw3
  have e2 : w.heap.size + 1 + 1 = w.heap.size + 2 := rfl
  try simp only [e2]
  obtain ⟨X, hX⟩ : ∃ X, w.heap.size + 2 = X := ⟨_, rfl⟩
  have hXw : w.heap.size + 1 < X := by omega
  have hX3 : w3.heap.size = X + 1 := by omega
  try simp only [hX] at HC3 ⊢
  clear hX hz e2
  refine (s_l1OwnSectionList w3 _ o.secs (HS.out.below (Nat.le_refl _) HF3.out.below) HFew.out.1 HFew.out.2.2).mono ?_
  rintro e w4 ⟨r, ls, rfl, hse, hS, k4⟩
  obtain ⟨pa, pc, rfl⟩ := owns_form hS.row
  have HSE := Lib.hid hse
  have HS4 := Lib.hid hS
  have HF4 := Lib.hid (HF3.out.call k4)
  have HA4 := Lib.hid (HA3.out.call k4)
  have HR4 := Lib.hid (HR3.out.call k4)
  have HC4 := Lib.hid (HC3.out.call k4)
  have cC := HC4.out.cell
  have fC := HC4.out.frozen
  have zC := HC4.out.lt
  have cA := HA4.out.cell
  have zA := HA4.out.lt
  have z34 : X + 1 ≤ w4.heap.size := by have := k4.size; omega
  obtain ⟨m1, hm1⟩ : ∃ m1, ls.length = m1 := ⟨_, rfl⟩
  have HM1 := Lib.hid hm1
  rw [hm1] at HS4 ⊢
  clear hm1 hse hS k4 HF3 HA3 HR3 HC3
  have HF5 := Lib.hid ((HF4.out.setCell (p := ⟨X, 0, none⟩) (by show _ ≤ X; omega) (.slice pa m1 pc)).alloc (.cells #[] 78))
  have HA5 := Lib.hid ((HA4.out.other (p := ⟨X, 0, none⟩) (by show X ≠ _; omega) (.slice pa m1 pc)).alloc (.cells #[] 78))
  have HR5 := Lib.hid ((HR4.out.other (p := ⟨X, 0, none⟩) (by show X ≠ _; omega) (.slice pa m1 pc)).alloc (.cells #[] 78))
  have hc5 : Blk (w4.setCell ⟨X, 0, none⟩ (.slice pa m1 pc)) X #[.slice pa m1 pc, .slice ya n2 yc] 26 := by
    have := HC4.out.set (o := 0) (.slice pa m1 pc)
    simpa using this
  have HC5 := Lib.hid (hc5.alloc (.cells #[] 78))
  have HS5 : Hid (OwnSecs ((w4.setCell ⟨X, 0, none⟩ (.slice pa m1 pc)).alloc (.cells #[] 78)) (X + 1) (.slice pa m1 pc) ls) := ((HS4.out.mono (show X + 1 ≤ w3.heap.size by omega)).setBelow (a := ⟨X, 0, none⟩) (Nat.lt_succ_self _) _).alloc _
  have hs5 : (w4.setCell ⟨X, 0, none⟩ (.slice pa m1 pc)).heap.size = w4.heap.size := by simp [World.setCell]
  have hl5 : ((w4.setCell ⟨X, 0, none⟩ (.slice pa m1 pc)).alloc (.cells #[] 78)).ownsRow (X + 1) 78 4 (.slice (some ⟨w4.heap.size, 0, none⟩) 0 0) 0 [] := by
    have := World.ownsRow_lit (w4.setCell ⟨X, 0, none⟩ (.slice pa m1 pc)) #[] (e := 78) (size := 4) (base := X + 1) 0 (by rw [hs5]; omega) (Nat.zero_le _) rfl
    rw [hs5] at this
    exact this
  have HL5 := Lib.hid hl5
  clear hc5 hl5 hs5 HF4 HA4 HR4 HC4 HS4
  go_wp2_with (at_builtin; refine wpList_append_src rfl (.tmp 9) (.tmp 11) 24 24 rfl (X + 1) 78 k0 _ 4 40 Try.underlying24 hk0 hu0 hu1 hu2 rfl (by decide) _ _ _ rfl HL5.out _ o.syms.length (o.syms.flatMap symL) rfl (src_reads Try.underlying24 (HY.out.below (Nat.le_refl _) HF5.out.below) (syms_one o.syms)) ?c1 ?c2 ?c3 ?_)
  case c1 => unfold maxLen; rw [HN2.out]; omega
  case c2 => rw [HN2.out]; omega
  case c3 => exact HC5.out.lt
  intro v2 w6 hown hgr
  try rw [Nat.zero_add] at hown
  try rw [List.nil_append] at hown
  have hown2 : OwnSyms w6 (X + 1) v2 o.syms := hown
  obtain ⟨q1, q2, rfl⟩ := owns_form hown2
  have hlB : ∀ k, (Value.slice (some ⟨w4.heap.size, 0, none⟩) 0 0).ownBlock = some k → X + 1 ≤ k := fun k hk => by simp [Value.ownBlock] at hk; omega
  have HF6 := Lib.hid (From.grown HF5.out hgr (fun k hk => by have := hlB k hk; omega))
  have HR6 := Lib.hid (Blk.grown HR5.out hgr (fun e => by have := hlB _ e.symm; omega))
  have hC6 := Blk.grown HC5.out hgr (fun e => by have := hlB _ e.symm; omega)
  have HS6 : Hid (OwnSecs w6 (X + 1) (.slice pa m1 pc) ls) := OwnSecs.keptNe HS5.out HL5.out (by decide) (by decide) (by decide) hgr
  have cC := hC6.cell
  have fC := hC6.frozen
  have zC := hC6.lt
  obtain ⟨m2, hm2⟩ : ∃ m2, o.syms.length = m2 := ⟨_, rfl⟩
  rw [hm2] at hown2 ⊢
  have HM2 := Lib.hid hm2
  have hc7 : Blk (w6.setCell ⟨X, 1, none⟩ (.slice q1 m2 q2)) X #[.slice pa m1 pc, .slice q1 m2 q2] 26 := by
    have := hC6.set (o := 1) (.slice q1 m2 q2)
    simpa using this
  have HR7 := Lib.hid (HR6.out.other (p := ⟨X, 1, none⟩) (by show X ≠ _; omega) (.slice q1 m2 q2))
  have HF7 := Lib.hid (HF6.out.setCell (p := ⟨X, 1, none⟩) (by show _ ≤ X; omega) (.slice q1 m2 q2))
  have HS7 := Lib.hid (HS6.out.setBelow (a := ⟨X, 1, none⟩) (Nat.lt_succ_self _) (.slice q1 m2 q2))
  have HY7 : Hid (OwnSyms (w6.setCell ⟨X, 1, none⟩ (.slice q1 m2 q2)) (X + 1) (.slice q1 m2 q2) o.syms) := ownsRow_setCell_below hown2 (a := ⟨X, 1, none⟩) (Nat.lt_succ_self _) _
  have c7 := hc7.cell
  have z7 := hc7.lt
  have cR := HR7.out.cell
  have fR := HR7.out.frozen
  have zR := HR7.out.lt
  have hne : X ≠ w.heap.size + 1 := by omega
  clear hown hown2 hgr hlB hC6 hc7 HF5 HA5 HR5 HC5 HS5 HL5 HF6 HR6 HS6 cA zA hm2
  go_wp2_with fail
  have qb : w.heap.size + 1 < X + 1 := by omega
  refine bodyPost_ret (v := .agg #[.slice pa m1 pc, .slice q1 m2 q2]) (by simp [results, Try.results89, go_sem, cR, zR]) rfl ⟨_, rfl, ⟨_, _, ls, rfl, HSE.out, ?_, ?_, ?_⟩, ?_⟩
  · exact ((HS7.out.setBelow (a := ⟨w.heap.size + 1, 0, none⟩) qb _).setBelow (a := ⟨w.heap.size + 1, 1, none⟩) qb _).mono (show w.heap.size ≤ X + 1 by omega)
  · have h := ownsRow_setCell_below (ownsRow_setCell_below HY7.out (a := ⟨w.heap.size + 1, 0, none⟩) qb (.slice pa m1 pc)) (a := ⟨w.heap.size + 1, 1, none⟩) qb (.slice q1 m2 q2)
    rw [HM2.out] at h
    unfold OwnSyms
    rw [HM2.out]
    exact owns_mono h (show w.heap.size ≤ X + 1 by omega)
  · exact secs_row_ne HS7.out HY7.out (by decide) (by decide) (by decide)
  · exact ((HF7.out.setCell (p := ⟨w.heap.size + 1, 0, none⟩) (Nat.le_succ _) (.slice pa m1 pc)).setCell (p := ⟨w.heap.size + 1, 1, none⟩) (Nat.le_succ _) (.slice q1 m2 q2)).below
end Go.Proofs.Ythccjimckjecjaa
