/- Objects with some of their symbols: the reference. Objects with some of their symbols: the reference's functions. Objects stripped: the reference. -/
import Derived.Test.YthccjimckjecjaaCopyS
import Derived.Test.YthccjimckjecjaaKeepI
import Derived.Test.YthccjimckjecjaaObjValS
import Derived.Test.YthccjimckjecjaaBools
namespace Go.Proofs.Ythccjimckjecjaa
/-! OwnS -/
open Go.ChangeShapes Go.WideShapes Go.ChangeAt Go.RowKit Go.Joins
set_option linter.unusedSimpArgs false
set_option linter.unusedVariables false
set_option maxRecDepth 100000
set_option maxHeartbeats 4000000 in
theorem s_l1OwnSection (w : World) (v : Value) (x : SecD) (h : SecAt w v x) (h1 : x.bytes.length ≤ 1073741824) (h2 : x.fix.length ≤ 1073741824) :
    Calls Try.prog 173 #[v] w fun e w' => ∃ vb vf, e = .returned (secV x vb vf) ∧ OwnB w' w.heap.size vb x.bytes ∧ OwnF w' w.heap.size vf x.fix ∧ Below w.heap.size w w' := by
  obtain ⟨vb, vf, rfl, hb, hf⟩ := h
  obtain ⟨b0, hb0, hp0, hp1, hp2⟩ := info_parts info_u8
  obtain ⟨f0, hf0, hq0, hq1, hq2⟩ := info_parts info_fix
  obtain ⟨ba, bc, rfl, -⟩ := hb.form
  obtain ⟨fa, fc, rfl, -⟩ := hf.form
  have HBY := Lib.hid hb
  have HFI := Lib.hid hf
  clear hb hf
  obtain ⟨nb, hnb⟩ : ∃ nb, x.bytes.length = nb := ⟨_, rfl⟩
  obtain ⟨nf, hnf⟩ : ∃ nf, x.fix.length = nf := ⟨_, rfl⟩
  have HNB := Lib.hid hnb
  have HNF := Lib.hid hnf
  unfold secV
  rw [hnb] at h1 HBY ⊢
  rw [hnf] at h2 HFI ⊢
  clear hnb hnf
  have HF3 := Lib.hid (((((From.start w).alloc (.cells #[.string x.name, .int .i64 x.kind, .int .i64 x.align, .slice ba nb bc, .int .i64 x.size, .slice fa nf fc] 69)).alloc (.cells secZero 69)).alloc (.cells #[.string x.name, .int .i64 x.kind, .int .i64 x.align, .slice ba nb bc, .int .i64 x.size, .slice fa nf fc] 69)).alloc (.cells #[] 5))
  have HA3 := Lib.hid ((((Blk.new w #[.string x.name, .int .i64 x.kind, .int .i64 x.align, .slice ba nb bc, .int .i64 x.size, .slice fa nf fc] 69).alloc (.cells secZero 69)).alloc (.cells #[.string x.name, .int .i64 x.kind, .int .i64 x.align, .slice ba nb bc, .int .i64 x.size, .slice fa nf fc] 69)).alloc (.cells #[] 5))
  have hr : Blk ((w.alloc (.cells #[.string x.name, .int .i64 x.kind, .int .i64 x.align, .slice ba nb bc, .int .i64 x.size, .slice fa nf fc] 69)).alloc (.cells secZero 69)) (w.heap.size + 1) secZero 69 := Blk.newAt _ _ _ _ (by simp)
  have HR3 := Lib.hid ((hr.alloc (.cells #[.string x.name, .int .i64 x.kind, .int .i64 x.align, .slice ba nb bc, .int .i64 x.size, .slice fa nf fc] 69)).alloc (.cells #[] 5))
  have hc : Blk (((w.alloc (.cells #[.string x.name, .int .i64 x.kind, .int .i64 x.align, .slice ba nb bc, .int .i64 x.size, .slice fa nf fc] 69)).alloc (.cells secZero 69)).alloc (.cells #[.string x.name, .int .i64 x.kind, .int .i64 x.align, .slice ba nb bc, .int .i64 x.size, .slice fa nf fc] 69)) (w.heap.size + 2) #[.string x.name, .int .i64 x.kind, .int .i64 x.align, .slice ba nb bc, .int .i64 x.size, .slice fa nf fc] 69 := Blk.newAt _ _ _ _ (by simp)
  have HC3 := Lib.hid (hc.alloc (.cells #[] 5))
  have hl : ((((w.alloc (.cells #[.string x.name, .int .i64 x.kind, .int .i64 x.align, .slice ba nb bc, .int .i64 x.size, .slice fa nf fc] 69)).alloc (.cells secZero 69)).alloc (.cells #[.string x.name, .int .i64 x.kind, .int .i64 x.align, .slice ba nb bc, .int .i64 x.size, .slice fa nf fc] 69)).alloc (.cells #[] 5)).ownsRow (w.heap.size + 3) 5 1 (.slice (some ⟨w.heap.size + 3, 0, none⟩) 0 0) 0 [] := by
    have := World.ownsRow_lit (((w.alloc (.cells #[.string x.name, .int .i64 x.kind, .int .i64 x.align, .slice ba nb bc, .int .i64 x.size, .slice fa nf fc] 69)).alloc (.cells secZero 69)).alloc (.cells #[.string x.name, .int .i64 x.kind, .int .i64 x.align, .slice ba nb bc, .int .i64 x.size, .slice fa nf fc] 69)) #[] (e := 5) (size := 1) (base := w.heap.size + 3) 0 (by simp) (Nat.zero_le _) rfl
    simpa using this
  have HL3 := Lib.hid hl
  clear hr hc hl
  go_enter Try.func173, Try.ntmps173
  go_wp2_with (at_builtin; refine wpList_append_src rfl (.tmp 5) (.tmp 7) 22 22 rfl (w.heap.size + 3) 5 b0 _ 1 1 Try.underlying22 hb0 hp0 hp1 hp2 rfl (by decide) _ _ _ rfl HL3.out _ x.bytes.length (bvs x.bytes) rfl (src_reads Try.underlying22 (HBY.out.below (Nat.le_refl _) HF3.out.below) (bvs_one _)) ?c1 ?c2 ?c3 ?_)
  case c1 => unfold maxLen; rw [HNB.out]; omega
  case c2 => rw [HNB.out]; omega
  case c3 => simp
  intro v1 w4 hown hgr
  try rw [Nat.zero_add] at hown
  try rw [List.nil_append] at hown
  have hown1 : OwnB w4 (w.heap.size + 3) v1 x.bytes := hown
  obtain ⟨g1, g2, rfl⟩ := owns_form hown1
  have hlB : ∀ k, (Value.slice (some ⟨w.heap.size + 3, 0, none⟩) 0 0).ownBlock = some k → w.heap.size + 3 ≤ k := fun k hk => by simp [Value.ownBlock] at hk; omega
  have HF4 := Lib.hid (From.grown HF3.out hgr (fun k hk => by have := hlB k hk; omega))
  have HA4 := Lib.hid (Blk.grown HA3.out hgr (fun e => by have := hlB _ e.symm; omega))
  have HR4 := Lib.hid (Blk.grown HR3.out hgr (fun e => by have := hlB _ e.symm; omega))
  have HC4 := Lib.hid (Blk.grown HC3.out hgr (fun e => by have := hlB _ e.symm; omega))
  have HO4 := Lib.hid hown1
  have cC := HC4.out.cell
  have fC := HC4.out.frozen
  have zC := HC4.out.lt
  have cA := HA4.out.cell
  have zA := HA4.out.lt
  clear hown hown1 hgr hlB HF3 HA3 HR3 HC3 HL3
  have HF5 := Lib.hid (((HF4.out.setCell (p := ⟨w.heap.size + 2, 3, none⟩) (by show _ ≤ w.heap.size + 2; omega) (.slice g1 x.bytes.length g2))).alloc (.cells #[] 80))
  have HA5 := Lib.hid ((HA4.out.other (p := ⟨w.heap.size + 2, 3, none⟩) (by show w.heap.size + 2 ≠ _; omega) (.slice g1 x.bytes.length g2)).alloc (.cells #[] 80))
  have HR5 := Lib.hid ((HR4.out.other (p := ⟨w.heap.size + 2, 3, none⟩) (by show w.heap.size + 2 ≠ _; omega) (.slice g1 x.bytes.length g2)).alloc (.cells #[] 80))
  have hc5 : Blk (w4.setCell ⟨w.heap.size + 2, 3, none⟩ (.slice g1 x.bytes.length g2)) (w.heap.size + 2) #[.string x.name, .int .i64 x.kind, .int .i64 x.align, .slice g1 x.bytes.length g2, .int .i64 x.size, .slice fa nf fc] 69 := by
    have := HC4.out.set (o := 3) (.slice g1 x.bytes.length g2)
    simpa using this
  have HC5 := Lib.hid (hc5.alloc (.cells #[] 80))
  have HO5 : Hid (OwnB ((w4.setCell ⟨w.heap.size + 2, 3, none⟩ (.slice g1 x.bytes.length g2)).alloc (.cells #[] 80)) (w.heap.size + 3) (.slice g1 x.bytes.length g2) x.bytes) := World.ownsRow.alloc (ownsRow_setCell_below HO4.out (a := ⟨w.heap.size + 2, 3, none⟩) (Nat.lt_succ_self _) _) _
  have hs5 : (w4.setCell ⟨w.heap.size + 2, 3, none⟩ (.slice g1 x.bytes.length g2)).heap.size = w4.heap.size := by simp [World.setCell]
  have hl5 : ((w4.setCell ⟨w.heap.size + 2, 3, none⟩ (.slice g1 x.bytes.length g2)).alloc (.cells #[] 80)).ownsRow (w.heap.size + 3) 80 4 (.slice (some ⟨w4.heap.size, 0, none⟩) 0 0) 0 [] := by
    have := World.ownsRow_lit (w4.setCell ⟨w.heap.size + 2, 3, none⟩ (.slice g1 x.bytes.length g2)) #[] (e := 80) (size := 4) (base := w.heap.size + 3) 0 (by rw [hs5]; omega) (Nat.zero_le _) rfl
    rw [hs5] at this
    exact this
  have HL5 := Lib.hid hl5
  clear hc5 hl5 hs5 HF4 HA4 HR4 HC4 HO4
  go_wp2_with (at_builtin; refine wpList_append_src rfl (.tmp 10) (.tmp 12) 67 67 rfl (w.heap.size + 3) 80 f0 _ 4 32 Try.underlying67 hf0 hq0 hq1 hq2 rfl (by decide) _ _ _ rfl HL5.out _ x.fix.length (fixCells x.fix) rfl (src_reads Try.underlying67 (HFI.out.below (Nat.le_refl _) HF5.out.below) (fix_one _)) ?c1 ?c2 ?c3 ?_)
  case c1 => unfold maxLen; rw [HNF.out]; omega
  case c2 => rw [HNF.out]; omega
  case c3 => exact HC5.out.lt
  intro v2 w6 hown hgr
  try rw [Nat.zero_add] at hown
  try rw [List.nil_append] at hown
  have hown2 : OwnF w6 (w.heap.size + 3) v2 x.fix := hown
  obtain ⟨q1, q2, rfl⟩ := owns_form hown2
  have hlB : ∀ k, (Value.slice (some ⟨w4.heap.size, 0, none⟩) 0 0).ownBlock = some k → w.heap.size + 3 ≤ k := fun k hk => by simp [Value.ownBlock] at hk; omega
  have HF6 := Lib.hid (From.grown HF5.out hgr (fun k hk => by have := hlB k hk; omega))
  have HR6 := Lib.hid (Blk.grown HR5.out hgr (fun e => by have := hlB _ e.symm; omega))
  have hC6 := Blk.grown HC5.out hgr (fun e => by have := hlB _ e.symm; omega)
  have HO6 : Hid (OwnB w6 (w.heap.size + 3) (.slice g1 x.bytes.length g2) x.bytes) := owns_keptNe HO5.out HL5.out (by decide) hgr
  have HP6 := Lib.hid hown2
  have cC := hC6.cell
  have fC := hC6.frozen
  have zC := hC6.lt
  have hc7 : Blk (w6.setCell ⟨w.heap.size + 2, 5, none⟩ (.slice q1 x.fix.length q2)) (w.heap.size + 2) #[.string x.name, .int .i64 x.kind, .int .i64 x.align, .slice g1 x.bytes.length g2, .int .i64 x.size, .slice q1 x.fix.length q2] 69 := by
    have := hC6.set (o := 5) (.slice q1 x.fix.length q2)
    simpa using this
  have HC7 := Lib.hid hc7
  have HR7 := Lib.hid (HR6.out.other (p := ⟨w.heap.size + 2, 5, none⟩) (by show w.heap.size + 2 ≠ _; omega) (.slice q1 x.fix.length q2))
  have HF7 := Lib.hid (HF6.out.setCell (p := ⟨w.heap.size + 2, 5, none⟩) (by show _ ≤ w.heap.size + 2; omega) (.slice q1 x.fix.length q2))
  have HO7 : Hid (OwnB (w6.setCell ⟨w.heap.size + 2, 5, none⟩ (.slice q1 x.fix.length q2)) (w.heap.size + 3) (.slice g1 x.bytes.length g2) x.bytes) := ownsRow_setCell_below HO6.out (a := ⟨w.heap.size + 2, 5, none⟩) (Nat.lt_succ_self _) _
  have HP7 : Hid (OwnF (w6.setCell ⟨w.heap.size + 2, 5, none⟩ (.slice q1 x.fix.length q2)) (w.heap.size + 3) (.slice q1 x.fix.length q2) x.fix) := ownsRow_setCell_below HP6.out (a := ⟨w.heap.size + 2, 5, none⟩) (Nat.lt_succ_self _) _
  have c7 := HC7.out.cell
  have z7 := HC7.out.lt
  have cR := HR7.out.cell
  have fR := HR7.out.frozen
  have zR := HR7.out.lt
  clear hown hown2 hgr hlB hC6 hc7 HF5 HA5 HR5 HC5 HO5 HL5 HF6 HR6 HO6 HP6 cA zA
  go_wp2_with fail
  refine bodyPost_ret (v := .agg #[.string x.name, .int .i64 x.kind, .int .i64 x.align, .slice g1 x.bytes.length g2, .int .i64 x.size, .slice q1 x.fix.length q2]) (by simp [results, Try.results173, go_sem, cR, zR]) rfl ⟨_, _, rfl, ?_, ?_, ?_⟩
  · have q : w.heap.size + 1 < w.heap.size + 3 := by omega
    exact owns_mono (ownsRow_setCell_below (ownsRow_setCell_below (ownsRow_setCell_below (ownsRow_setCell_below (ownsRow_setCell_below (ownsRow_setCell_below HO7.out (a := ⟨w.heap.size + 1, 0, none⟩) q _) (a := ⟨w.heap.size + 1, 1, none⟩) q _) (a := ⟨w.heap.size + 1, 2, none⟩) q _) (a := ⟨w.heap.size + 1, 3, none⟩) q _) (a := ⟨w.heap.size + 1, 4, none⟩) q _) (a := ⟨w.heap.size + 1, 5, none⟩) q _) (by omega)
  · have q : w.heap.size + 1 < w.heap.size + 3 := by omega
    exact owns_mono (ownsRow_setCell_below (ownsRow_setCell_below (ownsRow_setCell_below (ownsRow_setCell_below (ownsRow_setCell_below (ownsRow_setCell_below HP7.out (a := ⟨w.heap.size + 1, 0, none⟩) q _) (a := ⟨w.heap.size + 1, 1, none⟩) q _) (a := ⟨w.heap.size + 1, 2, none⟩) q _) (a := ⟨w.heap.size + 1, 3, none⟩) q _) (a := ⟨w.heap.size + 1, 4, none⟩) q _) (a := ⟨w.heap.size + 1, 5, none⟩) q _) (by omega)
  · exact ((((((HF7.out.setCell (p := ⟨w.heap.size + 1, 0, none⟩) (Nat.le_succ _) _).setCell (p := ⟨w.heap.size + 1, 1, none⟩) (Nat.le_succ _) _).setCell (p := ⟨w.heap.size + 1, 2, none⟩) (Nat.le_succ _) _).setCell (p := ⟨w.heap.size + 1, 3, none⟩) (Nat.le_succ _) _).setCell (p := ⟨w.heap.size + 1, 4, none⟩) (Nat.le_succ _) _).setCell (p := ⟨w.heap.size + 1, 5, none⟩) (Nat.le_succ _) _).below
set_option maxHeartbeats 4000000 in
theorem s_l1OwnSectionList (w : World) (v : Value) (l : List SecD) (h : SecsAt w v l) (hl : l.length ≤ 1048576) (hb : ∀ s ∈ l, s.bytes.length ≤ 1073741824 ∧ s.fix.length ≤ 1073741824) :
    Calls Try.prog 148 #[v] w (RetSecs w l) := by
  obtain ⟨a, cap, rfl, hcap, hmax, hnone, hcell⟩ := h.form
  obtain ⟨j0, hj0, hy0, hy1, hy2⟩ := info_parts info_sec
  have HC := Lib.hid hcell
  have HB := Lib.hid hb
  clear h hcell hnone hb
  unfold maxLen at hmax
  have HO0 : Hid (OwnSecs (w.alloc (.cells #[] 69)) w.heap.size (.slice (some ⟨w.heap.size, 0, none⟩) 0 0) []) := ⟨World.ownsRow_lit w #[] 0 (Nat.le_refl _) (Nat.zero_le _) rfl, (fun x hx => by cases hx), by simp [blksOf, Value.ownBlock]⟩
  go_enter Try.func148, Try.ntmps148
  go_wp2_with fail
  go_loopw [3, 4] (fun out i wr => ∃ (k : Nat) (ls : List (SecD × Value × Value)) (va : Option Addr) (vc : Nat), k ≤ l.length ∧ i = .int .i64 k ∧ out = .slice va ls.length vc ∧ Hid (l.take k = ls.map (·.1)) ∧ Hid (OwnSecs wr w.heap.size (.slice va ls.length vc) ls) ∧ Hid (From w.heap.size w wr)) (fun _ i _ => l.length - (intOf i).toNat)
  case atStart => exact ⟨0, [], _, _, Nat.zero_le _, rfl, rfl, (by show _ = _; simp), HO0, (From.start w).alloc _⟩
  case round =>
    clear HO0
    obtain ⟨k, ls, va, vc, hk, rfl, rfl, HL, HO, HF⟩ := hrel
    by_cases hlt : k < l.length
    · obtain ⟨b, off, rfl, hc⟩ := HC.out (by omega)
      obtain ⟨vb, vf, hb, hf, c0, c1, c2, c3, c4, c5⟩ := hc k hlt
      have hbl : b < w.heap.size := World.block_lt_of_cell? w _ c0
      have g0 := (HF.out.below.cell (p := ⟨b, off + k * 6, none⟩) hbl).trans c0
      have g1 := (HF.out.below.cell (p := ⟨b, off + k * 6 + 1, none⟩) hbl).trans c1
      have g2 := (HF.out.below.cell (p := ⟨b, off + k * 6 + 2, none⟩) hbl).trans c2
      have g3 := (HF.out.below.cell (p := ⟨b, off + k * 6 + 3, none⟩) hbl).trans c3
      have g4 := (HF.out.below.cell (p := ⟨b, off + k * 6 + 4, none⟩) hbl).trans c4
      have g5 := (HF.out.below.cell (p := ⟨b, off + k * 6 + 5, none⟩) hbl).trans c5
      have i1 : (k : Int) < (l.length : Int) := by omega
      have i3 : (0 : Int) ≤ (k : Int) := by omega
      obtain ⟨ba, bc, rfl, -⟩ := hb.form
      obtain ⟨fa, fc, rfl, -⟩ := hf.form
      have HSX : Hid (SecAt wr (secV l[k] (.slice ba l[k].bytes.length bc) (.slice fa l[k].fix.length fc)) l[k]) := ⟨_, _, rfl, hb.below (Nat.le_refl _) HF.out.below, hf.below (Nat.le_refl _) HF.out.below⟩
      have HT : Hid (l.take (k + 1) = ls.map (·.1) ++ [l[k]]) := by show _ = _; rw [List.take_succ_eq_append_getElem hlt, HL.out]
      have HBk := Lib.hid (HB.out l[k] (List.getElem_mem hlt))
      have hlsl : ls.length ≤ k := by have := congrArg List.length HL.out; simp at this; omega
      clear hc c0 c1 c2 c3 c4 c5 hb hf HL
      generalize l[k] = x at *
      go_wp2_with fail
      refine (s_l1OwnSection wr _ x HSX.out HBk.out.1 HBk.out.2).mono ?_
      rintro e w2 ⟨vb2, vf2, rfl, ob, of, h2⟩
      obtain ⟨g1', g2', rfl⟩ := owns_form ob
      obtain ⟨q1', q2', rfl⟩ := owns_form of
      have HLT := Lib.hid HO.out.lt
      have HO2 := Lib.hid (HO.out.call h2)
      have HF2 := Lib.hid (HF.out.call h2)
      have hne := owns_ne ob of (by decide)
      have HBb := Lib.hid ob
      have HFf := Lib.hid of
      have HNE := Lib.hid hne
      have z2 : wr.heap.size ≤ w2.heap.size := h2.size
      have zr : w.heap.size ≤ wr.heap.size := HF.out.le
      clear ob of h2 hne HO HF HSX g0 g1 g2 g3 g4 g5
      go_wp2_with (at_builtin; refine wpList_append_own rfl (.tmp 12) (.tmp 18) 23 23 rfl w.heap.size 69 j0 _ 6 88 Try.underlying23 hj0 hy0 hy1 hy2 rfl (by decide) _ _ _ rfl (World.ownsRow.alloc HO2.out.row _) _ 1 [_, _, _, _, _, _] rfl (src_new Try.underlying23 _ [_, _, _, _, _, _] 6 1 1 _ rfl ?c0) ?c1 ?c2 ?c3 ?_)
      case c0 =>
        intro u hu
        simp only [List.mem_cons, List.not_mem_nil, or_false] at hu
        rcases hu with rfl | rfl | rfl | rfl | rfl | rfl <;> rfl
      case c1 => unfold maxLen; omega
      case c2 => omega
      case c3 => first | omega | (simp; omega)
      intro v' w4 hown hgr hpl
      obtain ⟨ls2, hls2⟩ : ∃ ls2, ls ++ [(x, Value.slice g1' x.bytes.length g2', Value.slice q1' x.fix.length q2')] = ls2 := ⟨_, rfl⟩
      have hsn := (HO2.out.alloc (.cells #[.string x.name, .int .i64 x.kind, .int .i64 x.align, .slice g1' x.bytes.length g2', .int .i64 x.size, .slice q1' x.fix.length q2'] 69)).snoc (m := wr.heap.size) (x := (x, .slice g1' x.bytes.length g2', .slice q1' x.fix.length q2')) (fun k hk => (HLT.out k hk).2) zr (World.ownsRow.alloc HBb.out _) (World.ownsRow.alloc HFf.out _) HNE.out hgr hown (by first | exact hpl | simpa using hpl)
      have hlen2 : ls.length + 1 = ls2.length := by rw [← hls2, List.length_append]; rfl
      have hown2 := hown
      rw [hlen2] at hown2
      obtain ⟨va2, vc2, rfl⟩ := owns_form hown2
      rw [hls2] at hsn
      have HSN := Lib.hid hsn
      have HF4 := Lib.hid (From.grown (HF2.out.alloc (.cells #[.string x.name, .int .i64 x.kind, .int .i64 x.align, .slice g1' x.bytes.length g2', .int .i64 x.size, .slice q1' x.fix.length q2'] 69)) hgr (fun k hk => owns_block HO2.out.row k hk))
      have HL2 : Hid (l.take (k + 1) = ls2.map (·.1)) := by show _ = _; rw [HT.out, ← hls2, List.map_append]; rfl
      clear hown hown2 hgr hpl hsn hls2 HO2 HF2 HBb HFf HNE HLT HBk HT
      go_wp2_with fail
      go_roundw
      case rel => exact ⟨k + 1, ls2, va2, vc2, by omega, by go_num, rfl, HL2, HSN, HF4⟩
      case measure => simp [intOf]; try omega
    · obtain rfl : k = l.length := by omega
      go_wp2_with fail
      go_ret
      exact ⟨_, ls, rfl, by rw [← HL.out, List.take_length], HO.out, HF.out.below⟩
set_option maxHeartbeats 4000000 in
theorem s_l1OwnObject (w : World) (v : Value) (o : ObjD) (h : ObjAt w v o) (hf : FewObj o) :
    Calls Try.prog 89 #[v] w fun e w' => ∃ r, e = .returned r ∧ OwnObj w' w.heap.size r o ∧ Below w.heap.size w w' := by
  obtain ⟨k0, hk0, hu0, hu1, hu2⟩ := info_parts info_sym
  obtain ⟨vs, vy, rfl, h1, h2⟩ := h
  have HS := Lib.hid h1
  have HY := Lib.hid h2
  obtain ⟨sa, sc, rfl, -⟩ := h1.form
  obtain ⟨ya, yc, rfl, -⟩ := h2.form
  have HFew := Lib.hid hf
  have hl2 := hf.2.1
  clear h1 h2 hf
  obtain ⟨n1, hn1⟩ : ∃ n1, o.secs.length = n1 := ⟨_, rfl⟩
  obtain ⟨n2, hn2⟩ : ∃ n2, o.syms.length = n2 := ⟨_, rfl⟩
  have HN1 := Lib.hid hn1
  have HN2 := Lib.hid hn2
  rw [hn1] at HS ⊢
  rw [hn2] at HY hl2 ⊢
  clear hn1 hn2
  have HF3 := Lib.hid ((((From.start w).alloc (.cells #[.slice sa n1 sc, .slice ya n2 yc] 26)).alloc (.cells #[.slice none 0 0, .slice none 0 0] 26)).alloc (.cells #[.slice sa n1 sc, .slice ya n2 yc] 26))
  have HA3 := Lib.hid (((Blk.new w #[.slice sa n1 sc, .slice ya n2 yc] 26).alloc (.cells #[.slice none 0 0, .slice none 0 0] 26)).alloc (.cells #[.slice sa n1 sc, .slice ya n2 yc] 26))
  have hr : Blk ((w.alloc (.cells #[.slice sa n1 sc, .slice ya n2 yc] 26)).alloc (.cells #[.slice none 0 0, .slice none 0 0] 26)) (w.heap.size + 1) #[.slice none 0 0, .slice none 0 0] 26 := Blk.newAt _ _ _ _ (by simp)
  have HR3 := Lib.hid (hr.alloc (.cells #[.slice sa n1 sc, .slice ya n2 yc] 26))
  have hc : Blk (((w.alloc (.cells #[.slice sa n1 sc, .slice ya n2 yc] 26)).alloc (.cells #[.slice none 0 0, .slice none 0 0] 26)).alloc (.cells #[.slice sa n1 sc, .slice ya n2 yc] 26)) (w.heap.size + 2) #[.slice sa n1 sc, .slice ya n2 yc] 26 := Blk.newAt _ _ _ _ (by simp)
  have HC3 := Lib.hid hc
  have hz : (((w.alloc (.cells #[.slice sa n1 sc, .slice ya n2 yc] 26)).alloc (.cells #[.slice none 0 0, .slice none 0 0] 26)).alloc (.cells #[.slice sa n1 sc, .slice ya n2 yc] 26)).heap.size = w.heap.size + 3 := by simp
  clear hr hc
  go_enter Try.func89, Try.ntmps89
  go_wp2_with fail
  generalize hw3 : ((w.alloc (.cells #[.slice sa n1 sc, .slice ya n2 yc] 26)).alloc (.cells #[.slice none 0 0, .slice none 0 0] 26)).alloc (.cells #[.slice sa n1 sc, .slice ya n2 yc] 26) = w3 at *
  clear hw3
  have e2 : w.heap.size + 1 + 1 = w.heap.size + 2 := rfl
  try simp only [e2]
  obtain ⟨X, hX⟩ : ∃ X, w.heap.size + 2 = X := ⟨_, rfl⟩
  have hXw : w.heap.size + 1 < X := by omega
  have hX3 : w3.heap.size = X + 1 := by omega
  try simp only [hX] at HC3 ⊢
  clear hX hz e2
  refine (s_l1OwnSectionList w3 _ o.secs (HS.out.below (Nat.le_refl _) HF3.out.below) HFew.out.1 HFew.out.2.2).mono ?_
  rintro e w4 ⟨r, ls, rfl, hse, hS, k4⟩
  obtain ⟨pa, pc, rfl⟩ := owns_form hS.row
  have HSE := Lib.hid hse
  have HS4 := Lib.hid hS
  have HF4 := Lib.hid (HF3.out.call k4)
  have HA4 := Lib.hid (HA3.out.call k4)
  have HR4 := Lib.hid (HR3.out.call k4)
  have HC4 := Lib.hid (HC3.out.call k4)
  have cC := HC4.out.cell
  have fC := HC4.out.frozen
  have zC := HC4.out.lt
  have cA := HA4.out.cell
  have zA := HA4.out.lt
  have z34 : X + 1 ≤ w4.heap.size := by have := k4.size; omega
  obtain ⟨m1, hm1⟩ : ∃ m1, ls.length = m1 := ⟨_, rfl⟩
  have HM1 := Lib.hid hm1
  rw [hm1] at HS4 ⊢
  clear hm1 hse hS k4 HF3 HA3 HR3 HC3
  have HF5 := Lib.hid ((HF4.out.setCell (p := ⟨X, 0, none⟩) (by show _ ≤ X; omega) (.slice pa m1 pc)).alloc (.cells #[] 78))
  have HA5 := Lib.hid ((HA4.out.other (p := ⟨X, 0, none⟩) (by show X ≠ _; omega) (.slice pa m1 pc)).alloc (.cells #[] 78))
  have HR5 := Lib.hid ((HR4.out.other (p := ⟨X, 0, none⟩) (by show X ≠ _; omega) (.slice pa m1 pc)).alloc (.cells #[] 78))
  have hc5 : Blk (w4.setCell ⟨X, 0, none⟩ (.slice pa m1 pc)) X #[.slice pa m1 pc, .slice ya n2 yc] 26 := by
    have := HC4.out.set (o := 0) (.slice pa m1 pc)
    simpa using this
  have HC5 := Lib.hid (hc5.alloc (.cells #[] 78))
  have HS5 : Hid (OwnSecs ((w4.setCell ⟨X, 0, none⟩ (.slice pa m1 pc)).alloc (.cells #[] 78)) (X + 1) (.slice pa m1 pc) ls) := ((HS4.out.mono (show X + 1 ≤ w3.heap.size by omega)).setBelow (a := ⟨X, 0, none⟩) (Nat.lt_succ_self _) _).alloc _
  have hs5 : (w4.setCell ⟨X, 0, none⟩ (.slice pa m1 pc)).heap.size = w4.heap.size := by simp [World.setCell]
  have hl5 : ((w4.setCell ⟨X, 0, none⟩ (.slice pa m1 pc)).alloc (.cells #[] 78)).ownsRow (X + 1) 78 4 (.slice (some ⟨w4.heap.size, 0, none⟩) 0 0) 0 [] := by
    have := World.ownsRow_lit (w4.setCell ⟨X, 0, none⟩ (.slice pa m1 pc)) #[] (e := 78) (size := 4) (base := X + 1) 0 (by rw [hs5]; omega) (Nat.zero_le _) rfl
    rw [hs5] at this
    exact this
  have HL5 := Lib.hid hl5
  clear hc5 hl5 hs5 HF4 HA4 HR4 HC4 HS4
  go_wp2_with (at_builtin; refine wpList_append_src rfl (.tmp 9) (.tmp 11) 24 24 rfl (X + 1) 78 k0 _ 4 40 Try.underlying24 hk0 hu0 hu1 hu2 rfl (by decide) _ _ _ rfl HL5.out _ o.syms.length (o.syms.flatMap symL) rfl (src_reads Try.underlying24 (HY.out.below (Nat.le_refl _) HF5.out.below) (syms_one o.syms)) ?c1 ?c2 ?c3 ?_)
  case c1 => unfold maxLen; rw [HN2.out]; omega
  case c2 => rw [HN2.out]; omega
  case c3 => exact HC5.out.lt
  intro v2 w6 hown hgr
  try rw [Nat.zero_add] at hown
  try rw [List.nil_append] at hown
  have hown2 : OwnSyms w6 (X + 1) v2 o.syms := hown
  obtain ⟨q1, q2, rfl⟩ := owns_form hown2
  have hlB : ∀ k, (Value.slice (some ⟨w4.heap.size, 0, none⟩) 0 0).ownBlock = some k → X + 1 ≤ k := fun k hk => by simp [Value.ownBlock] at hk; omega
  have HF6 := Lib.hid (From.grown HF5.out hgr (fun k hk => by have := hlB k hk; omega))
  have HR6 := Lib.hid (Blk.grown HR5.out hgr (fun e => by have := hlB _ e.symm; omega))
  have hC6 := Blk.grown HC5.out hgr (fun e => by have := hlB _ e.symm; omega)
  have HS6 : Hid (OwnSecs w6 (X + 1) (.slice pa m1 pc) ls) := OwnSecs.keptNe HS5.out HL5.out (by decide) (by decide) (by decide) hgr
  have cC := hC6.cell
  have fC := hC6.frozen
  have zC := hC6.lt
  obtain ⟨m2, hm2⟩ : ∃ m2, o.syms.length = m2 := ⟨_, rfl⟩
  rw [hm2] at hown2 ⊢
  have HM2 := Lib.hid hm2
  have hc7 : Blk (w6.setCell ⟨X, 1, none⟩ (.slice q1 m2 q2)) X #[.slice pa m1 pc, .slice q1 m2 q2] 26 := by
    have := hC6.set (o := 1) (.slice q1 m2 q2)
    simpa using this
  have HR7 := Lib.hid (HR6.out.other (p := ⟨X, 1, none⟩) (by show X ≠ _; omega) (.slice q1 m2 q2))
  have HF7 := Lib.hid (HF6.out.setCell (p := ⟨X, 1, none⟩) (by show _ ≤ X; omega) (.slice q1 m2 q2))
  have HS7 := Lib.hid (HS6.out.setBelow (a := ⟨X, 1, none⟩) (Nat.lt_succ_self _) (.slice q1 m2 q2))
  have HY7 : Hid (OwnSyms (w6.setCell ⟨X, 1, none⟩ (.slice q1 m2 q2)) (X + 1) (.slice q1 m2 q2) o.syms) := ownsRow_setCell_below hown2 (a := ⟨X, 1, none⟩) (Nat.lt_succ_self _) _
  have c7 := hc7.cell
  have z7 := hc7.lt
  have cR := HR7.out.cell
  have fR := HR7.out.frozen
  have zR := HR7.out.lt
  have hne : X ≠ w.heap.size + 1 := by omega
  clear hown hown2 hgr hlB hC6 hc7 HF5 HA5 HR5 HC5 HS5 HL5 HF6 HR6 HS6 cA zA hm2
  go_wp2_with fail
  have qb : w.heap.size + 1 < X + 1 := by omega
  refine bodyPost_ret (v := .agg #[.slice pa m1 pc, .slice q1 m2 q2]) (by simp [results, Try.results89, go_sem, cR, zR]) rfl ⟨_, rfl, ⟨_, _, ls, rfl, HSE.out, ?_, ?_, ?_⟩, ?_⟩
  · exact ((HS7.out.setBelow (a := ⟨w.heap.size + 1, 0, none⟩) qb _).setBelow (a := ⟨w.heap.size + 1, 1, none⟩) qb _).mono (show w.heap.size ≤ X + 1 by omega)
  · have h := ownsRow_setCell_below (ownsRow_setCell_below HY7.out (a := ⟨w.heap.size + 1, 0, none⟩) qb (.slice pa m1 pc)) (a := ⟨w.heap.size + 1, 1, none⟩) qb (.slice q1 m2 q2)
    rw [HM2.out] at h
    unfold OwnSyms
    rw [HM2.out]
    exact owns_mono h (show w.heap.size ≤ X + 1 by omega)
  · exact secs_row_ne HS7.out HY7.out (by decide) (by decide) (by decide)
  · exact ((HF7.out.setCell (p := ⟨w.heap.size + 1, 0, none⟩) (Nat.le_succ _) (.slice pa m1 pc)).setCell (p := ⟨w.heap.size + 1, 1, none⟩) (Nat.le_succ _) (.slice q1 m2 q2)).below
/-! KeepS -/
open Go.ChangeShapes Go.WideShapes Go.ChangeAt Go.RowKit Go.Joins
set_option linter.unusedSimpArgs false
set_option linter.unusedVariables false
set_option maxRecDepth 100000
set_option maxHeartbeats 2000000 in
theorem s_l9Used (w : World) (v : Value) (o : ObjD) (h : ObjAt w v o) (m : Int) :
    Calls Try.prog 90 #[v, .int .i64 m] w fun e w' => e = .returned (.bool (usedB o.secs m)) ∧ Below w.heap.size w w' := by
  obtain ⟨vs, vy, rfl, h1, h2⟩ := h
  obtain ⟨sa, sc, rfl, hcap, hmax, hnone, hcell⟩ := h1.form
  obtain ⟨ya, yc, rfl, -⟩ := h2.form
  have HC := Lib.hid hcell
  clear h1 h2 hcell hnone
  unfold maxLen at hmax
  obtain ⟨n1, hn1⟩ : ∃ n1, o.secs.length = n1 := ⟨_, rfl⟩
  obtain ⟨n2, hn2⟩ : ∃ n2, o.syms.length = n2 := ⟨_, rfl⟩
  have HN1 := Lib.hid hn1
  rw [hn1] at hcap ⊢
  rw [hn2]
  clear hn1 hn2
  have HB0 := Lib.hid (Blk.new w #[.slice sa n1 sc, .slice ya n2 yc] 26)
  have HF0 := Lib.hid ((From.start w).alloc (.cells #[.slice sa n1 sc, .slice ya n2 yc] 26))
  have cb := HB0.out.cell
  have zb := HB0.out.lt
  go_enter Try.func90, Try.ntmps90
  go_wp2_with fail
  generalize hw1 : w.alloc (.cells #[.slice sa n1 sc, .slice ya n2 yc] 26) = W at *
  clear hw1
  have hbw : ∀ b, b < w.heap.size → ∀ o' x, w.cell? ⟨b, o', none⟩ = some x → W.cell? ⟨b, o', none⟩ = some x := fun b hb o' x hx => (HF0.out.below.cell (p := ⟨b, o', none⟩) hb).trans hx
  have HBW := Lib.hid hbw
  clear hbw
  go_loop [5] (fun i => ∃ k : Nat, k ≤ n1 ∧ i = .int .i64 k ∧ Hid ((o.secs.take k).any (usesS m) = false)) (fun i => n1 - (intOf i).toNat)
  case atStart => exact ⟨0, Nat.zero_le _, rfl, by show _ = _; simp⟩
  case round =>
    obtain ⟨k, hk, rfl, HU⟩ := hrel
    by_cases hlt : k < n1
    · have i1 : (k : Int) < (n1 : Int) := by omega
      have i3 : (0 : Int) ≤ (k : Int) := by omega
      obtain ⟨b, off, rfl, hc⟩ := HC.out (by have := HN1.out; omega)
      obtain ⟨vb, vf, hb, hf, c0, c1, c2, c3, c4, c5⟩ := hc k (by rw [HN1.out]; exact hlt)
      obtain ⟨fa, fc, rfl, hfc, hfm, -, hfcell⟩ := hf.form
      have hbl : b < w.heap.size := World.block_lt_of_cell? w _ c0
      have g5 := HBW.out b hbl _ _ c5
      have hltL : k < o.secs.length := by rw [HN1.out]; exact hlt
      have HNX : Hid ((o.secs.take (k + 1)).any (usesS m) = usesS m o.secs[k]) := by show _ = _; rw [List.take_succ_eq_append_getElem hltL, List.any_append, HU.out]; simp
      have HALL : Hid (usesS m o.secs[k] = true → usedB o.secs m = true) := fun h => by unfold usedB; rw [List.any_eq_true]; exact ⟨_, List.getElem_mem hltL, h⟩
      have HFC := Lib.hid hfcell
      clear hc c0 c1 c2 c3 c4 c5 hb hf hfcell
      generalize o.secs[k] = x at *
      obtain ⟨nf, hnf⟩ : ∃ nf, x.fix.length = nf := ⟨_, rfl⟩
      have HNF := Lib.hid hnf
      rw [hnf] at g5 hfc
      unfold maxLen at hfm
      clear hnf
      go_wp2_with fail
      go_loop [6] (fun i => ∃ j : Nat, j ≤ nf ∧ i = .int .i64 j ∧ Hid ((x.fix.take j).any (usesF m) = false)) (fun i => nf - (intOf i).toNat)
      case atStart => exact ⟨0, Nat.zero_le _, rfl, by show _ = _; simp⟩
      case round =>
        obtain ⟨j, hj, rfl, HV⟩ := hrel
        by_cases hltj : j < nf
        · have j1 : (j : Int) < (nf : Int) := by omega
          have j3 : (0 : Int) ≤ (j : Int) := by omega
          obtain ⟨b2, off2, rfl, hc2⟩ := HFC.out (by have := HNF.out; omega)
          obtain ⟨d0, d1, d2, d3⟩ := hc2 j (by rw [HNF.out]; exact hltj)
          have hbl2 : b2 < w.heap.size := World.block_lt_of_cell? w _ d0
          have q2 := HBW.out b2 hbl2 _ _ d2
          have hjL : j < x.fix.length := by rw [HNF.out]; exact hltj
          have HNY : Hid ((x.fix.take (j + 1)).any (usesF m) = usesF m x.fix[j]) := by show _ = _; rw [List.take_succ_eq_append_getElem hjL, List.any_append, HV.out]; simp
          have HIN : Hid (usesF m x.fix[j] = true → usesS m x = true) := fun h => by unfold usesS; rw [List.any_eq_true]; exact ⟨_, List.getElem_mem hjL, h⟩
          clear hc2 d0 d1 d2 d3
          generalize x.fix[j] = y at *
          by_cases hm : y.2.2.1 = m
          · have e1 : (y.2.2.1 == m) = true := by simpa using hm
            have E : Hid (usedB o.secs m = true) := HALL.out (HIN.out (by unfold usesF; simpa using hm))
            clear hm
            go_wp2_with fail
            go_ret
            exact ⟨by rw [E.out]; try rfl, HF0.out.below⟩
          · have e1 : (y.2.2.1 == m) = false := by simpa using hm
            have HV2 : Hid ((x.fix.take (j + 1)).any (usesF m) = false) := by show _ = _; rw [HNY.out]; unfold usesF; simpa using hm
            clear hm
            go_wp2_with fail
            go_round
            case rel => exact ⟨j + 1, by omega, by go_num, HV2⟩
            case measure => simp [intOf]; try omega
        · obtain rfl : nf = j := by omega
          have HU2 : Hid ((o.secs.take (k + 1)).any (usesS m) = false) := by show _ = _; rw [HNX.out]; unfold usesS; have := HV.out; rwa [← HNF.out, List.take_length] at this
          go_wp2_with fail
          go_round
          case rel => exact ⟨k + 1, by omega, by go_num, HU2⟩
          case measure => simp [intOf]; try omega
    · obtain rfl : n1 = k := by omega
      have E : Hid (usedB o.secs m = false) := by show _ = _; have := HU.out; rwa [← HN1.out, List.take_length] at this
      go_wp2_with fail
      go_ret
      exact ⟨by rw [E.out]; try rfl, HF0.out.below⟩
set_option maxHeartbeats 8000000 in
theorem s_l9Keep (w : World) (v v2 : Value) (o : ObjD) (K : List Bool) (h : ObjAt w v o) (hb2 : Reads w 1 v2 K.length (bbs K)) (hKl : K.length = o.syms.length) (ho : FewObj o)
    (hfx : ∀ s ∈ o.secs, ∀ f ∈ s.fix, 0 ≤ f.2.2.1 ∧ f.2.2.1 < o.syms.length) :
    Calls Try.prog 91 #[v, v2] w fun e w' => ∃ r, e = .returned r ∧ OwnObj w' w.heap.size r (keepO o K) ∧ Below w.heap.size w w' := by
  obtain ⟨y0, hy0, ya0, ya1, ya2⟩ := info_parts info_sym
  obtain ⟨i0, hi0, ia0, ia1, ia2⟩ := info_parts info_int
  have HOB := Lib.hid h
  obtain ⟨vs, vy, rfl, h1, h2⟩ := h
  obtain ⟨sa, sc, rfl, hcap, hmax, hnone, hcell⟩ := h1.form
  obtain ⟨ya, yc, rfl, hcap2, hmax2, hnone2, hcell2⟩ := h2.form
  obtain ⟨-, za, zc, rfl, hcap3, hmax3, hnone3, hcell3⟩ := hb2
  have HD := Lib.hid hcell2
  have HE := Lib.hid hcell3
  have HFew := Lib.hid ho
  have HFX := Lib.hid hfx
  clear h1 h2 hcell hcell2 hcell3 hnone hnone2 hnone3 hfx
  unfold maxLen at hmax hmax2 hmax3
  have hf2 := ho.2.1
  have hf1 := ho.1
  clear ho
  obtain ⟨n1, hn1⟩ : ∃ n1, o.secs.length = n1 := ⟨_, rfl⟩
  obtain ⟨n2, hn2⟩ : ∃ n2, o.syms.length = n2 := ⟨_, rfl⟩
  have HN1 := Lib.hid hn1
  have HN2 := Lib.hid hn2
  rw [hn2] at hKl
  have HKl := Lib.hid hKl
  rw [hn1] at hcap hf1 HOB ⊢
  rw [hn2] at hcap2 hf2 HOB ⊢
  rw [hKl] at hcap3 HE ⊢
  clear hn1 hn2 hKl
  go_enter Try.func91, Try.ntmps91
  go_wp2_with fail
  have HF0 := Lib.hid (((From.start w).alloc (.cells #[.slice sa n1 sc, .slice ya n2 yc] 26)).alloc (.cells #[.slice none 0 0, .slice none 0 0] 26))
  have HB0 := Lib.hid ((Blk.new w #[.slice sa n1 sc, .slice ya n2 yc] 26).alloc (.cells #[.slice none 0 0, .slice none 0 0] 26))
  have hr0 : Blk ((w.alloc (.cells #[.slice sa n1 sc, .slice ya n2 yc] 26)).alloc (.cells #[.slice none 0 0, .slice none 0 0] 26)) (w.heap.size + 1) #[.slice none 0 0, .slice none 0 0] 26 := Blk.newAt _ _ _ _ (by simp)
  have HR0 := Lib.hid hr0
  clear hr0
  have hz : ((w.alloc (.cells #[.slice sa n1 sc, .slice ya n2 yc] 26)).alloc (.cells #[.slice none 0 0, .slice none 0 0] 26)).heap.size = w.heap.size + 2 := by simp
  generalize hw1 : (w.alloc (.cells #[.slice sa n1 sc, .slice ya n2 yc] 26)).alloc (.cells #[.slice none 0 0, .slice none 0 0] 26) = W at HF0 HB0 HR0 hz ⊢
  clear hw1
  have zB : w.heap.size + 1 < W.heap.size := by omega
  refine (s_l4Copy W _ o (HOB.out.below (Nat.le_refl _) HF0.out.below) HFew.out).mono ?_
  rintro e w3 ⟨r, rfl, ⟨vs, vy, ls, rfl, hse, hS1, hY1, hd⟩, k3⟩
  generalize hB : W.heap.size = B at *
  clear hz
  have hls : ls.length = n1 := by have := congrArg List.length hse; rw [List.length_map, HN1.out] at this; exact this.symm
  have hrow := hS1.row
  rw [hls] at hrow
  obtain ⟨pa, pc, rfl⟩ := owns_form hrow
  obtain ⟨qa, qc, rfl⟩ := owns_form hY1
  have hBw3 : B ≤ w3.heap.size := by have := k3.size; omega
  have HF1 := Lib.hid (HF0.out.call (by rw [hB]; exact k3))
  have HR1 := Lib.hid (HR0.out.call (by rw [hB]; exact k3))
  have HB1 := Lib.hid (HB0.out.call (by rw [hB]; exact k3))
  have HSE := Lib.hid hse
  obtain ⟨q, hq⟩ : ∃ q, w3.heap.size = q := ⟨_, rfl⟩
  have hqB : B ≤ q := by omega
  have hzq : (w3.alloc (.cells #[.slice pa n1 pc, .slice (some ⟨q + 1, 0, none⟩) 0 0] 26)).heap.size = q + 1 := by simp [hq]
  have hzq2 : ((w3.alloc (.cells #[.slice pa n1 pc, .slice (some ⟨q + 1, 0, none⟩) 0 0] 26)).alloc (.cells #[] 78)).heap.size = q + 1 + 1 := by simp [hq]
  have hQ : Blk (w3.alloc (.cells #[.slice pa n1 pc, .slice (some ⟨q + 1, 0, none⟩) 0 0] 26)) q #[.slice pa n1 pc, .slice (some ⟨q + 1, 0, none⟩) 0 0] 26 := Blk.newAt _ _ _ _ hq.symm
  have HQ1 := Lib.hid ((hQ.alloc (.cells #[] 78)).alloc (.cells #[] 3))
  have HF2 := Lib.hid (((HF1.out.alloc (.cells #[.slice pa n1 pc, .slice (some ⟨q + 1, 0, none⟩) 0 0] 26)).alloc (.cells #[] 78)).alloc (.cells #[] 3))
  have HR2 := Lib.hid (((HR1.out.alloc (.cells #[.slice pa n1 pc, .slice (some ⟨q + 1, 0, none⟩) 0 0] 26)).alloc (.cells #[] 78)).alloc (.cells #[] 3))
  have HB2 := Lib.hid (((HB1.out.alloc (.cells #[.slice pa n1 pc, .slice (some ⟨q + 1, 0, none⟩) 0 0] 26)).alloc (.cells #[] 78)).alloc (.cells #[] 3))
  have HS2 := Lib.hid (((hS1.alloc (.cells #[.slice pa n1 pc, .slice (some ⟨q + 1, 0, none⟩) 0 0] 26)).alloc (.cells #[] 78)).alloc (.cells #[] 3))
  have hy2 : ((w3.alloc (.cells #[.slice pa n1 pc, .slice (some ⟨q + 1, 0, none⟩) 0 0] 26)).alloc (.cells #[] 78)).ownsRow B 78 4 (.slice (some ⟨q + 1, 0, none⟩) 0 0) 0 [] := by
    have := World.ownsRow_lit (w3.alloc (.cells #[.slice pa n1 pc, .slice (some ⟨q + 1, 0, none⟩) 0 0] 26)) #[] (e := 78) (size := 4) (base := B) 0 (by rw [hzq]; omega) (Nat.zero_le _) rfl
    rw [hzq] at this
    exact this
  have HY2 : Hid (OwnSyms (((w3.alloc (.cells #[.slice pa n1 pc, .slice (some ⟨q + 1, 0, none⟩) 0 0] 26)).alloc (.cells #[] 78)).alloc (.cells #[] 3)) B (.slice (some ⟨q + 1, 0, none⟩) ([] : List SymD).length 0) []) := World.ownsRow.alloc hy2 _
  have hi2 : (((w3.alloc (.cells #[.slice pa n1 pc, .slice (some ⟨q + 1, 0, none⟩) 0 0] 26)).alloc (.cells #[] 78)).alloc (.cells #[] 3)).ownsRow B 3 1 (.slice (some ⟨q + 1 + 1, 0, none⟩) 0 0) 0 (ivs (numU K 0)) := by
    have := World.ownsRow_lit ((w3.alloc (.cells #[.slice pa n1 pc, .slice (some ⟨q + 1, 0, none⟩) 0 0] 26)).alloc (.cells #[] 78)) #[] (e := 3) (size := 1) (base := B) 0 (by rw [hzq2]; omega) (Nat.zero_le _) rfl
    rw [hzq2] at this
    exact this
  have HI2 := Lib.hid hi2
  have hqw : w.heap.size + 1 < q := by omega
  clear hS1 hY1 hd k3 hQ hrow hse HF0 HB0 HR0 HF1 HR1 HB1 hzq hzq2 hy2 hi2
  go_wp2_with fail
  try simp only [hq]
  generalize hw4 : ((w3.alloc (.cells #[.slice pa n1 pc, .slice (some ⟨q + 1, 0, none⟩) 0 0] 26)).alloc (.cells #[] 78)).alloc (.cells #[] 3) = w4 at *
  clear hw4 hq hBw3
  go_loopw [6, 7] (fun tt i wr => ∃ (k : Nat) (U : List SymD) (yb : Option Addr) (yd : Nat) (ta : Option Addr) (tc : Nat), k ≤ n2 ∧ i = .int .i64 k ∧ tt = .slice ta k tc ∧ U.length ≤ k ∧ Hid (U = keepL (K.take k) (o.syms.take k)) ∧ Hid (OwnSecs wr B (.slice pa n1 pc) ls) ∧ Hid (OwnSyms wr B (.slice yb U.length yd) U) ∧ Hid (wr.ownsRow B 3 1 (.slice ta k tc) k (ivs (numU K k))) ∧ Hid (Blk wr (w.heap.size + 1) #[.slice none 0 0, .slice none 0 0] 26) ∧ Hid (Blk wr q #[.slice pa n1 pc, .slice yb U.length yd] 26) ∧ Hid (Blk wr w.heap.size #[.slice sa n1 sc, .slice ya n2 yc] 26) ∧ Hid (From w.heap.size w wr)) (fun _ i _ => n2 - (intOf i).toNat)
  case atStart => exact ⟨0, [], _, _, _, _, Nat.zero_le _, rfl, rfl, Nat.zero_le _, (by show _ = _; simp [keepL]), HS2, HY2, HI2, HR2, HQ1, HB2, HF2⟩
  case round =>
    clear HS2 HY2 HI2 HR2 HQ1 HB2 HF2
    obtain ⟨k, U, yb, yd, ta, tc, hk, rfl, rfl, hUl, HU, HS, HY, HI, HR, HQ, HB, HF⟩ := hrel
    have cQ := HQ.out.cell
    have fQ := HQ.out.frozen
    have zQ := HQ.out.lt
    have cB := HB.out.cell
    have zB1 := HB.out.lt
    by_cases hlt : k < n2
    · have i1 : (k : Int) < (n2 : Int) := by omega
      have i3 : (0 : Int) ≤ (k : Int) := by omega
      obtain ⟨b, off, rfl, hc⟩ := HD.out (by have := HN2.out; omega)
      obtain ⟨c0, c1, c2, c3⟩ := hc k (by rw [HN2.out]; exact hlt)
      have hbl : b < w.heap.size := World.block_lt_of_cell? w _ c0
      have hltL : k < o.syms.length := by rw [HN2.out]; exact hlt
      have hltK : k < K.length := by rw [HKl.out]; exact hlt
      have HNX := Lib.hid (keepL_next (K := K) (l := o.syms) (by rw [HKl.out, HN2.out]) (List.getElem?_eq_getElem hltL) (List.getElem?_eq_getElem hltK))
      have hUn : U.length = keptN K k := by rw [HU.out]; exact keepL_len K o.syms (by rw [HKl.out, HN2.out]) k
      have HT : Hid (numU K (k + 1) = numU K k ++ [(U.length : Int)]) := by show _ = _; rw [numU_step, hUn]
      obtain ⟨b3, off3, rfl, hc3⟩ := HE.out (by omega)
      have d3 := hc3 k (.bool K[k]) (by simp [bbs, hltK])
      have hbl3 : b3 < w.heap.size := World.block_lt_of_cell? w _ d3
      have HXC : Hid (w.cell? ⟨b, off + k * 4, none⟩ = some (.string o.syms[k].name) ∧ w.cell? ⟨b, off + k * 4 + 1, none⟩ = some (.int .i64 o.syms[k].bind) ∧ w.cell? ⟨b, off + k * 4 + 2, none⟩ = some (.int .i64 o.syms[k].whr) ∧ w.cell? ⟨b, off + k * 4 + 3, none⟩ = some (.int .i64 o.syms[k].val)) := ⟨c0, c1, c2, c3⟩
      have HD3 := Lib.hid d3
      clear hc hc3 c0 c1 c2 c3 d3 hUn
      generalize o.syms[k] = x at *
      generalize K[k] = bk at *
      go_wp2_with (at_builtin; refine wpList_append_own rfl (.tmp 23) (.tmp 27) 52 52 rfl B 3 i0 (.int .i64 0) 1 8 Try.underlying52 hi0 ia0 ia1 ia2 rfl (by decide) _ _ _ rfl (World.ownsRow.alloc HI.out _) _ 1 [_] rfl (src_new Try.underlying52 _ [_] 1 1 1 _ rfl ?c0) ?c1 ?c2 ?c3 ?_)
      case c0 => intro u hu; obtain rfl := List.mem_singleton.1 hu; rfl
      case c1 => unfold maxLen; omega
      case c2 => omega
      case c3 => first | omega | (simp; omega)
      intro v' w5 hown hgr hpl
      have hIr : (wr.alloc (.cells #[.int .i64 (U.length : Int)] 3)).ownsRow B 3 1 (.slice ta k tc) k (ivs (numU K k)) := World.ownsRow.alloc HI.out _
      have hI5 : w5.ownsRow B 3 1 v' (k + 1) (ivs (numU K (k + 1))) := by
        rw [HT.out, ivs_append]
        exact hown
      obtain ⟨ta2, tc2, rfl⟩ := owns_form hI5
      have HI5 := Lib.hid hI5
      have HS5 : Hid (OwnSecs w5 B (.slice pa n1 pc) ls) := OwnSecs.keptNe (HS.out.alloc _) hIr (by decide) (by decide) (by decide) hgr
      have HY5 : Hid (OwnSyms w5 B (.slice yb U.length yd) U) := owns_keptNe (World.ownsRow.alloc HY.out _) hIr (by decide) hgr
      have HQ5 : Hid (Blk w5 q #[.slice pa n1 pc, .slice yb U.length yd] 26) := Blk.grown (HQ.out.alloc _) hgr (fun e => blk_apart (HQ.out.alloc _) hIr (by decide) e)
      have HR5 : Hid (Blk w5 (w.heap.size + 1) #[.slice none 0 0, .slice none 0 0] 26) := Blk.grown (HR.out.alloc _) hgr (fun e => blk_apart (HR.out.alloc _) hIr (by decide) e)
      have HB5 : Hid (Blk w5 w.heap.size #[.slice sa n1 sc, .slice (some ⟨b, off, none⟩) n2 yc] 26) := Blk.grown (HB.out.alloc _) hgr (fun e => blk_apart (HB.out.alloc _) hIr (by decide) e)
      have HF5 := Lib.hid (From.grown (HF.out.alloc (.cells #[.int .i64 (U.length : Int)] 3)) hgr (fun k' hk' => by have := (World.ownsRow.lt HI.out k' hk').1; omega))
      have q3 := (HF5.out.below.cell (p := ⟨b3, off3 + k, none⟩) hbl3).trans HD3.out
      clear hown hgr hpl hIr hI5 HS HY HI HR HQ HB HF cQ fQ zQ cB zB1
      cases bk
      · have HU2 : Hid (U = keepL (K.take (k + 1)) (o.syms.take (k + 1))) := by show _ = _; rw [HNX.out, HU.out]; simp
        clear HNX
        go_wp2_with fail
        go_roundw
        case rel => exact ⟨k + 1, U, yb, yd, ta2, tc2, by omega, by go_num, rfl, by omega, HU2, HS5, HY5, HI5, HR5, HQ5, HB5, HF5⟩
        case measure => simp [intOf]; try omega
      have HU2 : Hid (U ++ [x] = keepL (K.take (k + 1)) (o.syms.take (k + 1))) := by show _ = _; rw [HNX.out, HU.out]; simp
      clear HNX HU
      go_wp2_with fail
      let f0 : Nat → Value := fun i => match i with
        | 0 => .pointer (some ⟨q, 1, none⟩)
        | 1 => .slice yb U.length yd
        | 2 => .pointer (some ⟨w.heap.size, 1, none⟩)
        | 3 => .slice (some ⟨b, off, none⟩) n2 yc
        | 4 => .int .i64 (k : Int)
        | 5 => .pointer (some ⟨b, off + k * 4, none⟩)
        | 6 => symV x
        | 9 => .pointer (some ⟨q, 1, none⟩)
        | _ => undef
      let G : World → Prop := fun u => OwnSecs u B (.slice pa n1 pc) ls ∧ u.ownsRow B 3 1 (.slice ta2 (k + 1) tc2) (k + 1) (ivs (numU K (k + 1))) ∧ Blk u (w.heap.size + 1) #[.slice none 0 0, .slice none 0 0] 26 ∧ Blk u w.heap.size #[.slice sa n1 sc, .slice (some ⟨b, off, none⟩) n2 yc] 26 ∧ From w.heap.size w u
      have hG : ∀ u u', Below u.heap.size u u' → G u → G u' := fun u u' hb h => ⟨h.1.call hb, owns_call h.2.1 hb, h.2.2.1.call hb, h.2.2.2.1.call hb, h.2.2.2.2.call hb⟩
      refine wp_region_get (fun i v u => (i = 7 → ∃ z, v = .slice (some ⟨z, 0, none⟩) 1 1 ∧ Blk u z #[.string x.name, .int .i64 x.bind, .int .i64 x.whr, .int .i64 x.val] 78) ∧ (i = 8 → OwnSyms u B v (U ++ [x])) ∧ (i ≠ 7 → i ≠ 8 → v = f0 i))
        (fun _ f u => G u ∧ (f 10 = false → Blk u q #[.slice pa n1 pc, .slice yb U.length yd] 26) ∧ (f 8 = false → OwnSyms u B (.slice yb U.length yd) U) ∧ (f 10 = true → ∃ yb2 yd2, Blk u q #[.slice pa n1 pc, .slice yb2 (U ++ [x]).length yd2] 26 ∧ OwnSyms u B (.slice yb2 (U ++ [x]).length yd2) (U ++ [x])))
        [[], [0], [], [2], [], [3, 4], [5], [6], [1, 7], [], [8, 9]] [[], [0], [], [2], [], [2, 3, 4], [2, 3, 4, 5], [2, 3, 4, 5, 6], [0, 1, 2, 3, 4, 5, 6, 7], [0, 1, 2, 3, 4, 5, 6, 7, 8], [0, 1, 2, 3, 4, 5, 6, 7, 8, 9]] [] (by kernel_rfl) (by kernel_rfl) (by kernel_rfl) (by kernel_rfl) (by kernel_rfl)
        ⟨hG _ _ ((From.start w5).drew.below) ⟨HS5.out, HI5.out, HR5.out, HB5.out, HF5.out⟩, fun _ => HQ5.out.drew, fun _ => World.ownsRow.drew HY5.out, fun h => by cases h⟩ ?ho ?hq
      case ho =>
        refine ⟨?_, ?_, ?_, ?_, ?_, ?_, ?_, ?_, ?_, ?_, ?_, trivial⟩
        · intro n f A u K' hfr hn hl hS hv hK'
          have eA9 : A.tmps.getD 5 undef = .pointer (some ⟨q, 0, none⟩) := hfr 5 (no_dst (by kernel_rfl))
          have eB9 : (A.tmps[5]?).getD undef = .pointer (some ⟨q, 0, none⟩) := by simpa using eA9
          refine owe_run rfl (wp_val (v := .pointer (some ⟨q, 1, none⟩)) ?_ (hK' _ _ ⟨hS.1, fun h => hS.2.1 (setl_off h), fun h => hS.2.2.1 (setl_off h), fun h => hS.2.2.2 (by rwa [setl_ne (by decide)] at h)⟩ (fun _ _ _ h => h) (fun _ => ⟨fun e => absurd e (by decide), fun e => absurd e (by decide), fun _ _ => rfl⟩)))
          first
            | (go_simp; done)
            | (go_simp; rfl)
        · intro n f A u K' hfr hn hl hS hv hK'
          have eA0 : A.tmps.getD 33 undef = .pointer (some ⟨q, 1, none⟩) := hv.1.2.2 (by decide) (by decide)
          have eB0 : (A.tmps[33]?).getD undef = .pointer (some ⟨q, 1, none⟩) := by simpa using eA0
          have cu := (hS.2.1 (hl.2.2 10 (by decide))).cell
          refine owe_run rfl (wp_val (v := .slice yb U.length yd) ?_ (hK' _ _ ⟨hS.1, fun h => hS.2.1 (setl_off h), fun h => hS.2.2.1 (setl_off h), fun h => hS.2.2.2 (by rwa [setl_ne (by decide)] at h)⟩ (fun _ _ _ h => h) (fun _ => ⟨fun e => absurd e (by decide), fun e => absurd e (by decide), fun _ _ => rfl⟩)))
          first
            | (go_simp; done)
            | (go_simp; rfl)
        · intro n f A u K' hfr hn hl hS hv hK'
          have eA9 : A.tmps.getD 2 undef = .pointer (some ⟨w.heap.size, 0, none⟩) := hfr 2 (no_dst (by kernel_rfl))
          have eB9 : (A.tmps[2]?).getD undef = .pointer (some ⟨w.heap.size, 0, none⟩) := by simpa using eA9
          refine owe_run rfl (wp_val (v := .pointer (some ⟨w.heap.size, 1, none⟩)) ?_ (hK' _ _ ⟨hS.1, fun h => hS.2.1 (setl_off h), fun h => hS.2.2.1 (setl_off h), fun h => hS.2.2.2 (by rwa [setl_ne (by decide)] at h)⟩ (fun _ _ _ h => h) (fun _ => ⟨fun e => absurd e (by decide), fun e => absurd e (by decide), fun _ _ => rfl⟩)))
          first
            | (go_simp; done)
            | (go_simp; rfl)
        · intro n f A u K' hfr hn hl hS hv hK'
          have eA0 : A.tmps.getD 35 undef = .pointer (some ⟨w.heap.size, 1, none⟩) := hv.1.2.2 (by decide) (by decide)
          have eB0 : (A.tmps[35]?).getD undef = .pointer (some ⟨w.heap.size, 1, none⟩) := by simpa using eA0
          have cu := hS.1.2.2.2.1.cell
          refine owe_run rfl (wp_val (v := .slice (some ⟨b, off, none⟩) n2 yc) ?_ (hK' _ _ ⟨hS.1, fun h => hS.2.1 (setl_off h), fun h => hS.2.2.1 (setl_off h), fun h => hS.2.2.2 (by rwa [setl_ne (by decide)] at h)⟩ (fun _ _ _ h => h) (fun _ => ⟨fun e => absurd e (by decide), fun e => absurd e (by decide), fun _ _ => rfl⟩)))
          first
            | (go_simp; done)
            | (go_simp; rfl)
        · intro n f A u K' hfr hn hl hS hv hK'
          have eA9 : A.tmps.getD 7 undef = .int .i64 (k : Int) := hfr 7 (no_dst (by kernel_rfl))
          have eB9 : (A.tmps[7]?).getD undef = .int .i64 (k : Int) := by simpa using eA9
          refine owe_run rfl (wp_val (v := .int .i64 (k : Int)) ?_ (hK' _ _ ⟨hS.1, fun h => hS.2.1 (setl_off h), fun h => hS.2.2.1 (setl_off h), fun h => hS.2.2.2 (by rwa [setl_ne (by decide)] at h)⟩ (fun _ _ _ h => h) (fun _ => ⟨fun e => absurd e (by decide), fun e => absurd e (by decide), fun _ _ => rfl⟩)))
          first
            | (go_simp; done)
            | (go_simp; rfl)
        · intro n f A u K' hfr hn hl hS hv hK'
          have eA0 : A.tmps.getD 36 undef = .slice (some ⟨b, off, none⟩) n2 yc := hv.1.2.2 (by decide) (by decide)
          have eB0 : (A.tmps[36]?).getD undef = .slice (some ⟨b, off, none⟩) n2 yc := by simpa using eA0
          have eA1 : A.tmps.getD 37 undef = .int .i64 (k : Int) := hv.2.1.2.2 (by decide) (by decide)
          have eB1 : (A.tmps[37]?).getD undef = .int .i64 (k : Int) := by simpa using eA1
          refine owe_run rfl (wp_val (v := .pointer (some ⟨b, off + k * 4, none⟩)) ?_ (hK' _ _ ⟨hS.1, fun h => hS.2.1 (setl_off h), fun h => hS.2.2.1 (setl_off h), fun h => hS.2.2.2 (by rwa [setl_ne (by decide)] at h)⟩ (fun _ _ _ h => h) (fun _ => ⟨fun e => absurd e (by decide), fun e => absurd e (by decide), fun _ _ => rfl⟩)))
          first
            | (go_simp; done)
            | (go_simp; rfl)
        · intro n f A u K' hfr hn hl hS hv hK'
          have eA0 : A.tmps.getD 38 undef = .pointer (some ⟨b, off + k * 4, none⟩) := hv.1.2.2 (by decide) (by decide)
          have eB0 : (A.tmps[38]?).getD undef = .pointer (some ⟨b, off + k * 4, none⟩) := by simpa using eA0
          have hFu : From w.heap.size w u := hS.1.2.2.2.2
          have p0 := (hFu.below.cell (p := ⟨b, off + k * 4, none⟩) hbl).trans HXC.out.1
          have p1 := (hFu.below.cell (p := ⟨b, off + k * 4 + 1, none⟩) hbl).trans HXC.out.2.1
          have p2 := (hFu.below.cell (p := ⟨b, off + k * 4 + 2, none⟩) hbl).trans HXC.out.2.2.1
          have p3 := (hFu.below.cell (p := ⟨b, off + k * 4 + 3, none⟩) hbl).trans HXC.out.2.2.2
          refine owe_run rfl (wp_val (v := symV x) ?_ (hK' _ _ ⟨hS.1, fun h => hS.2.1 (setl_off h), fun h => hS.2.2.1 (setl_off h), fun h => hS.2.2.2 (by rwa [setl_ne (by decide)] at h)⟩ (fun _ _ _ h => h) (fun _ => ⟨fun e => absurd e (by decide), fun e => absurd e (by decide), fun _ _ => rfl⟩)))
          first
            | (go_simp; done)
            | (go_simp; rfl)
        · intro n f A u K' hfr hn hl hS hv hK'
          have eA0 : A.tmps.getD 39 undef = symV x := hv.1.2.2 (by decide) (by decide)
          have eB0 : (A.tmps[39]?).getD undef = symV x := by simpa using eA0
          have k1 : Below u.heap.size u (u.alloc (.cells #[.string x.name, .int .i64 x.bind, .int .i64 x.whr, .int .i64 x.val] 78)) := ((From.start u).alloc _).below
          refine owe_run rfl (wp_val (v := .slice (some ⟨u.heap.size, 0, none⟩) 1 1) (w' := u.alloc (.cells #[.string x.name, .int .i64 x.bind, .int .i64 x.whr, .int .i64 x.val] 78)) ?_ (hK' _ _ ⟨hG _ _ k1 hS.1, fun h => (hS.2.1 (setl_off h)).call k1, fun h => owns_call (hS.2.2.1 (setl_off h)) k1, fun h => (by rw [setl_ne (by decide), hl.2.2 10 (by decide)] at h; cases h)⟩ (fun j y _ h => ⟨fun e => (have ⟨z, e1, e2⟩ := h.1 e; ⟨z, e1, e2.call k1⟩), fun e => owns_call (h.2.1 e) k1, h.2.2⟩) (fun _ => ⟨fun _ => ⟨_, rfl, Blk.new u _ _⟩, fun e => absurd e (by decide), fun e _ => absurd rfl e⟩)))
          first
            | (go_simp; done)
            | (go_simp; rfl)
        · intro n f A u K' hfr hn hl hS hv hK'
          have eA0 : A.tmps.getD 34 undef = .slice yb U.length yd := hv.1.2.2 (by decide) (by decide)
          obtain ⟨z, e8, hz8⟩ := hv.2.1.1 rfl
          have hown := hS.2.2.1 hl.1
          have hQo := hS.2.1 (hl.2.2 10 (by decide))
          refine step_append_src rfl (.tmp 34) (.tmp 40) 24 24 rfl B 78 y0 _ 4 40 Try.underlying24 hy0 ya0 ya1 ya2 rfl (by decide) _ _ _ eA0 hown _ 1 (symL x) e8 (src_blk Try.underlying24 u z (symL x) 4 1 1 78 hz8 rfl (by intro u hu; simp only [List.mem_cons, List.not_mem_nil, or_false] at hu; rcases hu with rfl | rfl | rfl | rfl <;> rfl)) (by unfold maxLen; omega) (by omega) (by have := hQo.lt; omega) ?_
          intro v' w1 hown1 hgr1
          have hY7 : OwnSyms w1 B v' (U ++ [x]) := by
            have h2 : w1.ownsRow B 78 4 v' (U.length + 1) (U.flatMap symL ++ symL x) := hown1
            unfold OwnSyms
            rw [List.length_append, List.flatMap_append]
            simpa using h2
          exact hK' _ _ ⟨⟨OwnSecs.keptNe hS.1.1 hown (by decide) (by decide) (by decide) hgr1, owns_keptNe hS.1.2.1 hown (by decide) hgr1, Blk.grown hS.1.2.2.1 hgr1 (fun e => blk_apart hS.1.2.2.1 hown (by decide) e), Blk.grown hS.1.2.2.2.1 hgr1 (fun e => blk_apart hS.1.2.2.2.1 hown (by decide) e), From.grown hS.1.2.2.2.2 hgr1 (fun k' hk' => by have := (World.ownsRow.lt hown k' hk').1; omega)⟩, fun h => Blk.grown hQo hgr1 (fun e => blk_apart hQo hown (by decide) e), fun h => (by rw [setl_at] at h; cases h), fun h => (by rw [setl_ne (by decide), hl.2.2 10 (by decide)] at h; cases h)⟩ (fun j y hj h => ⟨fun e => by subst e; exact absurd hj (by decide), fun e => by subst e; exact absurd hj (by decide), h.2.2⟩) (fun _ => ⟨fun e => absurd e (by decide), fun _ => hY7, fun _ e => absurd rfl e⟩)
        · intro n f A u K' hfr hn hl hS hv hK'
          have eA9 : A.tmps.getD 5 undef = .pointer (some ⟨q, 0, none⟩) := hfr 5 (no_dst (by kernel_rfl))
          have eB9 : (A.tmps[5]?).getD undef = .pointer (some ⟨q, 0, none⟩) := by simpa using eA9
          refine owe_run rfl (wp_val (v := .pointer (some ⟨q, 1, none⟩)) ?_ (hK' _ _ ⟨hS.1, fun h => hS.2.1 (setl_off h), fun h => hS.2.2.1 (setl_off h), fun h => hS.2.2.2 (by rwa [setl_ne (by decide)] at h)⟩ (fun _ _ _ h => h) (fun _ => ⟨fun e => absurd e (by decide), fun e => absurd e (by decide), fun _ _ => rfl⟩)))
          first
            | (go_simp; done)
            | (go_simp; rfl)
        · intro n f A u K' hfr hn hl hS hv hK'
          have hY8 := hv.1.2.1 rfl
          have eA1 : A.tmps.getD 42 undef = .pointer (some ⟨q, 1, none⟩) := hv.2.1.2.2 (by decide) (by decide)
          have eB1 : (A.tmps[42]?).getD undef = .pointer (some ⟨q, 1, none⟩) := by simpa using eA1
          obtain ⟨yb2, yd2, e8⟩ := owns_form hY8
          rw [e8] at hY8
          have e9 : (A.tmps[41]?).getD undef = .slice yb2 (U ++ [x]).length yd2 := by simpa using e8
          have hQo := hS.2.1 hl.1
          have cq := hQo.cell
          have fq := hQo.frozen
          have hQn : Blk (u.setCell ⟨q, 1, none⟩ (.slice yb2 (U ++ [x]).length yd2)) q #[.slice pa n1 pc, .slice yb2 (U ++ [x]).length yd2] 26 := by
            have := hQo.set (o := 1) (.slice yb2 (U ++ [x]).length yd2)
            simpa using this
          refine owe_run rfl (wp_skp (w' := u.setCell ⟨q, 1, none⟩ (.slice yb2 (U ++ [x]).length yd2)) ?_ (hK' undef _ ⟨⟨hS.1.1.storeB hQo (by decide) (by decide) (by decide) 1 _, row_storeB hS.1.2.1 hQo (by decide) 1 _, hS.1.2.2.1.other (p := ⟨q, 1, none⟩) (by show q ≠ _; omega) _, hS.1.2.2.2.1.other (p := ⟨q, 1, none⟩) (by show q ≠ _; omega) _, hS.1.2.2.2.2.setCell (p := ⟨q, 1, none⟩) (by show _ ≤ q; omega) _⟩, fun h => (by rw [setl_at] at h; cases h), fun h => (by rw [setl_ne (by decide), hl.2.1 8 (by decide)] at h; cases h), fun _ => ⟨yb2, yd2, hQn, row_storeB hY8 hQo (by decide) 1 _⟩⟩ (fun j y hj h => ⟨fun e => by subst e; exact absurd hj (by decide), fun e => by subst e; exact absurd hj (by decide), h.2.2⟩) (fun h => absurd rfl h)))
          first
            | (go_simp; done)
            | (go_simp; rfl)
      case hq =>
        intro gg u hS hv
        clear hv f0
        obtain ⟨yb2, yd2, hQ9, hY9⟩ := hS.2.2.2 (by decide)
        have hG9 : G u := hS.1
        have HS9 := Lib.hid hG9.1
        have HI9 := Lib.hid hG9.2.1
        have HR9 := Lib.hid hG9.2.2.1
        have HB9 := Lib.hid hG9.2.2.2.1
        have HF9 := Lib.hid hG9.2.2.2.2
        have HQ9 := Lib.hid hQ9
        have HY9 := Lib.hid hY9
        have hl2 : (U ++ [x]).length ≤ k + 1 := by rw [List.length_append]; simp; omega
        obtain ⟨U2, hU2⟩ : ∃ U2, U ++ [x] = U2 := ⟨_, rfl⟩
        rw [hU2] at HQ9 HY9 HU2 hl2
        clear hS hG9 hQ9 hY9 hG G hU2 HS5 HI5 HR5 HB5 HF5 HQ5 HY5
        simp only [List.map, putG, List.setIfInBounds_toArray, List.set_cons_succ, List.set_cons_zero]
        go_wp2_with fail
        go_roundw
        case rel => exact ⟨k + 1, U2, yb2, yd2, ta2, tc2, by omega, by go_num, rfl, hl2, HU2, HS9, HY9, HI9, HR9, HQ9, HB9, HF9⟩
        case measure => simp [intOf]; try omega
    · obtain rfl : n2 = k := by omega
      have HUf : Hid (U = keepL K o.syms) := by
        show _ = _
        have := HU.out
        rw [← HN2.out, List.take_length, HN2.out, ← HKl.out, List.take_length] at this
        exact this
      have HFt : Hid (∀ s ∈ o.secs, ∀ f ∈ s.fix, ∃ m : Nat, f.2.2.1 = (m : Int) ∧ m < n2 ∧ (numU K n2)[m]? = some (fixTo K f).2.2.1) := fun s hs f hf => by
        have h1 := HFX.out s hs f hf
        rw [HN2.out] at h1
        refine ⟨f.2.2.1.toNat, by omega, by omega, ?_⟩
        rw [numU_get K n2 _ (by omega)]
        rfl
      go_wp2_with fail
      go_loopw [8] (fun i wr => ∃ (k : Nat) (D R : List (SecD × Value × Value)), D.length = k ∧ k + R.length = n1 ∧ i = .int .i64 k ∧ Hid (D.map (·.1) = (o.secs.take k).map (secTo K)) ∧ Hid (R.map (·.1) = o.secs.drop k) ∧ Hid (OwnSecs wr B (.slice pa n1 pc) (D ++ R)) ∧ Hid (OwnSyms wr B (.slice yb U.length yd) U) ∧ Hid (wr.ownsRow B 3 1 (.slice ta n2 tc) n2 (ivs (numU K n2))) ∧ Hid (Blk wr (w.heap.size + 1) #[.slice none 0 0, .slice none 0 0] 26) ∧ Hid (Blk wr q #[.slice pa n1 pc, .slice yb U.length yd] 26) ∧ Hid (From w.heap.size w wr)) (fun i _ => n1 - (intOf i).toNat)
      case atStart => exact ⟨0, [], ls, rfl, by omega, rfl, rfl, (by show _ = _; rw [← HSE.out]; rfl), HS, HY, HI, HR, HQ, HF⟩
      case round =>
        clear HS HY HI HR HQ HB HF cQ fQ zQ cB zB1 hlt hk HU
        obtain ⟨k, D, R, hDk, hDR, rfl, HD1, HR1, HS, HY, HI, HR, HQ, HF⟩ := hrel
        have cQ := HQ.out.cell
        have fQ := HQ.out.frozen
        have zQ := HQ.out.lt
        have hkn1 : k ≤ n1 := by omega
        by_cases hlt : k < n1
        · have i1 : (k : Int) < (n1 : Int) := by omega
          have i3 : (0 : Int) ≤ (k : Int) := by omega
          cases R with
          | nil => exfalso; simp at hDR; omega
          | cons x R' =>
          have hltL : k < o.secs.length := by rw [HN1.out]; exact hlt
          have hR2 := HR1.out
          rw [List.drop_eq_getElem_cons hltL, List.map_cons] at hR2
          simp only [List.cons.injEq] at hR2
          have HR2 : Hid (R'.map (·.1) = o.secs.drop (k + 1)) := hR2.2
          have HTk : Hid ((o.secs.take (k + 1)).map (secTo K) = D.map (·.1) ++ [secTo K x.1]) := by show _ = _; rw [List.take_succ_eq_append_getElem hltL, List.map_append, HD1.out, hR2.1]; rfl
          have HFk : Hid (∀ f ∈ x.1.fix, ∃ m : Nat, f.2.2.1 = (m : Int) ∧ m < n2 ∧ (numU K n2)[m]? = some (fixTo K f).2.2.1) := fun f hf => HFt.out o.secs[k] (List.getElem_mem hltL) f (by rw [← hR2.1]; exact hf)
          have HFw := (HFew.out.2.2 o.secs[k] (List.getElem_mem hltL)).2
          rw [← hR2.1] at HFw
          obtain ⟨x, vb, vf⟩ := x
          simp only at HTk HFk HFw
          have hm := HS.out.each (x, vb, vf) (by simp)
          obtain ⟨ba, bc, rfl⟩ : ∃ ba bc, vb = .slice ba x.bytes.length bc := owns_form hm.1
          obtain ⟨fa, fc, rfl⟩ : ∃ fa fc, vf = .slice fa x.fix.length fc := owns_form hm.2
          obtain ⟨pg, pg2, hpv⟩ := row_some HS.out.row (by intro e; simp only [Value.slice.injEq] at e; omega)
          simp only [Value.slice.injEq] at hpv
          obtain ⟨rfl, -, rfl⟩ := hpv
          have hlen : n1 = (D ++ (x, Value.slice ba x.bytes.length bc, Value.slice fa x.fix.length fc) :: R').length := by rw [List.length_append, List.length_cons]; simp at hDR; omega
          have hlen2 : n1 = D.length + (R'.length + 1) := by rw [hlen, List.length_append, List.length_cons]
          have HLEN := Lib.hid hlen2
          obtain ⟨nb, hnb⟩ : ∃ nb, x.bytes.length = nb := ⟨_, rfl⟩
          obtain ⟨nf, hnf⟩ : ∃ nf, x.fix.length = nf := ⟨_, rfl⟩
          have HNF := Lib.hid hnf
          rw [hnf] at HFw
          have HS0 : Hid (OwnSecs wr B (.slice (some ⟨pg, 0, none⟩) n1 pc) (D ++ ((⟨x.name, x.kind, x.align, x.bytes, x.size, mapK (fixTo K) x.fix 0⟩ : SecD), Value.slice ba nb bc, Value.slice fa nf fc) :: R')) := by
            show OwnSecs _ _ _ _
            rw [mapK_zero, ← hnb, ← hnf]
            exact HS.out
          clear hm hlen hlen2 hnb hnf hR2 HR1 HD1 HS
          go_wp2_with fail
          go_loopw [9] (fun i wr => ∃ (j : Nat), j ≤ nf ∧ i = .int .i64 j ∧ Hid (OwnSecs wr B (.slice (some ⟨pg, 0, none⟩) n1 pc) (D ++ ((⟨x.name, x.kind, x.align, x.bytes, x.size, mapK (fixTo K) x.fix j⟩ : SecD), Value.slice ba nb bc, Value.slice fa nf fc) :: R')) ∧ Hid (OwnSyms wr B (.slice yb U.length yd) U) ∧ Hid (wr.ownsRow B 3 1 (.slice ta n2 tc) n2 (ivs (numU K n2))) ∧ Hid (Blk wr (w.heap.size + 1) #[.slice none 0 0, .slice none 0 0] 26) ∧ Hid (Blk wr q #[.slice (some ⟨pg, 0, none⟩) n1 pc, .slice yb U.length yd] 26) ∧ Hid (From w.heap.size w wr)) (fun i _ => nf - (intOf i).toNat)
          case atStart => exact ⟨0, Nat.zero_le _, rfl, HS0, HY, HI, HR, HQ, HF⟩
          case round =>
            clear HS0 HY HI HR HQ HF cQ fQ zQ
            obtain ⟨j, hj, rfl, HS, HY, HI, HR, HQ, HF⟩ := hrel
            have cQ := HQ.out.cell
            have zQ := HQ.out.lt
            obtain ⟨F, hF⟩ : ∃ F, mapK (fixTo K) x.fix j = F := ⟨_, rfl⟩
            have hlenM : F.length = nf := by rw [← hF, mapK_length, HNF.out]
            rw [hF] at HS
            have q5 := HS.out.cell (by rw [List.length_append, List.length_cons]; exact HLEN.out) 5 (.slice fa nf fc) rfl
            rw [hDk] at q5
            by_cases hltj : j < nf
            · have j1 : (j : Int) < (nf : Int) := by omega
              have j3 : (0 : Int) ≤ (j : Int) := by omega
              have hjL : j < x.fix.length := by rw [HNF.out]; exact hltj
              have hg := mapK_get (fixTo K) x.fix j hjL
              have hstp := mapK_step (fixTo K) x.fix j hjL
              obtain ⟨m, hm1, hm2, hm3⟩ := HFk.out x.fix[j] (List.getElem_mem hjL)
              obtain ⟨y, hy⟩ : ∃ y, x.fix[j] = y := ⟨_, rfl⟩
              rw [hy] at hg hm1 hm3 hstp
              rw [hF] at hg hstp
              have hmF : OwnF wr B (.slice fa nf fc) F := (HS.out.each ((⟨x.name, x.kind, x.align, x.bytes, x.size, F⟩ : SecD), Value.slice ba nb bc, Value.slice fa nf fc) (by simp)).2
              obtain ⟨fg, fg2, hfv⟩ := row_some hmF (by intro e; simp only [Value.slice.injEq] at e; omega)
              simp only [Value.slice.injEq] at hfv
              obtain ⟨rfl, -, rfl⟩ := hfv
              obtain ⟨zg, zg2, hzv⟩ := row_some HI.out (by intro e; simp only [Value.slice.injEq] at e; omega)
              simp only [Value.slice.injEq] at hzv
              obtain ⟨rfl, -, rfl⟩ := hzv
              have d2 : wr.cell? ⟨fg, j * 4 + 2, none⟩ = some (.int .i64 (m : Int)) := by rw [fix_cell hmF hlenM hg 2 (by decide)]; simp [fixL, hm1]
              have hmF2 : wr.ownsRow B 80 4 (.slice (some ⟨fg, 0, none⟩) nf fc) nf (fixCells F) := by
                have := hmF
                unfold OwnF at this
                rw [hlenM] at this
                exact this
              have ff := World.ownsRow.frozenAt hmF2 (j * 4 + 2)
              have hnum : wr.cell? ⟨zg, m, none⟩ = some (.int .i64 (fixTo K y).2.2.1) := by
                have := World.ownsRow.cellAt HI.out m (by omega)
                rw [this, ivs_get hm3]
              have hfix := OwnSecs.fixAt HS.out hlenM hg 2 (by decide) (.int .i64 (fixTo K y).2.2.1) (f' := fixTo K y) (by obtain ⟨a, b, c, d⟩ := y; rfl)
              have hfr : ∀ (g' : Nat) (c : Array Value) (t : TypeId), Blk wr g' c t → 80 ≠ t → fg ≠ g' := fun g' c t hu hne e => blk_apart hu hmF2 hne (by rw [← e]; rfl)
              have nR : fg ≠ w.heap.size + 1 := hfr _ _ _ HR.out (by decide)
              have nQ : fg ≠ q := hfr _ _ _ HQ.out (by decide)
              have hfgB := (World.ownsRow.lt hmF2 fg rfl).1
              have HS9 : Hid (OwnSecs (wr.setCell ⟨fg, j * 4 + 2, none⟩ (.int .i64 (fixTo K y).2.2.1)) B (.slice (some ⟨pg, 0, none⟩) n1 pc) (D ++ ((⟨x.name, x.kind, x.align, x.bytes, x.size, mapK (fixTo K) x.fix (j + 1)⟩ : SecD), Value.slice ba nb bc, Value.slice (some ⟨fg, 0, none⟩) nf fc) :: R')) := by
                show OwnSecs _ _ _ _
                rw [hstp]
                exact hfix.1
              have hgw := (World.ownsRow.stored hmF2 (j * 4 + 2) (.int .i64 (fixTo K y).2.2.1)).2
              have HY9 : Hid (OwnSyms (wr.setCell ⟨fg, j * 4 + 2, none⟩ (.int .i64 (fixTo K y).2.2.1)) B (.slice yb U.length yd) U) := owns_keptNe HY.out hmF2 (by decide) hgw
              have HI9 : Hid ((wr.setCell ⟨fg, j * 4 + 2, none⟩ (.int .i64 (fixTo K y).2.2.1)).ownsRow B 3 1 (.slice (some ⟨zg, 0, none⟩) n2 tc) n2 (ivs (numU K n2))) := owns_keptNe HI.out hmF2 (by decide) hgw
              have HR9 := Lib.hid (Blk.other HR.out (p := ⟨fg, j * 4 + 2, none⟩) nR (.int .i64 (fixTo K y).2.2.1))
              have HQ9 := Lib.hid (Blk.other HQ.out (p := ⟨fg, j * 4 + 2, none⟩) nQ (.int .i64 (fixTo K y).2.2.1))
              have HF9 := Lib.hid (From.setCell HF.out (p := ⟨fg, j * 4 + 2, none⟩) (by show _ ≤ fg; omega) (.int .i64 (fixTo K y).2.2.1))
              have mi : (m : Int) < (n2 : Int) := by omega
              have mi0 : (0 : Int) ≤ (m : Int) := by omega
              obtain ⟨t, ht⟩ : ∃ t, (fixTo K y).2.2.1 = t := ⟨_, rfl⟩
              rw [ht] at hnum HS9 HY9 HI9 HR9 HQ9 HF9
              clear hfix hfr hgw ht hstp hmF hmF2 hm1 hm3 hg hF hy HS HY HI HR HQ HF
              go_wp2_with fail
              go_still_tail 13, (by kernel_rfl)
              change wpList _ _ _ _ _ wr.drew
              have hd9 : Below (wr.setCell ⟨fg, j * 4 + 2, none⟩ (.int .i64 t)).heap.size (wr.setCell ⟨fg, j * 4 + 2, none⟩ (.int .i64 t)) ((wr.setCell ⟨fg, j * 4 + 2, none⟩ (.int .i64 t)).drew) := (From.start _).drew.below
              have HS8 := Lib.hid (HS9.out.call hd9)
              have HY8 : Hid (OwnSyms ((wr.setCell ⟨fg, j * 4 + 2, none⟩ (.int .i64 t)).drew) B (.slice yb U.length yd) U) := owns_call HY9.out hd9
              have HI8 : Hid (((wr.setCell ⟨fg, j * 4 + 2, none⟩ (.int .i64 t)).drew).ownsRow B 3 1 (.slice (some ⟨zg, 0, none⟩) n2 tc) n2 (ivs (numU K n2))) := owns_call HI9.out hd9
              have HR8 := Lib.hid (HR9.out.call hd9)
              have HQ8 := Lib.hid (HQ9.out.call hd9)
              have HF8 := Lib.hid (HF9.out.call hd9)
              have d3 : wr.drew.cell? ⟨fg, j * 4 + 2, none⟩ = some (.int .i64 (m : Int)) := d2
              have ff3 : wr.drew.frozen? ⟨fg, j * 4 + 2, none⟩ = false := ff
              clear hd9 HS9 HY9 HI9 HR9 HQ9 HF9 d2 ff cQ q5 hnum
              go_wp2_with fail
              go_roundw
              case rel => exact ⟨j + 1, by omega, by go_num, HS8, HY8, HI8, HR8, HQ8, HF8⟩
              case measure => simp [intOf]; try omega
            · obtain rfl : nf = j := by omega
              have HS5 : Hid (OwnSecs wr B (.slice (some ⟨pg, 0, none⟩) n1 pc) ((D ++ [(secTo K x, Value.slice ba nb bc, Value.slice fa nf fc)]) ++ R')) := by
                show OwnSecs _ _ _ _
                have := HS.out
                rw [← hF, ← HNF.out, mapK_full, HNF.out] at this
                rw [List.append_assoc]
                exact this
              go_wp2_with fail
              go_roundw
              case rel => exact ⟨k + 1, D ++ [(secTo K x, Value.slice ba nb bc, Value.slice fa nf fc)], R', by rw [List.length_append, hDk]; rfl, by simp at hDR; omega, by go_num, by show _ = _; rw [HTk.out, List.map_append]; rfl, HR2, HS5, HY, HI, HR, HQ, HF⟩
              case measure => simp [intOf]; try omega
        · obtain rfl : n1 = k := by omega
          obtain rfl : R = [] := List.eq_nil_of_length_eq_zero (by omega)
          have hfin : o.secs.map (secTo K) = D.map (·.1) := by rw [HD1.out, ← HN1.out, List.take_length]
          have HSf := Lib.hid HS.out
          rw [List.append_nil] at HSf
          have cR := HR.out.cell
          have fR := HR.out.frozen
          have zR := HR.out.lt
          have hne : q ≠ w.heap.size + 1 := by omega
          go_wp2_with fail
          refine bodyPost_ret (v := .agg #[.slice pa n1 pc, .slice yb U.length yd]) (by simp [results, Try.results91, go_sem, cR, zR]) rfl ⟨_, rfl, ⟨_, _, D, rfl, hfin, ?_, ?_, ?_⟩, ?_⟩
          · exact ((HSf.out.setBelow (a := ⟨w.heap.size + 1, 0, none⟩) zB _).setBelow (a := ⟨w.heap.size + 1, 1, none⟩) zB _).mono (show w.heap.size ≤ B by omega)
          · have h := ownsRow_setCell_below (ownsRow_setCell_below HY.out (a := ⟨w.heap.size + 1, 0, none⟩) zB (.slice pa n1 pc)) (a := ⟨w.heap.size + 1, 1, none⟩) zB (.slice yb U.length yd)
            show OwnSyms _ _ _ (keepL K o.syms)
            rw [← HUf.out]
            exact owns_mono h (show w.heap.size ≤ B by omega)
          · exact secs_row_ne HSf.out HY.out (by decide) (by decide) (by decide)
          · exact ((HF.out.setCell (p := ⟨w.heap.size + 1, 0, none⟩) (Nat.le_succ _) (.slice pa n1 pc)).setCell (p := ⟨w.heap.size + 1, 1, none⟩) (Nat.le_succ _) (.slice yb U.length yd)).below
/-! StripS -/
open Go.ChangeShapes Go.WideShapes Go.ChangeAt Go.RowKit Go.Joins
set_option linter.unusedSimpArgs false
set_option linter.unusedVariables false
set_option maxRecDepth 100000
theorem bbs_append (a b : List Bool) : bbs (a ++ b) = bbs a ++ bbs b := by simp [bbs]
theorem maskL_take (p : Nat → SymD → Bool) (l : List SymD) (k : Nat) (hk : k < l.length) : maskL p (l.take (k + 1)) = maskL p (l.take k) ++ [p k l[k]] := by
  unfold maskL
  rw [List.take_succ_eq_append_getElem hk, List.mapIdx_append]
  simp [Nat.min_eq_left (Nat.le_of_lt hk)]
theorem OwnObj.setBelow {w : World} {base : Nat} {v : Value} {o : ObjD} (h : OwnObj w base v o) {a : Addr} (ha : a.block < base) (u : Value) : OwnObj (w.setCell a u) base v o := by
  obtain ⟨vs, vy, ls, h1, h2, h3, h4, h5⟩ := h
  exact ⟨vs, vy, ls, h1, h2, h3.setBelow ha u, ownsRow_setCell_below h4 ha u, h5⟩
set_option maxHeartbeats 8000000 in
theorem s_StripLocals (w : World) (v : Value) (o : ObjD) (h : ObjAt w v o) (hw : FewObj o) (hs : (∀ s ∈ o.secs, s.name.size ≤ maxLen) ∧ ∀ s ∈ o.syms, s.name.size ≤ maxLen) :
    Calls Try.prog 35 #[v] w fun e w' => ∃ r, e = .returned r ∧ OwnObj w' w.heap.size r (stripO localK o) ∧ Below w.heap.size w w' := by
  obtain ⟨l0, hl0, la0, la1, la2⟩ := info_parts info_bool
  have HOB := Lib.hid h
  have HN0 := Lib.hid hs
  have HFw := Lib.hid hw
  have hf2 := hw.2.1
  obtain ⟨sa, sc, ya, yc, rfl⟩ := h.agg
  clear h hs hw
  obtain ⟨n1, hn1⟩ : ∃ n1, o.secs.length = n1 := ⟨_, rfl⟩
  obtain ⟨n2, hn2⟩ : ∃ n2, o.syms.length = n2 := ⟨_, rfl⟩
  have HN1 := Lib.hid hn1
  have HN2 := Lib.hid hn2
  rw [hn2] at hf2
  rw [hn1, hn2] at HOB ⊢
  clear hn1 hn2
  have HF0 := Lib.hid (((From.start w).alloc (.cells #[.slice sa n1 sc, .slice ya n2 yc] 26)).alloc (.cells #[.slice none 0 0, .slice none 0 0] 26))
  have HB0 := Lib.hid ((Blk.new w #[.slice sa n1 sc, .slice ya n2 yc] 26).alloc (.cells #[.slice none 0 0, .slice none 0 0] 26))
  have hr0 : Blk ((w.alloc (.cells #[.slice sa n1 sc, .slice ya n2 yc] 26)).alloc (.cells #[.slice none 0 0, .slice none 0 0] 26)) (w.heap.size + 1) #[.slice none 0 0, .slice none 0 0] 26 := Blk.newAt _ _ _ _ (by simp)
  have HR0 := Lib.hid hr0
  clear hr0
  cases hq : objB o
  · have E : stripO localK o = ⟨[], []⟩ := by unfold stripO; rw [hq]; rfl
    rw [E]
    go_enter Try.func35, Try.ntmps35
    go_wp2_with fail
    generalize hw1 : (w.alloc (.cells #[.slice sa n1 sc, .slice ya n2 yc] 26)).alloc (.cells #[.slice none 0 0, .slice none 0 0] 26) = W at *
    clear hw1
    refine (s_l1OwnObject W _ o (HOB.out.below (Nat.le_refl _) HF0.out.below) HFw.out).mono ?_
    rintro e w1 ⟨r, rfl, ho, k1⟩
    have hrd := ho.reads
    obtain ⟨ra, rc, rb, rd, rfl⟩ := hrd.agg
    rw [HN1.out, HN2.out] at ho hrd ⊢
    have HF1 := Lib.hid (HF0.out.call k1)
    have HB1 := Lib.hid (HB0.out.call k1)
    have HR1 := Lib.hid (HR0.out.call k1)
    have HO1 := Lib.hid ho
    have hwW : w.heap.size < W.heap.size := by have := HB0.out.lt; exact this
    have HO3 := Lib.hid ((HO1.out.setBelow (a := ⟨w.heap.size, 0, none⟩) hwW (.slice ra n1 rc)).setBelow (a := ⟨w.heap.size, 1, none⟩) hwW (.slice rb n2 rd))
    have cb := HB1.out.cell
    have fb := HB1.out.frozen
    have zb := HB1.out.lt
    clear ho hrd k1 HF0 HB0 HR0
    have hb2 : Blk ((w1.setCell ⟨w.heap.size, 0, none⟩ (.slice ra n1 rc)).setCell ⟨w.heap.size, 1, none⟩ (.slice rb n2 rd)) w.heap.size #[.slice ra n1 rc, .slice rb n2 rd] 26 := by
      have := (HB1.out.set (o := 0) (.slice ra n1 rc)).set (o := 1) (.slice rb n2 rd)
      simpa using this
    have HB2 := Lib.hid hb2
    have HF2 := Lib.hid ((HF1.out.setCell (p := ⟨w.heap.size, 0, none⟩) (Nat.le_refl _) (.slice ra n1 rc)).setCell (p := ⟨w.heap.size, 1, none⟩) (Nat.le_refl _) (.slice rb n2 rd))
    have HR2 := Lib.hid ((HR1.out.other (p := ⟨w.heap.size, 0, none⟩) (by show w.heap.size ≠ _; omega) (.slice ra n1 rc)).other (p := ⟨w.heap.size, 1, none⟩) (by show w.heap.size ≠ _; omega) (.slice rb n2 rd))
    have HO2 := Lib.hid HO3.out.reads
    clear hb2 HB1 HF1 HR1 HO1 HO3
    go_wp2_with fail
    generalize hw2 : (w1.setCell ⟨w.heap.size, 0, none⟩ (.slice ra n1 rc)).setCell ⟨w.heap.size, 1, none⟩ (.slice rb n2 rd) = w2 at *
    clear hw2 cb fb zb
    refine (s_ObjectValid _ _ o HO2.out HN0.out).mono ?_
    rw [hq]
    rintro e w3 ⟨rfl, k3⟩
    have HF3 := Lib.hid (HF2.out.call k3)
    have HR3 := Lib.hid (HR2.out.call k3)
    have cR := HR3.out.cell
    have fR := HR3.out.frozen
    have zR := HR3.out.lt
    clear k3 hq
    go_wp2_with fail
    refine bodyPost_ret (v := .agg #[.slice none 0 0, .slice none 0 0]) (by simp [results, Try.results35, go_sem, cR, zR]) rfl ⟨_, rfl, ⟨_, _, [], rfl, rfl, ⟨World.ownsRow_nil _ _ _ _, (fun x hx => by cases hx), by simp [blksOf, Value.ownBlock]⟩, World.ownsRow_nil _ _ _ _, fun k hk => by cases hk⟩, ?_⟩
    exact ((HF3.out.setCell (p := ⟨w.heap.size + 1, 0, none⟩) (Nat.le_succ _) (.slice none 0 0)).setCell (p := ⟨w.heap.size + 1, 1, none⟩) (Nat.le_succ _) (.slice none 0 0)).below
  have HFew := Lib.hid (objB_fewO hq)
  have HFX : Hid (∀ s ∈ o.secs, ∀ f ∈ s.fix, 0 ≤ f.2.2.1 ∧ f.2.2.1 < o.syms.length) := fun s hs f hf => ((objB_sec hq hs).fix f hf).to
  have EI : Hid (stripO localK o = keepO o (maskL (localK o.secs) o.syms)) := by show _ = _; unfold stripO; rw [hq, if_pos rfl]
  go_enter Try.func35, Try.ntmps35
  go_wp2_with fail
  generalize hw1 : (w.alloc (.cells #[.slice sa n1 sc, .slice ya n2 yc] 26)).alloc (.cells #[.slice none 0 0, .slice none 0 0] 26) = W at *
  clear hw1
  refine (s_l1OwnObject W _ o (HOB.out.below (Nat.le_refl _) HF0.out.below) HFw.out).mono ?_
  rintro e w1 ⟨r, rfl, ho, k1⟩
  have hrd := ho.reads
  obtain ⟨ra, rc, rb, rd, rfl⟩ := hrd.agg
  rw [HN1.out, HN2.out] at ho hrd ⊢
  have HF1 := Lib.hid (HF0.out.call k1)
  have HB1 := Lib.hid (HB0.out.call k1)
  have HR1 := Lib.hid (HR0.out.call k1)
  have HO1 := Lib.hid ho
  have hwW : w.heap.size < W.heap.size := by have := HB0.out.lt; exact this
  have HO3 := Lib.hid ((HO1.out.setBelow (a := ⟨w.heap.size, 0, none⟩) hwW (.slice ra n1 rc)).setBelow (a := ⟨w.heap.size, 1, none⟩) hwW (.slice rb n2 rd))
  have cb := HB1.out.cell
  have fb := HB1.out.frozen
  have zb := HB1.out.lt
  clear ho hrd k1 HF0 HB0 HR0
  have hb2 : Blk ((w1.setCell ⟨w.heap.size, 0, none⟩ (.slice ra n1 rc)).setCell ⟨w.heap.size, 1, none⟩ (.slice rb n2 rd)) w.heap.size #[.slice ra n1 rc, .slice rb n2 rd] 26 := by
    have := (HB1.out.set (o := 0) (.slice ra n1 rc)).set (o := 1) (.slice rb n2 rd)
    simpa using this
  have HB2 := Lib.hid hb2
  have HF2 := Lib.hid ((HF1.out.setCell (p := ⟨w.heap.size, 0, none⟩) (Nat.le_refl _) (.slice ra n1 rc)).setCell (p := ⟨w.heap.size, 1, none⟩) (Nat.le_refl _) (.slice rb n2 rd))
  have HR2 := Lib.hid ((HR1.out.other (p := ⟨w.heap.size, 0, none⟩) (by show w.heap.size ≠ _; omega) (.slice ra n1 rc)).other (p := ⟨w.heap.size, 1, none⟩) (by show w.heap.size ≠ _; omega) (.slice rb n2 rd))
  have HO2 := Lib.hid HO3.out.reads
  clear hb2 HB1 HF1 HR1 HO1 HO3
  go_wp2_with fail
  generalize hw2 : (w1.setCell ⟨w.heap.size, 0, none⟩ (.slice ra n1 rc)).setCell ⟨w.heap.size, 1, none⟩ (.slice rb n2 rd) = w2 at *
  clear hw2 cb fb zb
  refine (s_ObjectValid _ _ o HO2.out HN0.out).mono ?_
  rw [hq]
  rintro e w3 ⟨rfl, k3⟩
  have HF3 := Lib.hid (HF2.out.call k3)
  have HR3 := Lib.hid (HR2.out.call k3)
  have HB3 := Lib.hid (HB2.out.call k3)
  have HO3 := Lib.hid (HO2.out.below (Nat.le_refl _) k3)
  clear k3 hq HF2 HR2 HB2 HO2
  have HF4 := Lib.hid (HF3.out.alloc (.cells #[] 4))
  have HR4 := Lib.hid (HR3.out.alloc (.cells #[] 4))
  have HB4 := Lib.hid (HB3.out.alloc (.cells #[] 4))
  have HO4 := Lib.hid (HO3.out.below (Nat.le_refl _) ((From.start w3).alloc (.cells #[] 4)).below)
  have hk4 := World.ownsRow_lit w3 #[] (e := 4) (size := 1) (base := w3.heap.size) 0 (Nat.le_refl _) (Nat.zero_le _) rfl
  have HK4 : Hid ((w3.alloc (.cells #[] 4)).ownsRow w3.heap.size 4 1 (.slice (some ⟨w3.heap.size, 0, none⟩) 0 0) 0 (bbs (maskL (localK o.secs) (o.syms.take 0)))) := by show World.ownsRow _ _ _ _ _ _ _; simpa [maskL, bbs] using hk4
  have HX4 := Lib.hid ((From.start w3).alloc (.cells #[] 4))
  have hBM : w.heap.size < w3.heap.size := HB3.out.lt
  have hRM : w.heap.size + 1 < w3.heap.size := HR3.out.lt
  obtain ⟨vs', vy', hv', hsx, hyx⟩ := HO3.out
  simp only [Value.agg.injEq, Array.mk.injEq, List.cons.injEq, and_true] at hv'
  obtain ⟨rfl, rfl⟩ := hv'
  obtain ⟨ra', rc', hv', -, -, -, hcell⟩ := hyx.form
  simp only [Value.slice.injEq] at hv'
  obtain ⟨rfl, -, rfl⟩ := hv'
  have HD := Lib.hid hcell
  clear hk4 hsx hyx hcell HF4 HO4
  go_wp2_with fail
  generalize hw4 : w3.alloc (.cells #[] 4) = w4 at *
  clear hw4
  obtain ⟨M, hM⟩ : ∃ M, w3.heap.size = M := ⟨_, rfl⟩
  simp only [hM] at HK4 HX4 hBM hRM ⊢
  have HMe := Lib.hid hM
  clear hM
  go_loopw [3, 4] (fun kp i wr => ∃ (k : Nat) (ka : Option Addr) (kc : Nat), k ≤ n2 ∧ i = .int .i64 k ∧ kp = .slice ka k kc ∧ Hid (wr.ownsRow M 4 1 (.slice ka k kc) k (bbs (maskL (localK o.secs) (o.syms.take k)))) ∧ Hid (Blk wr w.heap.size #[.slice ra n1 rc, .slice rb n2 rd] 26) ∧ Hid (Blk wr (w.heap.size + 1) #[.slice none 0 0, .slice none 0 0] 26) ∧ Hid (From M w3 wr)) (fun _ i _ => n2 - (intOf i).toNat)
  case atStart => exact ⟨0, _, _, Nat.zero_le _, rfl, rfl, HK4, HB4, HR4, HX4⟩
  case round =>
    clear HK4 HB4 HR4 HX4
    obtain ⟨k, ka, kc, hk, rfl, rfl, HK, HB, HR, HX⟩ := hrel
    have cB := HB.out.cell
    have zB1 := HB.out.lt
    by_cases hlt : k < n2
    · have i1 : (k : Int) < (n2 : Int) := by omega
      have i3 : (0 : Int) ≤ (k : Int) := by omega
      obtain ⟨b, off, rfl, hc⟩ := HD.out (by have := HN2.out; omega)
      have hltL : k < o.syms.length := by rw [HN2.out]; exact hlt
      have c0 := hc k hltL
      have hbl : b < w3.heap.size := World.block_lt_of_cell? w3 _ c0.1
      rw [HMe.out] at hbl
      have HC := Lib.hid (c0.2.1)
      have HT := Lib.hid (maskL_take (localK o.secs) o.syms k hltL)
      have p0 := (HX.out.below.cell (p := ⟨b, off + k * 4 + 1, none⟩) hbl).trans HC.out
      clear hc c0
      generalize o.syms[k] = x at *
      obtain ⟨bq, hbq⟩ : ∃ bq, localK o.secs k x = bq := ⟨_, rfl⟩
      rw [hbq] at HT
      by_cases hx : x.bind = 0
      · have e0 : (x.bind != 0) = false := by simpa using hx
        have E : Hid (usedB o.secs k = bq) := by show _ = _; rw [← hbq]; unfold localK; simp [hx]
        clear hx hbq
        go_wp2_with fail
        refine (s_l9Used wr _ o (HO3.out.below (Nat.le_of_eq HMe.out) HX.out.below) (k : Int)).mono ?_
        rw [E.out]
        rintro e w5 ⟨rfl, k5⟩
        have HK := Lib.hid (owns_call HK.out k5)
        have HB := Lib.hid (HB.out.call k5)
        have HR := Lib.hid (HR.out.call k5)
        have HX := Lib.hid (HX.out.call k5)
        clear k5 p0 cB zB1
        have cB := HB.out.cell
        have zB1 := HB.out.lt
        go_wp2_with (at_builtin; refine wpList_append_src rfl (.tmp 19) (.tmp 32) 99 99 rfl M 4 l0 _ 1 1 Try.underlying99 hl0 la0 la1 la2 rfl (by decide) _ _ _ rfl (World.ownsRow.alloc HK.out _) _ 1 [_] rfl (src_new Try.underlying99 _ [_] 1 1 1 _ rfl ?c0) ?c1 ?c2 ?c3 ?_)
        case c0 => intro u hu; obtain rfl := List.mem_singleton.1 hu; rfl
        case c1 => unfold maxLen; omega
        case c2 => omega
        case c3 => have := HX.out.le; simp; omega
        intro v' w6 hown hgr
        have hK7 : w6.ownsRow M 4 1 v' (k + 1) (bbs (maskL (localK o.secs) (o.syms.take (k + 1)))) := by rw [HT.out, bbs_append]; skip; exact hown
        obtain ⟨va, vc, rfl⟩ := owns_form hK7
        have HK9 := Lib.hid hK7
        have hKr : (_ : World).ownsRow M 4 1 (.slice ka k kc) k (bbs (maskL (localK o.secs) (o.syms.take k))) := World.ownsRow.alloc HK.out (.cells #[.bool bq] 4)
        have HB9 := Lib.hid (Blk.grown (HB.out.alloc (.cells #[.bool bq] 4)) hgr (fun e => blk_apart (HB.out.alloc _) hKr (by decide) e))
        have HR9 := Lib.hid (Blk.grown (HR.out.alloc (.cells #[.bool bq] 4)) hgr (fun e => blk_apart (HR.out.alloc _) hKr (by decide) e))
        have HX9 := Lib.hid (From.grown (HX.out.alloc (.cells #[.bool bq] 4)) hgr (fun k' hk' => (World.ownsRow.lt HK.out k' hk').1))
        clear hown hgr hK7 hKr HK HB HR HX cB zB1
        go_wp2_with fail
        go_roundw
        case rel => exact ⟨k + 1, va, vc, by omega, by go_num, rfl, HK9, HB9, HR9, HX9⟩
        case measure => simp [intOf]; try omega
      · have e0 : (x.bind != 0) = true := by simpa using hx
        have E : Hid (bq = true) := by show _ = _; rw [← hbq]; unfold localK; simp [hx]
        clear hx hbq
        go_wp2_with (at_builtin; refine wpList_append_src rfl (.tmp 19) (.tmp 32) 99 99 rfl M 4 l0 _ 1 1 Try.underlying99 hl0 la0 la1 la2 rfl (by decide) _ _ _ rfl (World.ownsRow.alloc HK.out _) _ 1 [_] rfl (src_new Try.underlying99 _ [_] 1 1 1 _ rfl ?c0) ?c1 ?c2 ?c3 ?_)
        case c0 => intro u hu; obtain rfl := List.mem_singleton.1 hu; rfl
        case c1 => unfold maxLen; omega
        case c2 => omega
        case c3 => have := HX.out.le; simp; omega
        intro v' w6 hown hgr
        have hK7 : w6.ownsRow M 4 1 v' (k + 1) (bbs (maskL (localK o.secs) (o.syms.take (k + 1)))) := by rw [HT.out, bbs_append]; rw [E.out]; exact hown
        obtain ⟨va, vc, rfl⟩ := owns_form hK7
        have HK9 := Lib.hid hK7
        have hKr : (_ : World).ownsRow M 4 1 (.slice ka k kc) k (bbs (maskL (localK o.secs) (o.syms.take k))) := World.ownsRow.alloc HK.out (.cells #[.bool true] 4)
        have HB9 := Lib.hid (Blk.grown (HB.out.alloc (.cells #[.bool true] 4)) hgr (fun e => blk_apart (HB.out.alloc _) hKr (by decide) e))
        have HR9 := Lib.hid (Blk.grown (HR.out.alloc (.cells #[.bool true] 4)) hgr (fun e => blk_apart (HR.out.alloc _) hKr (by decide) e))
        have HX9 := Lib.hid (From.grown (HX.out.alloc (.cells #[.bool true] 4)) hgr (fun k' hk' => (World.ownsRow.lt HK.out k' hk').1))
        clear hown hgr hK7 hKr HK HB HR HX cB zB1
        go_wp2_with fail
        go_roundw
        case rel => exact ⟨k + 1, va, vc, by omega, by go_num, rfl, HK9, HB9, HR9, HX9⟩
        case measure => simp [intOf]; try omega
    · obtain rfl : n2 = k := by omega
      have HKf : Hid (wr.ownsRow M 4 1 (.slice ka n2 kc) n2 (bbs (maskL (localK o.secs) o.syms))) := by show World.ownsRow _ _ _ _ _ _ _; have := HK.out; rw [← HN2.out, List.take_length, HN2.out] at this; exact this
      have HRd : Hid (Reads wr 1 (.slice ka n2 kc) (maskL (localK o.secs) o.syms).length (bbs (maskL (localK o.secs) o.syms))) := by show Reads _ _ _ _ _; rw [maskL_length, HN2.out]; exact reads_of_owns HKf.out
      have HFr := Lib.hid (HF3.out.trans (HX.out.below.mono (show w.heap.size ≤ M by omega)))
      have HOr : Hid (ObjAt wr (.agg #[.slice ra n1 rc, .slice rb n2 rd]) o) := HO3.out.below (Nat.le_of_eq HMe.out) HX.out.below
      go_wp2_with fail
      refine (s_l9Keep wr _ _ o (maskL (localK o.secs) o.syms) HOr.out HRd.out (maskL_length _ _) HFew.out HFX.out).mono ?_
      rintro e w5 ⟨r, rfl, ⟨vs, vy, ls, rfl, hsecs, hS, hY, hd⟩, k5⟩
      obtain ⟨pa, pc, rfl⟩ := owns_form hS.row
      obtain ⟨qa, qc, rfl⟩ := owns_form hY
      have zM : M ≤ wr.heap.size := HX.out.le
      have zR2 : w.heap.size + 1 < wr.heap.size := HR.out.lt
      have HF5 := Lib.hid (HFr.out.call k5)
      have HR5 := Lib.hid (HR.out.call k5)
      have HS5 := Lib.hid hS
      have HY5 := Lib.hid hY
      have HD5 := Lib.hid hd
      have HSE := Lib.hid hsecs
      have cR := HR5.out.cell
      have fR := HR5.out.frozen
      have zR := HR5.out.lt
      clear hS hY hd hsecs k5 HK HB HR HX HRd HFr HOr HKf cB zB1
      obtain ⟨m1, hm1⟩ : ∃ m1, ls.length = m1 := ⟨_, rfl⟩
      obtain ⟨m2, hm2⟩ : ∃ m2, (keepO o (maskL (localK o.secs) o.syms)).syms.length = m2 := ⟨_, rfl⟩
      have HM1 := Lib.hid hm1
      have HM2 := Lib.hid hm2
      rw [hm1] at HS5 HD5 ⊢
      rw [hm2] at HY5 HD5 ⊢
      clear hm1 hm2
      go_wp2_with fail
      refine bodyPost_ret (v := .agg #[.slice pa m1 pc, .slice qa m2 qc]) (by simp [results, Try.results35, go_sem, cR, zR]) rfl ⟨_, rfl, ?_, ?_⟩
      · rw [EI.out]
        refine ⟨_, _, ls, rfl, HSE.out, ?_, ?_, HD5.out⟩
        · exact ((HS5.out.setBelow (a := ⟨w.heap.size + 1, 0, none⟩) zR2 _).setBelow (a := ⟨w.heap.size + 1, 1, none⟩) zR2 _).mono (show w.heap.size ≤ wr.heap.size by omega)
        · have h := ownsRow_setCell_below (ownsRow_setCell_below HY5.out (a := ⟨w.heap.size + 1, 0, none⟩) zR2 (.slice pa m1 pc)) (a := ⟨w.heap.size + 1, 1, none⟩) zR2 (.slice qa m2 qc)
          unfold OwnSyms
          rw [HM2.out]
          rw [HM2.out] at h
          exact owns_mono h (show w.heap.size ≤ wr.heap.size by omega)
      · exact ((HF5.out.setCell (p := ⟨w.heap.size + 1, 0, none⟩) (Nat.le_succ _) (.slice pa m1 pc)).setCell (p := ⟨w.heap.size + 1, 1, none⟩) (Nat.le_succ _) (.slice qa m2 qc)).below
set_option maxHeartbeats 8000000 in
theorem s_StripWanted (w : World) (v : Value) (o : ObjD) (h : ObjAt w v o) (hw : FewObj o) (hs : (∀ s ∈ o.secs, s.name.size ≤ maxLen) ∧ ∀ s ∈ o.syms, s.name.size ≤ maxLen) :
    Calls Try.prog 37 #[v] w fun e w' => ∃ r, e = .returned r ∧ OwnObj w' w.heap.size r (stripO wantK o) ∧ Below w.heap.size w w' := by
  obtain ⟨l0, hl0, la0, la1, la2⟩ := info_parts info_bool
  have HOB := Lib.hid h
  have HN0 := Lib.hid hs
  have HFw := Lib.hid hw
  have hf2 := hw.2.1
  obtain ⟨sa, sc, ya, yc, rfl⟩ := h.agg
  clear h hs hw
  obtain ⟨n1, hn1⟩ : ∃ n1, o.secs.length = n1 := ⟨_, rfl⟩
  obtain ⟨n2, hn2⟩ : ∃ n2, o.syms.length = n2 := ⟨_, rfl⟩
  have HN1 := Lib.hid hn1
  have HN2 := Lib.hid hn2
  rw [hn2] at hf2
  rw [hn1, hn2] at HOB ⊢
  clear hn1 hn2
  have HF0 := Lib.hid (((From.start w).alloc (.cells #[.slice sa n1 sc, .slice ya n2 yc] 26)).alloc (.cells #[.slice none 0 0, .slice none 0 0] 26))
  have HB0 := Lib.hid ((Blk.new w #[.slice sa n1 sc, .slice ya n2 yc] 26).alloc (.cells #[.slice none 0 0, .slice none 0 0] 26))
  have hr0 : Blk ((w.alloc (.cells #[.slice sa n1 sc, .slice ya n2 yc] 26)).alloc (.cells #[.slice none 0 0, .slice none 0 0] 26)) (w.heap.size + 1) #[.slice none 0 0, .slice none 0 0] 26 := Blk.newAt _ _ _ _ (by simp)
  have HR0 := Lib.hid hr0
  clear hr0
  cases hq : objB o
  · have E : stripO wantK o = ⟨[], []⟩ := by unfold stripO; rw [hq]; rfl
    rw [E]
    go_enter Try.func37, Try.ntmps37
    go_wp2_with fail
    generalize hw1 : (w.alloc (.cells #[.slice sa n1 sc, .slice ya n2 yc] 26)).alloc (.cells #[.slice none 0 0, .slice none 0 0] 26) = W at *
    clear hw1
    refine (s_l1OwnObject W _ o (HOB.out.below (Nat.le_refl _) HF0.out.below) HFw.out).mono ?_
    rintro e w1 ⟨r, rfl, ho, k1⟩
    have hrd := ho.reads
    obtain ⟨ra, rc, rb, rd, rfl⟩ := hrd.agg
    rw [HN1.out, HN2.out] at ho hrd ⊢
    have HF1 := Lib.hid (HF0.out.call k1)
    have HB1 := Lib.hid (HB0.out.call k1)
    have HR1 := Lib.hid (HR0.out.call k1)
    have HO1 := Lib.hid ho
    have hwW : w.heap.size < W.heap.size := by have := HB0.out.lt; exact this
    have HO3 := Lib.hid ((HO1.out.setBelow (a := ⟨w.heap.size, 0, none⟩) hwW (.slice ra n1 rc)).setBelow (a := ⟨w.heap.size, 1, none⟩) hwW (.slice rb n2 rd))
    have cb := HB1.out.cell
    have fb := HB1.out.frozen
    have zb := HB1.out.lt
    clear ho hrd k1 HF0 HB0 HR0
    have hb2 : Blk ((w1.setCell ⟨w.heap.size, 0, none⟩ (.slice ra n1 rc)).setCell ⟨w.heap.size, 1, none⟩ (.slice rb n2 rd)) w.heap.size #[.slice ra n1 rc, .slice rb n2 rd] 26 := by
      have := (HB1.out.set (o := 0) (.slice ra n1 rc)).set (o := 1) (.slice rb n2 rd)
      simpa using this
    have HB2 := Lib.hid hb2
    have HF2 := Lib.hid ((HF1.out.setCell (p := ⟨w.heap.size, 0, none⟩) (Nat.le_refl _) (.slice ra n1 rc)).setCell (p := ⟨w.heap.size, 1, none⟩) (Nat.le_refl _) (.slice rb n2 rd))
    have HR2 := Lib.hid ((HR1.out.other (p := ⟨w.heap.size, 0, none⟩) (by show w.heap.size ≠ _; omega) (.slice ra n1 rc)).other (p := ⟨w.heap.size, 1, none⟩) (by show w.heap.size ≠ _; omega) (.slice rb n2 rd))
    have HO2 := Lib.hid HO3.out.reads
    clear hb2 HB1 HF1 HR1 HO1 HO3
    go_wp2_with fail
    generalize hw2 : (w1.setCell ⟨w.heap.size, 0, none⟩ (.slice ra n1 rc)).setCell ⟨w.heap.size, 1, none⟩ (.slice rb n2 rd) = w2 at *
    clear hw2 cb fb zb
    refine (s_ObjectValid _ _ o HO2.out HN0.out).mono ?_
    rw [hq]
    rintro e w3 ⟨rfl, k3⟩
    have HF3 := Lib.hid (HF2.out.call k3)
    have HR3 := Lib.hid (HR2.out.call k3)
    have cR := HR3.out.cell
    have fR := HR3.out.frozen
    have zR := HR3.out.lt
    clear k3 hq
    go_wp2_with fail
    refine bodyPost_ret (v := .agg #[.slice none 0 0, .slice none 0 0]) (by simp [results, Try.results37, go_sem, cR, zR]) rfl ⟨_, rfl, ⟨_, _, [], rfl, rfl, ⟨World.ownsRow_nil _ _ _ _, (fun x hx => by cases hx), by simp [blksOf, Value.ownBlock]⟩, World.ownsRow_nil _ _ _ _, fun k hk => by cases hk⟩, ?_⟩
    exact ((HF3.out.setCell (p := ⟨w.heap.size + 1, 0, none⟩) (Nat.le_succ _) (.slice none 0 0)).setCell (p := ⟨w.heap.size + 1, 1, none⟩) (Nat.le_succ _) (.slice none 0 0)).below
  have HFew := Lib.hid (objB_fewO hq)
  have HFX : Hid (∀ s ∈ o.secs, ∀ f ∈ s.fix, 0 ≤ f.2.2.1 ∧ f.2.2.1 < o.syms.length) := fun s hs f hf => ((objB_sec hq hs).fix f hf).to
  have EI : Hid (stripO wantK o = keepO o (maskL (wantK o.secs) o.syms)) := by show _ = _; unfold stripO; rw [hq, if_pos rfl]
  go_enter Try.func37, Try.ntmps37
  go_wp2_with fail
  generalize hw1 : (w.alloc (.cells #[.slice sa n1 sc, .slice ya n2 yc] 26)).alloc (.cells #[.slice none 0 0, .slice none 0 0] 26) = W at *
  clear hw1
  refine (s_l1OwnObject W _ o (HOB.out.below (Nat.le_refl _) HF0.out.below) HFw.out).mono ?_
  rintro e w1 ⟨r, rfl, ho, k1⟩
  have hrd := ho.reads
  obtain ⟨ra, rc, rb, rd, rfl⟩ := hrd.agg
  rw [HN1.out, HN2.out] at ho hrd ⊢
  have HF1 := Lib.hid (HF0.out.call k1)
  have HB1 := Lib.hid (HB0.out.call k1)
  have HR1 := Lib.hid (HR0.out.call k1)
  have HO1 := Lib.hid ho
  have hwW : w.heap.size < W.heap.size := by have := HB0.out.lt; exact this
  have HO3 := Lib.hid ((HO1.out.setBelow (a := ⟨w.heap.size, 0, none⟩) hwW (.slice ra n1 rc)).setBelow (a := ⟨w.heap.size, 1, none⟩) hwW (.slice rb n2 rd))
  have cb := HB1.out.cell
  have fb := HB1.out.frozen
  have zb := HB1.out.lt
  clear ho hrd k1 HF0 HB0 HR0
  have hb2 : Blk ((w1.setCell ⟨w.heap.size, 0, none⟩ (.slice ra n1 rc)).setCell ⟨w.heap.size, 1, none⟩ (.slice rb n2 rd)) w.heap.size #[.slice ra n1 rc, .slice rb n2 rd] 26 := by
    have := (HB1.out.set (o := 0) (.slice ra n1 rc)).set (o := 1) (.slice rb n2 rd)
    simpa using this
  have HB2 := Lib.hid hb2
  have HF2 := Lib.hid ((HF1.out.setCell (p := ⟨w.heap.size, 0, none⟩) (Nat.le_refl _) (.slice ra n1 rc)).setCell (p := ⟨w.heap.size, 1, none⟩) (Nat.le_refl _) (.slice rb n2 rd))
  have HR2 := Lib.hid ((HR1.out.other (p := ⟨w.heap.size, 0, none⟩) (by show w.heap.size ≠ _; omega) (.slice ra n1 rc)).other (p := ⟨w.heap.size, 1, none⟩) (by show w.heap.size ≠ _; omega) (.slice rb n2 rd))
  have HO2 := Lib.hid HO3.out.reads
  clear hb2 HB1 HF1 HR1 HO1 HO3
  go_wp2_with fail
  generalize hw2 : (w1.setCell ⟨w.heap.size, 0, none⟩ (.slice ra n1 rc)).setCell ⟨w.heap.size, 1, none⟩ (.slice rb n2 rd) = w2 at *
  clear hw2 cb fb zb
  refine (s_ObjectValid _ _ o HO2.out HN0.out).mono ?_
  rw [hq]
  rintro e w3 ⟨rfl, k3⟩
  have HF3 := Lib.hid (HF2.out.call k3)
  have HR3 := Lib.hid (HR2.out.call k3)
  have HB3 := Lib.hid (HB2.out.call k3)
  have HO3 := Lib.hid (HO2.out.below (Nat.le_refl _) k3)
  clear k3 hq HF2 HR2 HB2 HO2
  have HF4 := Lib.hid (HF3.out.alloc (.cells #[] 4))
  have HR4 := Lib.hid (HR3.out.alloc (.cells #[] 4))
  have HB4 := Lib.hid (HB3.out.alloc (.cells #[] 4))
  have HO4 := Lib.hid (HO3.out.below (Nat.le_refl _) ((From.start w3).alloc (.cells #[] 4)).below)
  have hk4 := World.ownsRow_lit w3 #[] (e := 4) (size := 1) (base := w3.heap.size) 0 (Nat.le_refl _) (Nat.zero_le _) rfl
  have HK4 : Hid ((w3.alloc (.cells #[] 4)).ownsRow w3.heap.size 4 1 (.slice (some ⟨w3.heap.size, 0, none⟩) 0 0) 0 (bbs (maskL (wantK o.secs) (o.syms.take 0)))) := by show World.ownsRow _ _ _ _ _ _ _; simpa [maskL, bbs] using hk4
  have HX4 := Lib.hid ((From.start w3).alloc (.cells #[] 4))
  have hBM : w.heap.size < w3.heap.size := HB3.out.lt
  have hRM : w.heap.size + 1 < w3.heap.size := HR3.out.lt
  obtain ⟨vs', vy', hv', hsx, hyx⟩ := HO3.out
  simp only [Value.agg.injEq, Array.mk.injEq, List.cons.injEq, and_true] at hv'
  obtain ⟨rfl, rfl⟩ := hv'
  obtain ⟨ra', rc', hv', -, -, -, hcell⟩ := hyx.form
  simp only [Value.slice.injEq] at hv'
  obtain ⟨rfl, -, rfl⟩ := hv'
  have HD := Lib.hid hcell
  clear hk4 hsx hyx hcell HF4 HO4
  go_wp2_with fail
  generalize hw4 : w3.alloc (.cells #[] 4) = w4 at *
  clear hw4
  obtain ⟨M, hM⟩ : ∃ M, w3.heap.size = M := ⟨_, rfl⟩
  simp only [hM] at HK4 HX4 hBM hRM ⊢
  have HMe := Lib.hid hM
  clear hM
  go_loopw [3, 4] (fun kp i wr => ∃ (k : Nat) (ka : Option Addr) (kc : Nat), k ≤ n2 ∧ i = .int .i64 k ∧ kp = .slice ka k kc ∧ Hid (wr.ownsRow M 4 1 (.slice ka k kc) k (bbs (maskL (wantK o.secs) (o.syms.take k)))) ∧ Hid (Blk wr w.heap.size #[.slice ra n1 rc, .slice rb n2 rd] 26) ∧ Hid (Blk wr (w.heap.size + 1) #[.slice none 0 0, .slice none 0 0] 26) ∧ Hid (From M w3 wr)) (fun _ i _ => n2 - (intOf i).toNat)
  case atStart => exact ⟨0, _, _, Nat.zero_le _, rfl, rfl, HK4, HB4, HR4, HX4⟩
  case round =>
    clear HK4 HB4 HR4 HX4
    obtain ⟨k, ka, kc, hk, rfl, rfl, HK, HB, HR, HX⟩ := hrel
    have cB := HB.out.cell
    have zB1 := HB.out.lt
    by_cases hlt : k < n2
    · have i1 : (k : Int) < (n2 : Int) := by omega
      have i3 : (0 : Int) ≤ (k : Int) := by omega
      obtain ⟨b, off, rfl, hc⟩ := HD.out (by have := HN2.out; omega)
      have hltL : k < o.syms.length := by rw [HN2.out]; exact hlt
      have c0 := hc k hltL
      have hbl : b < w3.heap.size := World.block_lt_of_cell? w3 _ c0.1
      rw [HMe.out] at hbl
      have HC := Lib.hid (c0.2.2.1)
      have HT := Lib.hid (maskL_take (wantK o.secs) o.syms k hltL)
      have p0 := (HX.out.below.cell (p := ⟨b, off + k * 4 + 2, none⟩) hbl).trans HC.out
      clear hc c0
      generalize o.syms[k] = x at *
      obtain ⟨bq, hbq⟩ : ∃ bq, wantK o.secs k x = bq := ⟨_, rfl⟩
      rw [hbq] at HT
      by_cases hx : x.whr = -1
      · have e0 : (x.whr != -1) = false := by simpa using hx
        have E : Hid (usedB o.secs k = bq) := by show _ = _; rw [← hbq]; unfold wantK; simp [hx]
        clear hx hbq
        go_wp2_with fail
        refine (s_l9Used wr _ o (HO3.out.below (Nat.le_of_eq HMe.out) HX.out.below) (k : Int)).mono ?_
        rw [E.out]
        rintro e w5 ⟨rfl, k5⟩
        have HK := Lib.hid (owns_call HK.out k5)
        have HB := Lib.hid (HB.out.call k5)
        have HR := Lib.hid (HR.out.call k5)
        have HX := Lib.hid (HX.out.call k5)
        clear k5 p0 cB zB1
        have cB := HB.out.cell
        have zB1 := HB.out.lt
        go_wp2_with (at_builtin; refine wpList_append_src rfl (.tmp 19) (.tmp 32) 99 99 rfl M 4 l0 _ 1 1 Try.underlying99 hl0 la0 la1 la2 rfl (by decide) _ _ _ rfl (World.ownsRow.alloc HK.out _) _ 1 [_] rfl (src_new Try.underlying99 _ [_] 1 1 1 _ rfl ?c0) ?c1 ?c2 ?c3 ?_)
        case c0 => intro u hu; obtain rfl := List.mem_singleton.1 hu; rfl
        case c1 => unfold maxLen; omega
        case c2 => omega
        case c3 => have := HX.out.le; simp; omega
        intro v' w6 hown hgr
        have hK7 : w6.ownsRow M 4 1 v' (k + 1) (bbs (maskL (wantK o.secs) (o.syms.take (k + 1)))) := by rw [HT.out, bbs_append]; skip; exact hown
        obtain ⟨va, vc, rfl⟩ := owns_form hK7
        have HK9 := Lib.hid hK7
        have hKr : (_ : World).ownsRow M 4 1 (.slice ka k kc) k (bbs (maskL (wantK o.secs) (o.syms.take k))) := World.ownsRow.alloc HK.out (.cells #[.bool bq] 4)
        have HB9 := Lib.hid (Blk.grown (HB.out.alloc (.cells #[.bool bq] 4)) hgr (fun e => blk_apart (HB.out.alloc _) hKr (by decide) e))
        have HR9 := Lib.hid (Blk.grown (HR.out.alloc (.cells #[.bool bq] 4)) hgr (fun e => blk_apart (HR.out.alloc _) hKr (by decide) e))
        have HX9 := Lib.hid (From.grown (HX.out.alloc (.cells #[.bool bq] 4)) hgr (fun k' hk' => (World.ownsRow.lt HK.out k' hk').1))
        clear hown hgr hK7 hKr HK HB HR HX cB zB1
        go_wp2_with fail
        go_roundw
        case rel => exact ⟨k + 1, va, vc, by omega, by go_num, rfl, HK9, HB9, HR9, HX9⟩
        case measure => simp [intOf]; try omega
      · have e0 : (x.whr != -1) = true := by simpa using hx
        have E : Hid (bq = true) := by show _ = _; rw [← hbq]; unfold wantK; simp [hx]
        clear hx hbq
        go_wp2_with (at_builtin; refine wpList_append_src rfl (.tmp 19) (.tmp 32) 99 99 rfl M 4 l0 _ 1 1 Try.underlying99 hl0 la0 la1 la2 rfl (by decide) _ _ _ rfl (World.ownsRow.alloc HK.out _) _ 1 [_] rfl (src_new Try.underlying99 _ [_] 1 1 1 _ rfl ?c0) ?c1 ?c2 ?c3 ?_)
        case c0 => intro u hu; obtain rfl := List.mem_singleton.1 hu; rfl
        case c1 => unfold maxLen; omega
        case c2 => omega
        case c3 => have := HX.out.le; simp; omega
        intro v' w6 hown hgr
        have hK7 : w6.ownsRow M 4 1 v' (k + 1) (bbs (maskL (wantK o.secs) (o.syms.take (k + 1)))) := by rw [HT.out, bbs_append]; rw [E.out]; exact hown
        obtain ⟨va, vc, rfl⟩ := owns_form hK7
        have HK9 := Lib.hid hK7
        have hKr : (_ : World).ownsRow M 4 1 (.slice ka k kc) k (bbs (maskL (wantK o.secs) (o.syms.take k))) := World.ownsRow.alloc HK.out (.cells #[.bool true] 4)
        have HB9 := Lib.hid (Blk.grown (HB.out.alloc (.cells #[.bool true] 4)) hgr (fun e => blk_apart (HB.out.alloc _) hKr (by decide) e))
        have HR9 := Lib.hid (Blk.grown (HR.out.alloc (.cells #[.bool true] 4)) hgr (fun e => blk_apart (HR.out.alloc _) hKr (by decide) e))
        have HX9 := Lib.hid (From.grown (HX.out.alloc (.cells #[.bool true] 4)) hgr (fun k' hk' => (World.ownsRow.lt HK.out k' hk').1))
        clear hown hgr hK7 hKr HK HB HR HX cB zB1
        go_wp2_with fail
        go_roundw
        case rel => exact ⟨k + 1, va, vc, by omega, by go_num, rfl, HK9, HB9, HR9, HX9⟩
        case measure => simp [intOf]; try omega
    · obtain rfl : n2 = k := by omega
      have HKf : Hid (wr.ownsRow M 4 1 (.slice ka n2 kc) n2 (bbs (maskL (wantK o.secs) o.syms))) := by show World.ownsRow _ _ _ _ _ _ _; have := HK.out; rw [← HN2.out, List.take_length, HN2.out] at this; exact this
      have HRd : Hid (Reads wr 1 (.slice ka n2 kc) (maskL (wantK o.secs) o.syms).length (bbs (maskL (wantK o.secs) o.syms))) := by show Reads _ _ _ _ _; rw [maskL_length, HN2.out]; exact reads_of_owns HKf.out
      have HFr := Lib.hid (HF3.out.trans (HX.out.below.mono (show w.heap.size ≤ M by omega)))
      have HOr : Hid (ObjAt wr (.agg #[.slice ra n1 rc, .slice rb n2 rd]) o) := HO3.out.below (Nat.le_of_eq HMe.out) HX.out.below
      go_wp2_with fail
      refine (s_l9Keep wr _ _ o (maskL (wantK o.secs) o.syms) HOr.out HRd.out (maskL_length _ _) HFew.out HFX.out).mono ?_
      rintro e w5 ⟨r, rfl, ⟨vs, vy, ls, rfl, hsecs, hS, hY, hd⟩, k5⟩
      obtain ⟨pa, pc, rfl⟩ := owns_form hS.row
      obtain ⟨qa, qc, rfl⟩ := owns_form hY
      have zM : M ≤ wr.heap.size := HX.out.le
      have zR2 : w.heap.size + 1 < wr.heap.size := HR.out.lt
      have HF5 := Lib.hid (HFr.out.call k5)
      have HR5 := Lib.hid (HR.out.call k5)
      have HS5 := Lib.hid hS
      have HY5 := Lib.hid hY
      have HD5 := Lib.hid hd
      have HSE := Lib.hid hsecs
      have cR := HR5.out.cell
      have fR := HR5.out.frozen
      have zR := HR5.out.lt
      clear hS hY hd hsecs k5 HK HB HR HX HRd HFr HOr HKf cB zB1
      obtain ⟨m1, hm1⟩ : ∃ m1, ls.length = m1 := ⟨_, rfl⟩
      obtain ⟨m2, hm2⟩ : ∃ m2, (keepO o (maskL (wantK o.secs) o.syms)).syms.length = m2 := ⟨_, rfl⟩
      have HM1 := Lib.hid hm1
      have HM2 := Lib.hid hm2
      rw [hm1] at HS5 HD5 ⊢
      rw [hm2] at HY5 HD5 ⊢
      clear hm1 hm2
      go_wp2_with fail
      refine bodyPost_ret (v := .agg #[.slice pa m1 pc, .slice qa m2 qc]) (by simp [results, Try.results37, go_sem, cR, zR]) rfl ⟨_, rfl, ?_, ?_⟩
      · rw [EI.out]
        refine ⟨_, _, ls, rfl, HSE.out, ?_, ?_, HD5.out⟩
        · exact ((HS5.out.setBelow (a := ⟨w.heap.size + 1, 0, none⟩) zR2 _).setBelow (a := ⟨w.heap.size + 1, 1, none⟩) zR2 _).mono (show w.heap.size ≤ wr.heap.size by omega)
        · have h := ownsRow_setCell_below (ownsRow_setCell_below HY5.out (a := ⟨w.heap.size + 1, 0, none⟩) zR2 (.slice pa m1 pc)) (a := ⟨w.heap.size + 1, 1, none⟩) zR2 (.slice qa m2 qc)
          unfold OwnSyms
          rw [HM2.out]
          rw [HM2.out] at h
          exact owns_mono h (show w.heap.size ≤ wr.heap.size by omega)
      · exact ((HF5.out.setCell (p := ⟨w.heap.size + 1, 0, none⟩) (Nat.le_succ _) (.slice pa m1 pc)).setCell (p := ⟨w.heap.size + 1, 1, none⟩) (Nat.le_succ _) (.slice qa m2 qc)).below
end Go.Proofs.Ythccjimckjecjaa
