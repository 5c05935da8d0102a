/- Sections, symbols and objects: copied, compared, measured. -/
import Derived.Test.YtkefbhidfbnipaaSec
import Derived.Test.YtkefbhidfbnipaaBytes
namespace Go.Proofs.Ytkefbhidfbnipaa
open Go.ChangeShapes Go.WideShapes Go.ChangeAt Go.RowKit Go.Joins
set_option linter.unusedSimpArgs false
set_option linter.unusedVariables false
set_option maxRecDepth 100000

set_option maxHeartbeats 800000 in
theorem toSymbol_any (s : SymD) (w : World) :
    Calls Try.prog 75 #[symV s] w fun e w' => e = .returned (symV s) ∧ Below w.heap.size w w' := by
  go_enter Try.func75, Try.ntmps75
  go_wp2
  refine bodyPost_ret (v := symV s) (by simp [results, Try.results75, go_sem]) rfl ⟨rfl, ?_⟩
  repeat first | exact Below.refl _ _ | (refine Below.setCell ?_ (by first | (simp; done) | (simp; omega)) _) | (refine Below.alloc ?_ (by first | (simp; done) | (simp; omega)) _)
/-- What a function ends in that hands back symbols of its own. -/
def RetSyms (w : World) (l : List SymD) (e : Ending) (w' : World) : Prop := ∃ r, e = .returned r ∧ OwnSyms w' w.heap.size r l ∧ Below w.heap.size w w'
set_option maxHeartbeats 1000000 in
theorem toSymbolS_any (w : World) (v : Value) (l : List SymD) (h : SymsAt w v l) (hl : l.length ≤ 1048576) :
    Calls Try.prog 46 #[v] w (RetSyms w l) := by
  obtain ⟨a, cap, rfl, hcap, hmax, hnone, hcell⟩ := h.form
  obtain ⟨i0, hi, hz0, hz1, hz2⟩ := info_parts info_sym
  have HH := Lib.hid hcell
  clear h hcell hnone
  go_enter Try.func46, Try.ntmps46
  go_wp2_with (at_make; refine wpList_make_full _ rfl _ _ 24 rfl w.heap.size 57 i0 _ 4 Try.underlying24 hi hz0 hz1 _ _ _ _ l.length rfl rfl rfl rfl ?c1 ?c2 ?c3 ?_)
  case c1 => rw [hz2]; omega
  case c2 => unfold maxLen; omega
  case c3 => exact Nat.le_refl _
  intro w1 hown hgr
  have F1 := (From.start w).grown hgr (fun k h => by cases h)
  have HO1 : Hid (w1.ownsRow w.heap.size 57 4 (.slice (some ⟨w.heap.size, 0, none⟩) l.length l.length) l.length ((l.take 0).flatMap symL ++ (List.replicate (l.length - 0) ()).flatMap fun _ => [.string ⟨#[]⟩, .int .i64 0, .int .i64 0, .int .i64 0])) := Lib.hid (by
    have := hown
    rw [toList_madeK _ 4 rfl (by decide)] at this
    simpa using this)
  clear hgr hown
  go_wp2_with fail
  go_loopw [4] (fun i wr => ∃ k : Nat, k ≤ l.length ∧ i = .int .i64 k ∧
      Hid (wr.ownsRow w.heap.size 57 4 (.slice (some ⟨w.heap.size, 0, none⟩) l.length l.length) l.length ((l.take k).flatMap symL ++ (List.replicate (l.length - k) ()).flatMap fun _ => [.string ⟨#[]⟩, .int .i64 0, .int .i64 0, .int .i64 0])) ∧ Hid (From w.heap.size w wr)) (fun i _ => l.length - (intOf i).toNat)
  case atStart => exact ⟨0, Nat.zero_le _, rfl, HO1, F1⟩
  case round =>
    clear HO1 F1
    obtain ⟨k, hk, rfl, HO, HF⟩ := hrel
    by_cases hlt : k < l.length
    · obtain ⟨b, off, rfl, hc⟩ := HH.out (by omega)
      obtain ⟨c0, c1, c2, c3⟩ := hc k hlt
      have hbl : b < w.heap.size := World.block_lt_of_cell? w _ c0
      have g0 := (HF.out.below.cell (p := ⟨b, off + k * 4, none⟩) hbl).trans c0
      have g1 := (HF.out.below.cell (p := ⟨b, off + k * 4 + 1, none⟩) hbl).trans c1
      have g2 := (HF.out.below.cell (p := ⟨b, off + k * 4 + 2, none⟩) hbl).trans c2
      have g3 := (HF.out.below.cell (p := ⟨b, off + k * 4 + 3, none⟩) hbl).trans c3
      have HT : Hid (l.take (k + 1) = l.take k ++ [l[k]]) := by show _ = _; rw [List.take_succ_eq_append_getElem hlt]
      clear hc c0 c1 c2 c3
      generalize l[k] = x at *
      go_wp2_with fail
      refine (toSymbol_any x _).mono ?_
      rintro e w2 ⟨rfl, h2⟩
      have HF2 := Lib.hid (HF.out.call h2)
      have hown2 := owns_call HO.out h2
      have HO2 := Lib.hid hown2
      have hcells : ∀ j, j < 4 → ∃ u, w2.cell? ⟨w.heap.size, k * 4 + j, none⟩ = some u := fun j hj =>
        ⟨_, (hown2.cellAt (k * 4 + j) (by omega)).trans (List.getElem?_eq_getElem (by rw [hown2.1]; omega))⟩
      obtain ⟨u0, d0⟩ := hcells 0 (by omega)
      rw [Nat.add_zero] at d0
      obtain ⟨u1, d1⟩ := hcells 1 (by omega)
      obtain ⟨u2, d2⟩ := hcells 2 (by omega)
      obtain ⟨u3, d3⟩ := hcells 3 (by omega)
      have f0 := hown2.frozenAt (k * 4)
      have f1 := hown2.frozenAt (k * 4 + 1)
      have f2 := hown2.frozenAt (k * 4 + 2)
      have f3 := hown2.frozenAt (k * 4 + 3)
      clear g0 g1 g2 g3 HF HO h2 hown2 hcells
      go_wp2_with fail
      go_roundw
      case rel =>
        refine ⟨k + 1, by omega, by go_num, ?_, ?_⟩
        · show World.ownsRow _ _ _ _ _ _ _
          have h4 := ((((HO2.out.stored (k * 4) (.string x.name)).1.stored (k * 4 + 1) (.int .i64 x.bind)).1.stored (k * 4 + 2) (.int .i64 x.whr)).1.stored (k * 4 + 3) (.int .i64 x.val)).1
          rw [show l.length - k = (l.length - (k + 1)) + 1 by omega, List.replicate_succ, List.flatMap_cons] at h4
          have hA : ((l.take k).flatMap symL).length = k * 4 := by rw [flat_length _ _ symL_length, List.length_take]; congr 1; omega
          have := set_quad (.string x.name) (.int .i64 x.bind) (.int .i64 x.whr) (.int .i64 x.val) (.string ⟨#[]⟩) (.int .i64 0) (.int .i64 0) (.int .i64 0) ((List.replicate (l.length - (k + 1)) ()).flatMap fun _ => [.string ⟨#[]⟩, .int .i64 0, .int .i64 0, .int .i64 0]) ((l.take k).flatMap symL)
          rw [hA] at this
          simp only [List.cons_append, List.nil_append] at h4
          rw [this] at h4
          rw [HT.out, List.flatMap_append, List.append_assoc]
          exact h4
        · exact ((((HF2.out.setCell (Nat.le_refl _) _).setCell (Nat.le_refl _) _).setCell (Nat.le_refl _) _).setCell (Nat.le_refl _) _)
      case measure => simp [intOf]; try omega
    · obtain rfl : k = l.length := by omega
      go_wp2_with fail
      go_ret
      refine ⟨_, rfl, ?_, HF.out.below⟩
      have := HO.out
      rw [Nat.sub_self, List.take_length, List.replicate_zero, List.flatMap_nil, List.append_nil] at this
      exact this
/-- What a function ends in that hands back an object of its own. -/
def RetObj (w : World) (o : ObjD) (e : Ending) (w' : World) : Prop := ∃ r, e = .returned r ∧ OwnObj w' w.heap.size r o ∧ Below w.heap.size w w'
/-- Few parts in an object. -/
def FewObj (o : ObjD) : Prop := o.secs.length ≤ 1048576 ∧ o.syms.length ≤ 1048576 ∧ ∀ s ∈ o.secs, s.bytes.length ≤ 1073741824 ∧ s.fix.length ≤ 1073741824
set_option maxHeartbeats 1000000 in
theorem toObject_any (w : World) (v : Value) (o : ObjD) (h : ObjAt w v o) (hf : FewObj o) :
    Calls Try.prog 16 #[v] w (RetObj w o) := by
  obtain ⟨vs, vy, rfl, hs, hy⟩ := h
  have HS := Lib.hid hs
  have HY := Lib.hid hy
  have HW := Lib.hid hf
  clear hs hy hf
  go_enter Try.func16, Try.ntmps16
  go_wp2_with fail
  refine (toSectionS_any _ vs o.secs (HS.out.below (Nat.le_refl _) ((((From.start w).alloc _).alloc _).alloc _).below) HW.out.1 HW.out.2.2).mono ?_
  rintro e w1 ⟨r1, ls, rfl, hls, o1, g1⟩
  have HLT := Lib.hid (o1.lt)
  have F1 := ((((From.start w).alloc _).alloc _).alloc _).call g1
  have HLE := Lib.hid F1.le
  have B0 := (((Blk.newAt w _ _ w.heap.size rfl).alloc _).alloc _).call g1
  have B1 := ((Blk.newAt _ _ _ (w.heap.size + 1) (by simp)).alloc _).call g1
  have B2 := (Blk.newAt _ _ _ (w.heap.size + 1 + 1) (by simp)).call g1
  have z2 := B2.lt
  have c0 := B0.cell
  have c2 := B2.cell
  have f2 := B2.frozen
  have HL := Lib.hid hls
  have HO1 := Lib.hid (o1.setBelow (a := ⟨w.heap.size + 1 + 1, 0, none⟩) (by simp) r1)
  have HF1 := Lib.hid (F1.setCell (p := ⟨w.heap.size + 1 + 1, 0, none⟩) (by show _ ≤ w.heap.size + 1 + 1; omega) r1)
  have HB1 := Lib.hid (B1.other (p := ⟨w.heap.size + 1 + 1, 0, none⟩) (by show w.heap.size + 1 + 1 ≠ _; omega) r1)
  have HB2 := Lib.hid (B2.set (o := 0) r1)
  obtain ⟨ra, rc, rfl⟩ := owns_form o1.row
  clear F1 B0 B1 B2 o1 g1 hls
  go_wp2_with fail
  have z3 := Lib.hid z2
  clear c0 c2 f2 z2
  refine (toSymbolS_any _ vy o.syms (HY.out.below (Nat.le_refl _) HF1.out.below) HW.out.2.1).mono ?_
  rintro e w2 ⟨r2, rfl, o2, g2⟩
  obtain ⟨rb, rd, rfl⟩ := owns_form o2
  have HO1' := Lib.hid (HO1.out.call g2)
  have HF2 := Lib.hid (HF1.out.call g2)
  have B1 := HB1.out.call g2
  have B2 := HB2.out.call g2
  have z1 := B1.lt
  have z2 := B2.lt
  have c1 := B1.cell
  have c2 := B2.cell
  have f1 := B1.frozen
  have f2 := B2.frozen
  simp only [List.setIfInBounds_toArray, List.set_cons_succ, List.set_cons_zero] at c2
  clear HB1 HB2 HF1 HO1 B1 B2
  go_wp2_with fail
  have q1 : w.heap.size + 1 + 1 < w.heap.size + 1 + 1 + 1 := by omega
  have q2 : w.heap.size + 1 < w.heap.size + 1 + 1 + 1 := by omega
  have e3 : (((w.alloc (.cells #[vs, vy] 40)).alloc (.cells #[.slice none 0 0, .slice none 0 0] 26)).alloc (.cells #[.slice none 0 0, .slice none 0 0] 26)).heap.size = w.heap.size + 1 + 1 + 1 := by simp
  have z3' := z3.out
  refine bodyPost_ret (v := .agg #[.slice ra ls.length rc, .slice rb o.syms.length rd]) (by simp [results, Try.results16, go_sem, c1, z1]) rfl ⟨_, rfl, ⟨_, _, ls, rfl, HL.out, ?_, ?_, ?_⟩, ?_⟩
  · have := HO1'.out
    rw [e3] at this
    exact (((this.setBelow q1 _).setBelow q2 _).setBelow q2 _).mono (by omega)
  · exact owns_mono (ownsRow_setCell_below (ownsRow_setCell_below (ownsRow_setCell_below o2 (by show _ < (World.heap _).size; simp; omega) _) (by show _ < (World.heap _).size; simp; omega) _) (by show _ < (World.heap _).size; simp; omega) _) (by simp; omega)
  · intro k hk hm
    have h1 := HLT.out k hm
    have h2 := o2.lt k hk
    simp at h2
    omega
  · exact (((HF2.out.setCell (by show _ ≤ w.heap.size + 1 + 1; omega) _).setCell (by show _ ≤ w.heap.size + 1; omega) _).setCell (by show _ ≤ w.heap.size + 1; omega) _).below
set_option maxHeartbeats 1000000 in
theorem eqSectionS_same (w : World) (v1 v2 : Value) (l : List SecD) (h1 : SecsAt w v1 l) (h2 : SecsAt w v2 l) :
    Calls Try.prog 47 #[v1, v2] w fun e w' => e = .returned (.bool true) ∧ Below w.heap.size w w' := by
  obtain ⟨a1, cap1, rfl, hcap1, hmax1, hnone1, hcell1⟩ := h1.form
  obtain ⟨a2, cap2, rfl, hcap2, hmax2, hnone2, hcell2⟩ := h2.form
  have H1 := Lib.hid hcell1
  have H2 := Lib.hid hcell2
  clear h1 h2 hcell1 hcell2 hnone1 hnone2
  unfold maxLen at hmax1 hmax2
  go_enter Try.func47, Try.ntmps47
  go_wp2_with fail
  go_loopw [5] (fun i wr => ∃ k : Nat, k ≤ l.length ∧ i = .int .i64 k ∧ Hid (From w.heap.size w wr)) (fun i _ => l.length - (intOf i).toNat)
  case atStart => exact ⟨0, Nat.zero_le _, rfl, From.start w⟩
  case round =>
    obtain ⟨k, hk, rfl, HF⟩ := hrel
    by_cases hlt : k < l.length
    · obtain ⟨b1, off1, rfl, hc1⟩ := H1.out (by omega)
      obtain ⟨b2, off2, rfl, hc2⟩ := H2.out (by omega)
      obtain ⟨vb1, vf1, hb1, hf1, c0, c1, c2, c3, c4, c5⟩ := hc1 k hlt
      obtain ⟨vb2, vf2, hb2, hf2, e0, e1, e2, e3, e4, e5⟩ := hc2 k hlt
      have l1 : b1 < w.heap.size := World.block_lt_of_cell? w _ c0
      have l2 : b2 < w.heap.size := World.block_lt_of_cell? w _ e0
      have g0 := (HF.out.below.cell (p := ⟨b1, off1 + k * 6, none⟩) l1).trans c0
      have g1 := (HF.out.below.cell (p := ⟨b1, off1 + k * 6 + 1, none⟩) l1).trans c1
      have g2 := (HF.out.below.cell (p := ⟨b1, off1 + k * 6 + 2, none⟩) l1).trans c2
      have g3 := (HF.out.below.cell (p := ⟨b1, off1 + k * 6 + 3, none⟩) l1).trans c3
      have g4 := (HF.out.below.cell (p := ⟨b1, off1 + k * 6 + 4, none⟩) l1).trans c4
      have g5 := (HF.out.below.cell (p := ⟨b1, off1 + k * 6 + 5, none⟩) l1).trans c5
      have d0 := (HF.out.below.cell (p := ⟨b2, off2 + k * 6, none⟩) l2).trans e0
      have d1 := (HF.out.below.cell (p := ⟨b2, off2 + k * 6 + 1, none⟩) l2).trans e1
      have d2 := (HF.out.below.cell (p := ⟨b2, off2 + k * 6 + 2, none⟩) l2).trans e2
      have d3 := (HF.out.below.cell (p := ⟨b2, off2 + k * 6 + 3, none⟩) l2).trans e3
      have d4 := (HF.out.below.cell (p := ⟨b2, off2 + k * 6 + 4, none⟩) l2).trans e4
      have d5 := (HF.out.below.cell (p := ⟨b2, off2 + k * 6 + 5, none⟩) l2).trans e5
      have i1 : (k : Int) < (l.length : Int) := by omega
      have i3 : (0 : Int) ≤ (k : Int) := by omega
      have HS1 : Hid (SecAt w (secV l[k] vb1 vf1) l[k]) := ⟨vb1, vf1, rfl, hb1, hf1⟩
      have HS2 : Hid (SecAt w (secV l[k] vb2 vf2) l[k]) := ⟨vb2, vf2, rfl, hb2, hf2⟩
      clear hc1 hc2 c0 c1 c2 c3 c4 c5 e0 e1 e2 e3 e4 e5 hb1 hf1 hb2 hf2
      generalize l[k] = x at *
      go_wp2_with fail
      go_still_tail 8, (by kernel_rfl)
      change wpList _ _ _ _ _ wr.drew
      have HFd := Lib.hid HF.out.drew
      clear g0 g1 g2 g3 g4 g5 d0 d1 d2 d3 d4 d5 HF
      generalize wr.drew = w2 at HFd ⊢
      go_wp2_with fail
      refine (eqSection_same w2 (secV x vb1 vf1) (secV x vb2 vf2) x (HS1.out.below (Nat.le_refl _) HFd.out.below) (HS2.out.below (Nat.le_refl _) HFd.out.below)).mono ?_
      rintro e w3 ⟨rfl, h3⟩
      have HF3 := Lib.hid (HFd.out.call h3)
      clear h3 HFd
      go_wp2_with fail
      go_roundw
      case rel => exact ⟨k + 1, by omega, by go_num, HF3⟩
      case measure => simp [intOf]; try omega
    · obtain rfl : k = l.length := by omega
      go_wp2_with fail
      go_ret
      exact ⟨rfl, HF.out.below⟩
set_option maxHeartbeats 800000 in
theorem eqSymbol_same (s : SymD) (w : World) :
    Calls Try.prog 77 #[symV s, symV s] w fun e w' => e = .returned (.bool true) ∧ Below w.heap.size w w' := by
  have he : (s.name.toList == s.name.toList) = true := str_eq rfl
  go_enter Try.func77, Try.ntmps77
  go_wp2
  go_ret
  exact ⟨rfl, (((From.start w).alloc _).alloc _).below⟩
set_option maxHeartbeats 1000000 in
theorem eqSymbolS_same (w : World) (v1 v2 : Value) (l : List SymD) (h1 : SymsAt w v1 l) (h2 : SymsAt w v2 l) :
    Calls Try.prog 48 #[v1, v2] w fun e w' => e = .returned (.bool true) ∧ Below w.heap.size w w' := by
  obtain ⟨a1, cap1, rfl, hcap1, hmax1, hnone1, hcell1⟩ := h1.form
  obtain ⟨a2, cap2, rfl, hcap2, hmax2, hnone2, hcell2⟩ := h2.form
  have H1 := Lib.hid hcell1
  have H2 := Lib.hid hcell2
  clear h1 h2 hcell1 hcell2 hnone1 hnone2
  unfold maxLen at hmax1 hmax2
  go_enter Try.func48, Try.ntmps48
  go_wp2_with fail
  go_loopw [5] (fun i wr => ∃ k : Nat, k ≤ l.length ∧ i = .int .i64 k ∧ Hid (From w.heap.size w wr)) (fun i _ => l.length - (intOf i).toNat)
  case atStart => exact ⟨0, Nat.zero_le _, rfl, From.start w⟩
  case round =>
    obtain ⟨k, hk, rfl, HF⟩ := hrel
    by_cases hlt : k < l.length
    · obtain ⟨b1, off1, rfl, hc1⟩ := H1.out (by omega)
      obtain ⟨b2, off2, rfl, hc2⟩ := H2.out (by omega)
      obtain ⟨c0, c1, c2, c3⟩ := hc1 k hlt
      obtain ⟨e0, e1, e2, e3⟩ := hc2 k hlt
      have l1 : b1 < w.heap.size := World.block_lt_of_cell? w _ c0
      have l2 : b2 < w.heap.size := World.block_lt_of_cell? w _ e0
      have g0 := (HF.out.below.cell (p := ⟨b1, off1 + k * 4, none⟩) l1).trans c0
      have g1 := (HF.out.below.cell (p := ⟨b1, off1 + k * 4 + 1, none⟩) l1).trans c1
      have g2 := (HF.out.below.cell (p := ⟨b1, off1 + k * 4 + 2, none⟩) l1).trans c2
      have g3 := (HF.out.below.cell (p := ⟨b1, off1 + k * 4 + 3, none⟩) l1).trans c3
      have d0 := (HF.out.below.cell (p := ⟨b2, off2 + k * 4, none⟩) l2).trans e0
      have d1 := (HF.out.below.cell (p := ⟨b2, off2 + k * 4 + 1, none⟩) l2).trans e1
      have d2 := (HF.out.below.cell (p := ⟨b2, off2 + k * 4 + 2, none⟩) l2).trans e2
      have d3 := (HF.out.below.cell (p := ⟨b2, off2 + k * 4 + 3, none⟩) l2).trans e3
      have i1 : (k : Int) < (l.length : Int) := by omega
      have i3 : (0 : Int) ≤ (k : Int) := by omega
      clear hc1 hc2 c0 c1 c2 c3 e0 e1 e2 e3
      generalize l[k] = x at *
      go_wp2_with fail
      go_still_tail 8, (by kernel_rfl)
      change wpList _ _ _ _ _ wr.drew
      have HFd := Lib.hid HF.out.drew
      clear g0 g1 g2 g3 d0 d1 d2 d3 HF
      generalize wr.drew = w2 at HFd ⊢
      go_wp2_with fail
      refine (eqSymbol_same x w2).mono ?_
      rintro e w3 ⟨rfl, h3⟩
      have HF3 := Lib.hid (HFd.out.call h3)
      clear h3 HFd
      go_wp2_with fail
      go_roundw
      case rel => exact ⟨k + 1, by omega, by go_num, HF3⟩
      case measure => simp [intOf]; try omega
    · obtain rfl : k = l.length := by omega
      go_wp2_with fail
      go_ret
      exact ⟨rfl, HF.out.below⟩
set_option maxHeartbeats 1000000 in
theorem eqObject_same (w : World) (v1 v2 : Value) (o : ObjD) (h1 : ObjAt w v1 o) (h2 : ObjAt w v2 o) :
    Calls Try.prog 17 #[v1, v2] w fun e w' => e = .returned (.bool true) ∧ Below w.heap.size w w' := by
  obtain ⟨s1, y1, rfl, hs1, hy1⟩ := h1
  obtain ⟨s2, y2, rfl, hs2, hy2⟩ := h2
  have HS1 := Lib.hid hs1
  have HS2 := Lib.hid hs2
  have HY1 := Lib.hid hy1
  have HY2 := Lib.hid hy2
  clear hs1 hs2 hy1 hy2
  go_enter Try.func17, Try.ntmps17
  go_wp2_with fail
  have hbb := (((From.start w).alloc (.cells #[s1, y1] 26)).alloc (.cells #[s2, y2] 26)).below
  refine (eqSectionS_same _ _ _ _ (HS1.out.below (Nat.le_refl _) hbb) (HS2.out.below (Nat.le_refl _) hbb)).mono ?_
  rintro e w1 ⟨rfl, g1⟩
  have HG := Lib.hid ((((From.start w).alloc _).alloc _).call g1)
  have B0 := ((Blk.newAt w _ _ w.heap.size rfl).alloc _).call g1
  have B1 := (Blk.newAt _ _ _ (w.heap.size + 1) (by simp)).call g1
  have c0 := B0.cell
  have c1 := B1.cell
  clear g1 hbb HS1 HS2
  go_wp2_with fail
  refine (eqSymbolS_same _ _ _ _ (HY1.out.below (Nat.le_refl _) HG.out.below) (HY2.out.below (Nat.le_refl _) HG.out.below)).mono ?_
  rintro e w2 ⟨rfl, g2⟩
  have HG2 := Lib.hid (HG.out.call g2)
  clear g2 HG B0 B1 c0 c1
  go_wp2_with fail
  go_ret
  exact ⟨rfl, HG2.out.below⟩
theorem secCost_nonneg (s : SecD) : 0 ≤ secCost s := by unfold secCost; omega
theorem szV_plus {left a b : Int} (ha : 0 ≤ a) (hb : 0 ≤ b) (h : a ≤ left) : szV left (a + b) = szV (left - a) b := by
  unfold szV
  by_cases h1 : a + b ≤ left
  · rw [if_pos h1, if_pos (by omega)]; omega
  · rw [if_neg h1, if_neg (by omega)]
theorem szV_over {left a b : Int} (hb : 0 ≤ b) (h : ¬ a ≤ left) : szV left (a + b) = -1 := by
  unfold szV
  rw [if_neg (by omega)]
/-- What sections cost. -/
def secsCost : List SecD → Int
  | [] => 0
  | s :: r => secCost s + secsCost r
theorem secsCost_nonneg : ∀ l, 0 ≤ secsCost l
  | [] => Int.le_refl _
  | s :: r => by have := secCost_nonneg s; have := secsCost_nonneg r; unfold secsCost; omega
theorem secsCost_mem : ∀ {l : List SecD} {s : SecD}, s ∈ l → secCost s ≤ secsCost l
  | x :: r, s, h => by
    have h1 := secCost_nonneg x
    have h2 := secsCost_nonneg r
    unfold secsCost
    rcases List.mem_cons.1 h with rfl | h
    · omega
    · have := secsCost_mem h; omega
theorem few_secs {l : List SecD} (h : secsCost l ≤ 1048576) : ∀ s ∈ l, s.bytes.length ≤ 1073741824 ∧ s.fix.length ≤ 1073741824 := fun x hx => by
  have := secsCost_mem hx
  unfold secCost at this
  omega
set_option maxHeartbeats 1000000 in
theorem szSectionS_any (w : World) (v : Value) (l : List SecD) (h : SecsAt w v l) (hs : ∀ s ∈ l, s.name.size ≤ maxLen) (left : Int) (h0 : 0 ≤ left) (h1 : left ≤ 1048576) :
    Calls Try.prog 43 #[v, .int .i64 left] w fun e w' => e = .returned (.int .i64 (szV left ((l.length : Int) + secsCost l))) ∧ Below w.heap.size w w' := by
  obtain ⟨a, cap, rfl, hcap, hmax, hnone, hcell⟩ := h.form
  have HC := Lib.hid hcell
  have HS := Lib.hid hs
  clear h hcell hnone hs
  unfold maxLen at hmax
  by_cases q1 : (l.length : Int) ≤ left
  case neg =>
    have q2 : left < (l.length : Int) := by omega
    have E : Hid (szV left ((l.length : Int) + secsCost l) = -1) := szV_over (secsCost_nonneg l) q1
    clear q1
    go_enter Try.func43, Try.ntmps43
    go_wp2_with fail
    go_ret
    exact ⟨by rw [E.out]; try rfl, (From.start w).below⟩
  have E0 : Hid (szV left ((l.length : Int) + secsCost l) = szV (left - (l.length : Int)) (secsCost (l.drop 0))) := by show _ = _; rw [szV_plus (by omega) (secsCost_nonneg l) q1]; rfl
  go_enter Try.func43, Try.ntmps43
  go_wp2_with fail
  go_loopw [1, 5] (fun lv i wr => ∃ (k : Nat) (L : Int), k ≤ l.length ∧ i = .int .i64 k ∧ lv = .int .i64 L ∧ 0 ≤ L ∧ L ≤ 1048576 ∧ Hid (szV left ((l.length : Int) + secsCost l) = szV L (secsCost (l.drop k))) ∧ Hid (From w.heap.size w wr)) (fun _ i _ => l.length - (intOf i).toNat)
  case atStart => exact ⟨0, left - (l.length : Int), Nat.zero_le _, rfl, rfl, by omega, by omega, E0, From.start w⟩
  case round =>
    clear E0 q1 h0 h1
    obtain ⟨k, L, hk, rfl, rfl, hL0, hL1, HE, HF⟩ := hrel
    by_cases hlt : k < l.length
    · obtain ⟨b, off, rfl, hc⟩ := HC.out (by omega)
      obtain ⟨vb, vf, hb, hf, c0, c1, c2, c3, c4, c5⟩ := hc k hlt
      have hbl : b < w.heap.size := World.block_lt_of_cell? w _ c0
      have g0 := (HF.out.below.cell (p := ⟨b, off + k * 6, none⟩) hbl).trans c0
      have g1 := (HF.out.below.cell (p := ⟨b, off + k * 6 + 1, none⟩) hbl).trans c1
      have g2 := (HF.out.below.cell (p := ⟨b, off + k * 6 + 2, none⟩) hbl).trans c2
      have g3 := (HF.out.below.cell (p := ⟨b, off + k * 6 + 3, none⟩) hbl).trans c3
      have g4 := (HF.out.below.cell (p := ⟨b, off + k * 6 + 4, none⟩) hbl).trans c4
      have g5 := (HF.out.below.cell (p := ⟨b, off + k * 6 + 5, none⟩) hbl).trans c5
      have HX : Hid (SecAt wr (secV l[k] vb vf) l[k]) := ⟨vb, vf, rfl, hb.below (Nat.le_refl _) HF.out.below, hf.below (Nat.le_refl _) HF.out.below⟩
      have HT : Hid (secsCost (l.drop k) = secCost l[k] + secsCost (l.drop (k + 1))) := by show _ = _; rw [List.drop_eq_getElem_cons hlt]; rfl
      have HN := Lib.hid (HS.out l[k] (List.getElem_mem hlt))
      clear hc c0 c1 c2 c3 c4 c5 hb hf
      generalize l[k] = x at *
      by_cases q1 : secCost x ≤ L
      · have E1 : szV L (secCost x) = L - secCost x := by unfold szV; rw [if_pos q1]
        have q2 := secCost_nonneg x
        have HE2 : Hid (szV left ((l.length : Int) + secsCost l) = szV (L - secCost x) (secsCost (l.drop (k + 1)))) := by show _ = _; rw [HE.out, HT.out, szV_plus q2 (secsCost_nonneg _) q1]
        obtain ⟨L2, hL2⟩ : ∃ L2, L - secCost x = L2 := ⟨_, rfl⟩
        have z0 : 0 ≤ L2 := by omega
        have z1 : L2 ≤ 1048576 := by omega
        rw [hL2] at E1 HE2
        clear hL2 q1 q2 HE HT
        go_wp2_with fail
        refine (szSection_any _ (secV x vb vf) x HX.out HN.out L hL0 hL1).mono ?_
        rw [E1]
        rintro e w2 ⟨rfl, h2⟩
        have HF2 := Lib.hid (HF.out.call h2)
        clear h2 HF E1 g0 g1 g2 g3 g4 g5
        go_wp2_with fail
        go_roundw
        case rel => exact ⟨k + 1, L2, by omega, by go_num, rfl, z0, z1, HE2, HF2⟩
        case measure => simp [intOf]; try omega
      · have E1 : szV L (secCost x) = -1 := by unfold szV; rw [if_neg q1]
        have HE2 : Hid (szV left ((l.length : Int) + secsCost l) = -1) := by show _ = _; rw [HE.out, HT.out, szV_over (secsCost_nonneg _) q1]
        clear q1 HE HT
        go_wp2_with fail
        refine (szSection_any _ (secV x vb vf) x HX.out HN.out L hL0 hL1).mono ?_
        rw [E1]
        rintro e w2 ⟨rfl, h2⟩
        have HF2 := Lib.hid (HF.out.call h2)
        clear h2 HF E1 g0 g1 g2 g3 g4 g5
        go_wp2_with fail
        go_ret
        exact ⟨by rw [HE2.out]; try rfl, HF2.out.below⟩
    · obtain rfl : k = l.length := by omega
      have E2 : Hid (szV left ((l.length : Int) + secsCost l) = L) := by
        show _ = _; rw [HE.out, List.drop_length]; unfold szV secsCost; rw [if_pos hL0]; omega
      go_wp2_with fail
      go_ret
      exact ⟨by rw [E2.out]; try rfl, HF.out.below⟩
/-- What a symbol costs. -/
def symCost (s : SymD) : Int := s.name.size
set_option maxHeartbeats 1000000 in
theorem szSymbol_any (w : World) (s : SymD) (hs : s.name.size ≤ maxLen) (left : Int) (h0 : 0 ≤ left) (h1 : left ≤ 1048576) :
    Calls Try.prog 73 #[symV s, .int .i64 left] w fun e w' => e = .returned (.int .i64 (szV left (symCost s))) ∧ Below w.heap.size w w' := by
  unfold maxLen at hs
  by_cases hle : (s.name.size : Int) ≤ left
  · have E : Hid (szV left (symCost s) = left - (s.name.size : Int)) := by show _ = _; unfold szV symCost; rw [if_pos hle]
    go_enter Try.func73, Try.ntmps73
    go_wp2
    go_ret
    exact ⟨by rw [E.out]; try rfl, ((From.start w).alloc _).below⟩
  · have hgt : left < (s.name.size : Int) := by omega
    have E : Hid (szV left (symCost s) = -1) := by show _ = _; unfold szV symCost; rw [if_neg hle]
    clear hle
    go_enter Try.func73, Try.ntmps73
    go_wp2
    go_ret
    exact ⟨by rw [E.out]; try rfl, ((From.start w).alloc _).below⟩
/-- What symbols cost. -/
def symsCost : List SymD → Int
  | [] => 0
  | s :: r => symCost s + symsCost r
theorem symsCost_nonneg : ∀ l, 0 ≤ symsCost l
  | [] => Int.le_refl _
  | s :: r => by have := symsCost_nonneg r; unfold symsCost symCost; omega
set_option maxHeartbeats 1000000 in
theorem szSymbolS_any (w : World) (v : Value) (l : List SymD) (h : SymsAt w v l) (hs : ∀ s ∈ l, s.name.size ≤ maxLen) (left : Int) (h0 : 0 ≤ left) (h1 : left ≤ 1048576) :
    Calls Try.prog 44 #[v, .int .i64 left] w fun e w' => e = .returned (.int .i64 (szV left ((l.length : Int) + symsCost l))) ∧ Below w.heap.size w w' := by
  obtain ⟨a, cap, rfl, hcap, hmax, hnone, hcell⟩ := h.form
  have HC := Lib.hid hcell
  have HS := Lib.hid hs
  clear h hcell hnone hs
  unfold maxLen at hmax
  by_cases q1 : (l.length : Int) ≤ left
  case neg =>
    have q2 : left < (l.length : Int) := by omega
    have E : Hid (szV left ((l.length : Int) + symsCost l) = -1) := szV_over (symsCost_nonneg l) q1
    clear q1
    go_enter Try.func44, Try.ntmps44
    go_wp2_with fail
    go_ret
    exact ⟨by rw [E.out]; try rfl, (From.start w).below⟩
  have E0 : Hid (szV left ((l.length : Int) + symsCost l) = szV (left - (l.length : Int)) (symsCost (l.drop 0))) := by show _ = _; rw [szV_plus (by omega) (symsCost_nonneg l) q1]; rfl
  go_enter Try.func44, Try.ntmps44
  go_wp2_with fail
  go_loopw [1, 5] (fun lv i wr => ∃ (k : Nat) (L : Int), k ≤ l.length ∧ i = .int .i64 k ∧ lv = .int .i64 L ∧ 0 ≤ L ∧ L ≤ 1048576 ∧ Hid (szV left ((l.length : Int) + symsCost l) = szV L (symsCost (l.drop k))) ∧ Hid (From w.heap.size w wr)) (fun _ i _ => l.length - (intOf i).toNat)
  case atStart => exact ⟨0, left - (l.length : Int), Nat.zero_le _, rfl, rfl, by omega, by omega, E0, From.start w⟩
  case round =>
    clear E0 q1 h0 h1
    obtain ⟨k, L, hk, rfl, rfl, hL0, hL1, HE, HF⟩ := hrel
    by_cases hlt : k < l.length
    · obtain ⟨b, off, rfl, hc⟩ := HC.out (by omega)
      obtain ⟨c0, c1, c2, c3⟩ := hc k hlt
      have hbl : b < w.heap.size := World.block_lt_of_cell? w _ c0
      have g0 := (HF.out.below.cell (p := ⟨b, off + k * 4, none⟩) hbl).trans c0
      have g1 := (HF.out.below.cell (p := ⟨b, off + k * 4 + 1, none⟩) hbl).trans c1
      have g2 := (HF.out.below.cell (p := ⟨b, off + k * 4 + 2, none⟩) hbl).trans c2
      have g3 := (HF.out.below.cell (p := ⟨b, off + k * 4 + 3, none⟩) hbl).trans c3
      have HT : Hid (symsCost (l.drop k) = symCost l[k] + symsCost (l.drop (k + 1))) := by show _ = _; rw [List.drop_eq_getElem_cons hlt]; rfl
      have HN := Lib.hid (HS.out l[k] (List.getElem_mem hlt))
      clear hc c0 c1 c2 c3
      generalize l[k] = x at *
      have q2 : 0 ≤ symCost x := by unfold symCost; omega
      by_cases q1 : symCost x ≤ L
      · have E1 : szV L (symCost x) = L - symCost x := by unfold szV; rw [if_pos q1]
        have HE2 : Hid (szV left ((l.length : Int) + symsCost l) = szV (L - symCost x) (symsCost (l.drop (k + 1)))) := by show _ = _; rw [HE.out, HT.out, szV_plus q2 (symsCost_nonneg _) q1]
        obtain ⟨L2, hL2⟩ : ∃ L2, L - symCost x = L2 := ⟨_, rfl⟩
        have z0 : 0 ≤ L2 := by omega
        have z1 : L2 ≤ 1048576 := by omega
        rw [hL2] at E1 HE2
        clear hL2 q1 q2 HE HT
        go_wp2_with fail
        refine (szSymbol_any _ x HN.out L hL0 hL1).mono ?_
        rw [E1]
        rintro e w2 ⟨rfl, h2⟩
        have HF2 := Lib.hid (HF.out.call h2)
        clear h2 HF E1 g0 g1 g2 g3
        go_wp2_with fail
        go_roundw
        case rel => exact ⟨k + 1, L2, by omega, by go_num, rfl, z0, z1, HE2, HF2⟩
        case measure => simp [intOf]; try omega
      · have E1 : szV L (symCost x) = -1 := by unfold szV; rw [if_neg q1]
        have HE2 : Hid (szV left ((l.length : Int) + symsCost l) = -1) := by show _ = _; rw [HE.out, HT.out, szV_over (symsCost_nonneg _) q1]
        clear q1 q2 HE HT
        go_wp2_with fail
        refine (szSymbol_any _ x HN.out L hL0 hL1).mono ?_
        rw [E1]
        rintro e w2 ⟨rfl, h2⟩
        have HF2 := Lib.hid (HF.out.call h2)
        clear h2 HF E1 g0 g1 g2 g3
        go_wp2_with fail
        go_ret
        exact ⟨by rw [HE2.out]; try rfl, HF2.out.below⟩
    · obtain rfl : k = l.length := by omega
      have E2 : Hid (szV left ((l.length : Int) + symsCost l) = L) := by
        show _ = _; rw [HE.out, List.drop_length]; unfold szV symsCost; rw [if_pos hL0]; omega
      go_wp2_with fail
      go_ret
      exact ⟨by rw [E2.out]; try rfl, HF.out.below⟩
/-- What an object costs. -/
def objCost (o : ObjD) : Int := ((o.secs.length : Int) + secsCost o.secs) + ((o.syms.length : Int) + symsCost o.syms)
theorem objCost_nonneg (o : ObjD) : 0 ≤ objCost o := by
  have := secsCost_nonneg o.secs; have := symsCost_nonneg o.syms; unfold objCost; omega
theorem few_obj {o : ObjD} (h : objCost o ≤ 1048576) : FewObj o := by
  have h1 := secsCost_nonneg o.secs
  have h2 := symsCost_nonneg o.syms
  unfold objCost at h
  exact ⟨by omega, by omega, few_secs (by omega)⟩
set_option maxHeartbeats 1000000 in
theorem szObject_any (w : World) (v : Value) (o : ObjD) (h : ObjAt w v o) (hs : (∀ s ∈ o.secs, s.name.size ≤ maxLen) ∧ ∀ s ∈ o.syms, s.name.size ≤ maxLen) (left : Int) (h0 : 0 ≤ left) (h1 : left ≤ 1048576) :
    Calls Try.prog 14 #[v, .int .i64 left] w fun e w' => e = .returned (.int .i64 (szV left (objCost o))) ∧ Below w.heap.size w w' := by
  obtain ⟨vs, vy, rfl, hb, hf⟩ := h
  have HB := Lib.hid hb
  have HX := Lib.hid hf
  have HS := Lib.hid hs
  clear hb hf hs
  have n1 := secsCost_nonneg o.secs
  have n2 := symsCost_nonneg o.syms
  by_cases q2 : (o.secs.length : Int) + secsCost o.secs ≤ left
  · obtain ⟨L, hL⟩ : ∃ L, left - ((o.secs.length : Int) + secsCost o.secs) = L := ⟨_, rfl⟩
    have z0 : 0 ≤ L := by omega
    have z1 : L ≤ 1048576 := by omega
    have E2 : szV left ((o.secs.length : Int) + secsCost o.secs) = L := by unfold szV; rw [if_pos q2]; omega
    have E0 : szV left (objCost o) = szV L ((o.syms.length : Int) + symsCost o.syms) := by unfold objCost; rw [szV_plus (by omega) (by omega) q2, hL]
    have HE := Lib.hid E0
    clear hL q2 E0
    go_enter Try.func14, Try.ntmps14
    go_wp2_with fail
    refine (szSectionS_any _ vs o.secs (HB.out.below (Nat.le_refl _) ((From.start w).alloc _).below) HS.out.1 _ h0 h1).mono ?_
    rw [E2]
    rintro e w1 ⟨rfl, g1⟩
    have HF := Lib.hid (((From.start w).alloc _).call g1)
    have B1 := (Blk.newAt w _ _ w.heap.size rfl).call g1
    have c1 := B1.cell
    clear g1 E2
    go_wp2_with fail
    refine (szSymbolS_any _ vy o.syms (HX.out.below (Nat.le_refl _) HF.out.below) HS.out.2 _ z0 z1).mono ?_
    rintro e w2 ⟨rfl, g2⟩
    have HF2 := Lib.hid (HF.out.call g2)
    clear g2 HF B1 c1
    rw [← HE.out]
    by_cases q3 : szV left (objCost o) < 0
    · have q4 : szV left (objCost o) = -1 := by unfold szV at q3 ⊢; split at q3 <;> split <;> omega
      rw [q4]
      have Q4 := Lib.hid q4
      clear q3 q4
      go_wp2_with fail
      go_ret
      exact ⟨by rw [Q4.out]; try rfl, HF2.out.below⟩
    · go_wp2_with fail
      go_ret
      exact ⟨rfl, HF2.out.below⟩
  · have E2 : szV left ((o.secs.length : Int) + secsCost o.secs) = -1 := by unfold szV; rw [if_neg q2]
    have E : Hid (szV left (objCost o) = -1) := by show _ = _; unfold objCost; exact szV_over (by omega) q2
    clear q2
    go_enter Try.func14, Try.ntmps14
    go_wp2_with fail
    refine (szSectionS_any _ vs o.secs (HB.out.below (Nat.le_refl _) ((From.start w).alloc _).below) HS.out.1 _ h0 h1).mono ?_
    rw [E2]
    rintro e w1 ⟨rfl, g1⟩
    have HF := Lib.hid (((From.start w).alloc _).call g1)
    clear g1 E2
    go_wp2_with fail
    go_ret
    exact ⟨by rw [E.out]; try rfl, HF.out.below⟩
end Go.Proofs.Ytkefbhidfbnipaa
