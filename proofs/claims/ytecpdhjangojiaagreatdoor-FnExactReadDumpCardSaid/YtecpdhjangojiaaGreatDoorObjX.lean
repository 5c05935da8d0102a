/- Sections, symbols and objects: copied, compared, measured. -/
import Derived.Test.YtecpdhjangojiaaGreatDoorSec
import Derived.Test.YtecpdhjangojiaaGreatDoorBytes
namespace Go.Proofs.YtecpdhjangojiaaGreatDoor
open Go.ChangeShapes Go.WideShapes Go.ChangeAt Go.RowKit Go.Joins
set_option linter.unusedSimpArgs false
set_option linter.unusedVariables false
set_option maxRecDepth 100000

/-- What a function ends in that hands back an object of its own. -/
def RetObj (w : World) (o : ObjD) (e : Ending) (w' : World) : Prop := ∃ r, e = .returned r ∧ OwnObj w' w.heap.size r o ∧ Below w.heap.size w w'
/-- Few parts in an object. -/
def FewObj (o : ObjD) : Prop := o.secs.length ≤ 1048576 ∧ o.syms.length ≤ 1048576 ∧ ∀ s ∈ o.secs, s.bytes.length ≤ 1073741824 ∧ s.fix.length ≤ 1073741824
set_option maxHeartbeats 1000000 in
theorem eqSectionS_same (w : World) (v1 v2 : Value) (l : List SecD) (h1 : SecsAt w v1 l) (h2 : SecsAt w v2 l) :
    Calls Tryz.prog 37 #[v1, v2] w fun e w' => e = .returned (.bool true) ∧ Below w.heap.size w w' := by
  obtain ⟨a1, cap1, rfl, hcap1, hmax1, hnone1, hcell1⟩ := h1.form
  obtain ⟨a2, cap2, rfl, hcap2, hmax2, hnone2, hcell2⟩ := h2.form
  have H1 := Lib.hid hcell1
  have H2 := Lib.hid hcell2
  clear h1 h2 hcell1 hcell2 hnone1 hnone2
  unfold maxLen at hmax1 hmax2
  go_enter Tryz.func37, Tryz.ntmps37
  go_wp2_with fail
  go_loopw [5] (fun i wr => ∃ k : Nat, k ≤ l.length ∧ i = .int .i64 k ∧ Hid (From w.heap.size w wr)) (fun i _ => l.length - (intOf i).toNat)
  case atStart => exact ⟨0, Nat.zero_le _, rfl, From.start w⟩
  case round =>
    obtain ⟨k, hk, rfl, HF⟩ := hrel
    by_cases hlt : k < l.length
    · obtain ⟨b1, off1, rfl, hc1⟩ := H1.out (by omega)
      obtain ⟨b2, off2, rfl, hc2⟩ := H2.out (by omega)
      obtain ⟨vb1, vf1, hb1, hf1, c0, c1, c2, c3, c4, c5⟩ := hc1 k hlt
      obtain ⟨vb2, vf2, hb2, hf2, e0, e1, e2, e3, e4, e5⟩ := hc2 k hlt
      have l1 : b1 < w.heap.size := World.block_lt_of_cell? w _ c0
      have l2 : b2 < w.heap.size := World.block_lt_of_cell? w _ e0
      have g0 := (HF.out.below.cell (p := ⟨b1, off1 + k * 6, none⟩) l1).trans c0
      have g1 := (HF.out.below.cell (p := ⟨b1, off1 + k * 6 + 1, none⟩) l1).trans c1
      have g2 := (HF.out.below.cell (p := ⟨b1, off1 + k * 6 + 2, none⟩) l1).trans c2
      have g3 := (HF.out.below.cell (p := ⟨b1, off1 + k * 6 + 3, none⟩) l1).trans c3
      have g4 := (HF.out.below.cell (p := ⟨b1, off1 + k * 6 + 4, none⟩) l1).trans c4
      have g5 := (HF.out.below.cell (p := ⟨b1, off1 + k * 6 + 5, none⟩) l1).trans c5
      have d0 := (HF.out.below.cell (p := ⟨b2, off2 + k * 6, none⟩) l2).trans e0
      have d1 := (HF.out.below.cell (p := ⟨b2, off2 + k * 6 + 1, none⟩) l2).trans e1
      have d2 := (HF.out.below.cell (p := ⟨b2, off2 + k * 6 + 2, none⟩) l2).trans e2
      have d3 := (HF.out.below.cell (p := ⟨b2, off2 + k * 6 + 3, none⟩) l2).trans e3
      have d4 := (HF.out.below.cell (p := ⟨b2, off2 + k * 6 + 4, none⟩) l2).trans e4
      have d5 := (HF.out.below.cell (p := ⟨b2, off2 + k * 6 + 5, none⟩) l2).trans e5
      have i1 : (k : Int) < (l.length : Int) := by omega
      have i3 : (0 : Int) ≤ (k : Int) := by omega
      have HS1 : Hid (SecAt w (secV l[k] vb1 vf1) l[k]) := ⟨vb1, vf1, rfl, hb1, hf1⟩
      have HS2 : Hid (SecAt w (secV l[k] vb2 vf2) l[k]) := ⟨vb2, vf2, rfl, hb2, hf2⟩
      clear hc1 hc2 c0 c1 c2 c3 c4 c5 e0 e1 e2 e3 e4 e5 hb1 hf1 hb2 hf2
      generalize l[k] = x at *
      go_wp2_with fail
      go_still_tail 8, (by kernel_rfl)
      change wpList _ _ _ _ _ wr.drew
      have HFd := Lib.hid HF.out.drew
      clear g0 g1 g2 g3 g4 g5 d0 d1 d2 d3 d4 d5 HF
      generalize wr.drew = w2 at HFd ⊢
      go_wp2_with fail
      refine (eqSection_same w2 (secV x vb1 vf1) (secV x vb2 vf2) x (HS1.out.below (Nat.le_refl _) HFd.out.below) (HS2.out.below (Nat.le_refl _) HFd.out.below)).mono ?_
      rintro e w3 ⟨rfl, h3⟩
      have HF3 := Lib.hid (HFd.out.call h3)
      clear h3 HFd
      go_wp2_with fail
      go_roundw
      case rel => exact ⟨k + 1, by omega, by go_num, HF3⟩
      case measure => simp [intOf]; try omega
    · obtain rfl : k = l.length := by omega
      go_wp2_with fail
      go_ret
      exact ⟨rfl, HF.out.below⟩
set_option maxHeartbeats 800000 in
theorem eqSymbol_same (s : SymD) (w : World) :
    Calls Tryz.prog 64 #[symV s, symV s] w fun e w' => e = .returned (.bool true) ∧ Below w.heap.size w w' := by
  have he : (s.name.toList == s.name.toList) = true := str_eq rfl
  go_enter Tryz.func64, Tryz.ntmps64
  go_wp2
  go_ret
  exact ⟨rfl, (((From.start w).alloc _).alloc _).below⟩
set_option maxHeartbeats 1000000 in
theorem eqSymbolS_same (w : World) (v1 v2 : Value) (l : List SymD) (h1 : SymsAt w v1 l) (h2 : SymsAt w v2 l) :
    Calls Tryz.prog 38 #[v1, v2] w fun e w' => e = .returned (.bool true) ∧ Below w.heap.size w w' := by
  obtain ⟨a1, cap1, rfl, hcap1, hmax1, hnone1, hcell1⟩ := h1.form
  obtain ⟨a2, cap2, rfl, hcap2, hmax2, hnone2, hcell2⟩ := h2.form
  have H1 := Lib.hid hcell1
  have H2 := Lib.hid hcell2
  clear h1 h2 hcell1 hcell2 hnone1 hnone2
  unfold maxLen at hmax1 hmax2
  go_enter Tryz.func38, Tryz.ntmps38
  go_wp2_with fail
  go_loopw [5] (fun i wr => ∃ k : Nat, k ≤ l.length ∧ i = .int .i64 k ∧ Hid (From w.heap.size w wr)) (fun i _ => l.length - (intOf i).toNat)
  case atStart => exact ⟨0, Nat.zero_le _, rfl, From.start w⟩
  case round =>
    obtain ⟨k, hk, rfl, HF⟩ := hrel
    by_cases hlt : k < l.length
    · obtain ⟨b1, off1, rfl, hc1⟩ := H1.out (by omega)
      obtain ⟨b2, off2, rfl, hc2⟩ := H2.out (by omega)
      obtain ⟨c0, c1, c2, c3⟩ := hc1 k hlt
      obtain ⟨e0, e1, e2, e3⟩ := hc2 k hlt
      have l1 : b1 < w.heap.size := World.block_lt_of_cell? w _ c0
      have l2 : b2 < w.heap.size := World.block_lt_of_cell? w _ e0
      have g0 := (HF.out.below.cell (p := ⟨b1, off1 + k * 4, none⟩) l1).trans c0
      have g1 := (HF.out.below.cell (p := ⟨b1, off1 + k * 4 + 1, none⟩) l1).trans c1
      have g2 := (HF.out.below.cell (p := ⟨b1, off1 + k * 4 + 2, none⟩) l1).trans c2
      have g3 := (HF.out.below.cell (p := ⟨b1, off1 + k * 4 + 3, none⟩) l1).trans c3
      have d0 := (HF.out.below.cell (p := ⟨b2, off2 + k * 4, none⟩) l2).trans e0
      have d1 := (HF.out.below.cell (p := ⟨b2, off2 + k * 4 + 1, none⟩) l2).trans e1
      have d2 := (HF.out.below.cell (p := ⟨b2, off2 + k * 4 + 2, none⟩) l2).trans e2
      have d3 := (HF.out.below.cell (p := ⟨b2, off2 + k * 4 + 3, none⟩) l2).trans e3
      have i1 : (k : Int) < (l.length : Int) := by omega
      have i3 : (0 : Int) ≤ (k : Int) := by omega
      clear hc1 hc2 c0 c1 c2 c3 e0 e1 e2 e3
      generalize l[k] = x at *
      go_wp2_with fail
      go_still_tail 8, (by kernel_rfl)
      change wpList _ _ _ _ _ wr.drew
      have HFd := Lib.hid HF.out.drew
      clear g0 g1 g2 g3 d0 d1 d2 d3 HF
      generalize wr.drew = w2 at HFd ⊢
      go_wp2_with fail
      refine (eqSymbol_same x w2).mono ?_
      rintro e w3 ⟨rfl, h3⟩
      have HF3 := Lib.hid (HFd.out.call h3)
      clear h3 HFd
      go_wp2_with fail
      go_roundw
      case rel => exact ⟨k + 1, by omega, by go_num, HF3⟩
      case measure => simp [intOf]; try omega
    · obtain rfl : k = l.length := by omega
      go_wp2_with fail
      go_ret
      exact ⟨rfl, HF.out.below⟩
set_option maxHeartbeats 1000000 in
theorem eqObject_same (w : World) (v1 v2 : Value) (o : ObjD) (h1 : ObjAt w v1 o) (h2 : ObjAt w v2 o) :
    Calls Tryz.prog 14 #[v1, v2] w fun e w' => e = .returned (.bool true) ∧ Below w.heap.size w w' := by
  obtain ⟨s1, y1, rfl, hs1, hy1⟩ := h1
  obtain ⟨s2, y2, rfl, hs2, hy2⟩ := h2
  have HS1 := Lib.hid hs1
  have HS2 := Lib.hid hs2
  have HY1 := Lib.hid hy1
  have HY2 := Lib.hid hy2
  clear hs1 hs2 hy1 hy2
  go_enter Tryz.func14, Tryz.ntmps14
  go_wp2_with fail
  have hbb := (((From.start w).alloc (.cells #[s1, y1] 28)).alloc (.cells #[s2, y2] 28)).below
  refine (eqSectionS_same _ _ _ _ (HS1.out.below (Nat.le_refl _) hbb) (HS2.out.below (Nat.le_refl _) hbb)).mono ?_
  rintro e w1 ⟨rfl, g1⟩
  have HG := Lib.hid ((((From.start w).alloc _).alloc _).call g1)
  have B0 := ((Blk.newAt w _ _ w.heap.size rfl).alloc _).call g1
  have B1 := (Blk.newAt _ _ _ (w.heap.size + 1) (by simp)).call g1
  have c0 := B0.cell
  have c1 := B1.cell
  clear g1 hbb HS1 HS2
  go_wp2_with fail
  refine (eqSymbolS_same _ _ _ _ (HY1.out.below (Nat.le_refl _) HG.out.below) (HY2.out.below (Nat.le_refl _) HG.out.below)).mono ?_
  rintro e w2 ⟨rfl, g2⟩
  have HG2 := Lib.hid (HG.out.call g2)
  clear g2 HG B0 B1 c0 c1
  go_wp2_with fail
  go_ret
  exact ⟨rfl, HG2.out.below⟩
end Go.Proofs.YtecpdhjangojiaaGreatDoor
