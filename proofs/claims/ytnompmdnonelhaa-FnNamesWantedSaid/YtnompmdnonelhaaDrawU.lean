/- What the statements on sections draw. -/
import Derived.Test.YtnompmdnonelhaaDrawS
namespace Go.Proofs.Ytnompmdnonelhaa
open Go.ChangeShapes Go.WideShapes Go.ChangeAt Go.RowKit Go.Joins
set_option linter.unusedSimpArgs false
set_option linter.unusedVariables false
set_option maxRecDepth 100000
/-- A section, written over the cells of a block. -/
@[reducible] def store6 (w : World) (T : Nat) (a b c d e f : Value) : World := (((((w.setCell ⟨T, 0, none⟩ a).setCell ⟨T, 1, none⟩ b).setCell ⟨T, 2, none⟩ c).setCell ⟨T, 3, none⟩ d).setCell ⟨T, 4, none⟩ e).setCell ⟨T, 5, none⟩ f
theorem owns_store6 {w : World} {base : Nat} {t : TypeId} {size : Nat} {v : Value} {n : Nat} {xs : List Value} (h : w.ownsRow base t size v n xs) {T : Nat} (hT : T < base) (a b c d e f : Value) : (store6 w T a b c d e f).ownsRow base t size v n xs :=
  ownsRow_setCell_below (ownsRow_setCell_below (ownsRow_setCell_below (ownsRow_setCell_below (ownsRow_setCell_below (ownsRow_setCell_below h (a := ⟨T, 0, none⟩) hT a) (a := ⟨T, 1, none⟩) hT b) (a := ⟨T, 2, none⟩) hT c) (a := ⟨T, 3, none⟩) hT d) (a := ⟨T, 4, none⟩) hT e) (a := ⟨T, 5, none⟩) hT f
theorem From.store6 {B : Nat} {a0 w : World} (h : From B a0 w) {T : Nat} (hT : B ≤ T) (a b c d e f : Value) : From B a0 (store6 w T a b c d e f) :=
  (((((h.setCell (p := ⟨T, 0, none⟩) hT a).setCell (p := ⟨T, 1, none⟩) hT b).setCell (p := ⟨T, 2, none⟩) hT c).setCell (p := ⟨T, 3, none⟩) hT d).setCell (p := ⟨T, 4, none⟩) hT e).setCell (p := ⟨T, 5, none⟩) hT f
/-- A section that can be read. -/
def ReadSec (w : World) (v : Value) : Prop := ∃ s vb vf, v = secV s vb vf ∧ BytesAt w vb s.bytes ∧ FixAt w vf s.fix ∧ s.name.size ≤ 9 ∧ s.bytes.length ≤ 49 ∧ s.fix.length ≤ 4 ∧ -1 ≤ s.size ∧ s.size ≤ 49
def ReadSecMany (w : World) (v : Value) : Prop := ∃ x m, v = .tuple #[x, .int .i64 m] ∧ ReadSec w x
set_option maxHeartbeats 1000000 in
theorem drawSectionSize_any (w : World) (v : Value) (l : List UInt8) (h : BytesAt w v l) :
    Calls Try.prog 17 #[v] w (DrawB ReadSec w) := by
  have H := Lib.hid h
  clear h
  go_enter Try.func17, Try.ntmps17
  go_wp2_with fail
  refine (l20Open_any _ _ l (H.out.below (Nat.le_refl _) ((From.start w).alloc _).below)).mono ?_
  rintro e w1 ⟨g, rfl, hg, hR, hb⟩
  have HF := Lib.hid (((From.start w).alloc _).call hb)
  have HT := Lib.hid ((Blk.new w secZero 25).call hb)
  have HR := Lib.hid hR
  have zT : w.heap.size < w1.heap.size := HT.out.lt
  have gT : g ≠ w.heap.size := by simp at hg; omega
  clear hb hR
  go_wp2_with fail
  refine (l20Section_any w1 g 0 HR.out (by decide) 2 (by decide) (by decide) 4 (by decide) (by decide)).mono ?_
  rintro e w2 ⟨_, q, rfl, ⟨s, vb, vf, rfl, ho1, ho2, -, hn, hbl, hfl, hz0, hz1⟩, hq, hD⟩
  have HF2 := Lib.hid (HF.out.drawn hD (by simp at hg; omega))
  have HT2 := Lib.hid (HT.out.drawn hD gT)
  obtain ⟨ba, bc, rfl⟩ := owns_form ho1
  obtain ⟨fa, fc, rfl⟩ := owns_form ho2
  have HO1 := Lib.hid (owns_store6 ho1 zT (.string s.name) (.int .i64 s.kind) (.int .i64 s.align) (.slice ba s.bytes.length bc) (.int .i64 s.size) (.slice fa s.fix.length fc))
  have HO2 := Lib.hid (owns_store6 ho2 zT (.string s.name) (.int .i64 s.kind) (.int .i64 s.align) (.slice ba s.bytes.length bc) (.int .i64 s.size) (.slice fa s.fix.length fc))
  have HF3 := Lib.hid (HF2.out.store6 (Nat.le_refl _) (.string s.name) (.int .i64 s.kind) (.int .i64 s.align) (.slice ba s.bytes.length bc) (.int .i64 s.size) (.slice fa s.fix.length fc))
  have cT := HT2.out.cell
  have fT := HT2.out.frozen
  have z2 : w.heap.size < w2.heap.size := HT2.out.lt
  clear hD HT HF HR ho1 ho2
  go_wp2_with fail
  refine bodyPost_ret (v := secV s (.slice ba s.bytes.length bc) (.slice fa s.fix.length fc)) (by simp [results, Try.results17, go_sem, cT, z2]) rfl ⟨_, rfl, ⟨s, _, _, rfl, reads_of_owns HO1.out, reads_of_owns HO2.out, hn, hbl, hfl, hz0, hz1⟩, HF3.out⟩
set_option maxHeartbeats 1000000 in
theorem drawSectionValid_any (w : World) (v : Value) (l : List UInt8) (h : BytesAt w v l) :
    Calls Try.prog 21 #[v] w (DrawB ReadSecMany w) := by
  have H := Lib.hid h
  clear h
  go_enter Try.func21, Try.ntmps21
  go_wp2_with fail
  refine (l20Open_any _ _ l (H.out.below (Nat.le_refl _) ((From.start w).alloc _).below)).mono ?_
  rintro e w1 ⟨g, rfl, hg, hR, hb⟩
  have HF := Lib.hid (((From.start w).alloc _).call hb)
  have HT := Lib.hid ((Blk.new w secZero 25).call hb)
  have HR := Lib.hid hR
  have gT : g ≠ w.heap.size := by simp at hg; omega
  have gle : w.heap.size ≤ g := by simp at hg; omega
  clear hb hR hg
  go_wp2_with fail
  refine (pick_in w1 _ g 0 (Drawn.start HR.out) (by decide) 4 (by decide) (by decide)).mono ?_
  rintro e w1b ⟨m, rfl, hm0, hm1, hD⟩
  have HF1 := Lib.hid (HF.out.drawn hD gle)
  have HT1 := Lib.hid (HT.out.drawn hD gT)
  have HR1 := Lib.hid hD.rd
  have zT : w.heap.size < w1b.heap.size := HT1.out.lt
  clear hD HF HT HR
  go_wp2_with fail
  refine (l20Section_any w1b g 1 HR1.out (by decide) m hm0 (by omega) 2 (by decide) (by decide)).mono ?_
  rintro e w2 ⟨_, q, rfl, ⟨s, vb, vf, rfl, ho1, ho2, -, hn, hbl, hfl, hz0, hz1⟩, hq, hD⟩
  have HF2 := Lib.hid (HF1.out.drawn hD gle)
  have HT2 := Lib.hid (HT1.out.drawn hD gT)
  obtain ⟨ba, bc, rfl⟩ := owns_form ho1
  obtain ⟨fa, fc, rfl⟩ := owns_form ho2
  have HO1 := Lib.hid (owns_store6 ho1 zT (.string s.name) (.int .i64 s.kind) (.int .i64 s.align) (.slice ba s.bytes.length bc) (.int .i64 s.size) (.slice fa s.fix.length fc))
  have HO2 := Lib.hid (owns_store6 ho2 zT (.string s.name) (.int .i64 s.kind) (.int .i64 s.align) (.slice ba s.bytes.length bc) (.int .i64 s.size) (.slice fa s.fix.length fc))
  have HF3 := Lib.hid (HF2.out.store6 (Nat.le_refl _) (.string s.name) (.int .i64 s.kind) (.int .i64 s.align) (.slice ba s.bytes.length bc) (.int .i64 s.size) (.slice fa s.fix.length fc))
  have cT := HT2.out.cell
  have fT := HT2.out.frozen
  have z2 : w.heap.size < w2.heap.size := HT2.out.lt
  clear hD HT1 HF1 HR1 ho1 ho2
  go_wp2_with fail
  refine bodyPost_ret (v := .tuple #[secV s (.slice ba s.bytes.length bc) (.slice fa s.fix.length fc), .int .i64 m]) (by simp [results, Try.results21, go_sem, cT, z2]) rfl ⟨_, rfl, ⟨_, m, rfl, s, _, _, rfl, reads_of_owns HO1.out, reads_of_owns HO2.out, hn, hbl, hfl, hz0, hz1⟩, HF3.out⟩
end Go.Proofs.Ytnompmdnonelhaa
