/- What the statements on objects draw. -/
import Derived.Test.YtnompmdnonelhaaDrawO
namespace Go.Proofs.Ytnompmdnonelhaa
open Go.ChangeShapes Go.WideShapes Go.ChangeAt Go.RowKit Go.Joins
set_option linter.unusedSimpArgs false
set_option linter.unusedVariables false
set_option maxRecDepth 100000
/-- An object that can be read; its names are short. -/
def ReadObj (w : World) (v : Value) : Prop := ∃ o, ObjAt w v o ∧ (∀ s ∈ o.secs, s.name.size ≤ 9) ∧ (∀ s ∈ o.syms, s.name.size ≤ 9) ∧ o.secs.length ≤ 9 ∧ o.syms.length ≤ 13 ∧ ∀ s ∈ o.secs, s.bytes.length ≤ 49 ∧ s.fix.length ≤ 4
theorem SomeObj.form {base : Nat} {w : World} {v : Value} (h : SomeObj base w v) : ∃ a n b c m d, v = .agg #[.slice a n b, .slice c m d] := by
  obtain ⟨o, vs, vy, ls, rfl, h1, h2, h3, h4⟩ := h
  obtain ⟨a, b, rfl⟩ := owns_form h2.row
  obtain ⟨c, d, rfl⟩ := owns_form h3
  exact ⟨_, _, _, _, _, _, rfl⟩
theorem SomeObj.read {base : Nat} {w : World} {v : Value} (h : SomeObj base w v) : ReadObj w v := by
  obtain ⟨o, vs, vy, ls, rfl, h1, h2, h3, h4, h5, h6, h7, h8⟩ := h
  refine ⟨o, ⟨vs, vy, rfl, ⟨ls, h1, h2.reads⟩, reads_of_owns h3⟩, fun s hs => ?_, h6, by rw [h1, List.length_map]; exact h7, h8, fun s hs => ?_⟩
  · rw [h1] at hs
    obtain ⟨x, hx, rfl⟩ := List.mem_map.1 hs
    exact (h5 x hx).1
  · rw [h1] at hs
    obtain ⟨x, hx, rfl⟩ := List.mem_map.1 hs
    exact ⟨(h5 x hx).2.1, (h5 x hx).2.2.1⟩
theorem SomeObj.store {base : Nat} {w : World} {v : Value} (h : SomeObj base w v) {T : Nat} (hT : T < base) (a b : Value) : SomeObj base ((w.setCell ⟨T, 0, none⟩ a).setCell ⟨T, 1, none⟩ b) v := by
  obtain ⟨o, vs, vy, ls, rfl, h1, h2, h3, h4⟩ := h
  exact ⟨o, vs, vy, ls, rfl, h1, (h2.setBelow (a := ⟨T, 0, none⟩) hT a).setBelow (a := ⟨T, 1, none⟩) hT b, ownsRow_setCell_below (ownsRow_setCell_below h3 (a := ⟨T, 0, none⟩) hT a) (a := ⟨T, 1, none⟩) hT b, h4⟩
theorem SomeObj.drawn {base g : Nat} {w w' : World} {v : Value} (h : SomeObj base w v) (hg : w.grownBy w' (some g)) (hb : g < base) : SomeObj base w' v := by
  obtain ⟨o, vs, vy, ls, rfl, h1, h2, h3, h4⟩ := h
  exact ⟨o, vs, vy, ls, rfl, h1, h2.drawn hg hb, owns_drawn h3 hg hb, h4⟩
set_option maxHeartbeats 1000000 in
theorem s_DrawObjectValid_any (w : World) (v : Value) (l : List UInt8) (h : BytesAt w v l) :
    Calls Try.prog 27 #[v] w (DrawB ReadObj w) := by
  have H := Lib.hid h
  clear h
  go_enter Try.func27, Try.ntmps27
  go_wp2_with fail
  refine (l20Open_any _ _ l (H.out.below (Nat.le_refl _) ((From.start w).alloc _).below)).mono ?_
  rintro e w1 ⟨g, rfl, hg, hR, hb⟩
  have HF := Lib.hid (((From.start w).alloc _).call hb)
  have HT := Lib.hid ((Blk.new w objZero 41).call hb)
  have HR := Lib.hid hR
  have zT : w.heap.size < w1.heap.size := HT.out.lt
  have gT : g ≠ w.heap.size := by simp at hg; omega
  have gle : w.heap.size ≤ g := by simp at hg; omega
  clear hb hR hg
  go_wp2_with fail
  refine (l20Object_any w1 g 0 HR.out (by decide) 2 (by decide) (by decide)).mono ?_
  rintro e w2 ⟨_, q, rfl, hO, hq, hD⟩
  have HF2 := Lib.hid (HF.out.drawn hD gle)
  have HT2 := Lib.hid (HT.out.drawn hD gT)
  obtain ⟨a, n, b, c, m, d, rfl⟩ := hO.form
  have HO := Lib.hid (hO.store zT (.slice a n b) (.slice c m d))
  have HF3 := Lib.hid ((HF2.out.setCell (p := ⟨w.heap.size, 0, none⟩) (Nat.le_refl _) (.slice a n b)).setCell (p := ⟨w.heap.size, 1, none⟩) (Nat.le_refl _) (.slice c m d))
  have cT := HT2.out.cell
  have fT := HT2.out.frozen
  have z2 : w.heap.size < w2.heap.size := HT2.out.lt
  clear hD HT HF HR hO
  go_wp2_with fail
  refine bodyPost_ret (v := .agg #[.slice a n b, .slice c m d]) (by simp [results, Try.results27, go_sem, cT, z2]) rfl ⟨_, rfl, HO.out.read, HF3.out⟩
set_option maxHeartbeats 1000000 in
theorem s_DrawNamesWanted_any (w : World) (v : Value) (l : List UInt8) (h : BytesAt w v l) :
    Calls Try.prog 64 #[v] w (DrawB ReadObj w) := by
  have H := Lib.hid h
  clear h
  go_enter Try.func64, Try.ntmps64
  go_wp2_with fail
  refine (l20Open_any _ _ l (H.out.below (Nat.le_refl _) ((From.start w).alloc _).below)).mono ?_
  rintro e w1 ⟨g, rfl, hg, hR, hb⟩
  have HF := Lib.hid (((From.start w).alloc _).call hb)
  have HT := Lib.hid ((Blk.new w objZero 41).call hb)
  have HR := Lib.hid hR
  have zT : w.heap.size < w1.heap.size := HT.out.lt
  have gT : g ≠ w.heap.size := by simp at hg; omega
  have gle : w.heap.size ≤ g := by simp at hg; omega
  clear hb hR hg
  go_wp2_with fail
  refine (l20Object_any w1 g 0 HR.out (by decide) 9 (by decide) (by decide)).mono ?_
  rintro e w2 ⟨_, q, rfl, hO, hq, hD⟩
  have HF2 := Lib.hid (HF.out.drawn hD gle)
  have HT2 := Lib.hid (HT.out.drawn hD gT)
  obtain ⟨a, n, b, c, m, d, rfl⟩ := hO.form
  have HO := Lib.hid (hO.store zT (.slice a n b) (.slice c m d))
  have HF3 := Lib.hid ((HF2.out.setCell (p := ⟨w.heap.size, 0, none⟩) (Nat.le_refl _) (.slice a n b)).setCell (p := ⟨w.heap.size, 1, none⟩) (Nat.le_refl _) (.slice c m d))
  have cT := HT2.out.cell
  have fT := HT2.out.frozen
  have z2 : w.heap.size < w2.heap.size := HT2.out.lt
  clear hD HT HF HR hO
  go_wp2_with fail
  refine bodyPost_ret (v := .agg #[.slice a n b, .slice c m d]) (by simp [results, Try.results64, go_sem, cT, z2]) rfl ⟨_, rfl, HO.out.read, HF3.out⟩
end Go.Proofs.Ytnompmdnonelhaa
