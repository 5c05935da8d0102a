/- What the statements on objects and names draw. -/
import Derived.Test.YthccjimckjecjaaDrawO
import Derived.Test.YthccjimckjecjaaStr
namespace Go.Proofs.Ythccjimckjecjaa
open Go.ChangeShapes Go.WideShapes Go.ChangeAt Go.RowKit Go.Joins
set_option linter.unusedSimpArgs false
set_option linter.unusedVariables false
set_option maxRecDepth 100000
theorem SomeObj.alloc {base : Nat} {w : World} {v : Value} (h : SomeObj base w v) (x : Obj) : SomeObj base (w.alloc x) v := by
  obtain ⟨o, vs, vy, ls, rfl, h1, h2, h3, h4⟩ := h
  exact ⟨o, vs, vy, ls, rfl, h1, h2.alloc x, World.ownsRow.alloc h3 x, h4⟩
theorem SomeObj.drew {base : Nat} {w : World} {v : Value} (h : SomeObj base w v) : SomeObj base w.drew v := by
  obtain ⟨o, vs, vy, ls, rfl, h1, ⟨a, b, c⟩, h3, h4⟩ := h
  exact ⟨o, vs, vy, ls, rfl, h1, ⟨World.ownsRow.drew a, fun x hx => ⟨World.ownsRow.drew (b x hx).1, World.ownsRow.drew (b x hx).2⟩, c⟩, World.ownsRow.drew h3, h4⟩
/-- An object and names that can be read; all names are short. -/
def ReadON (w : World) (v : Value) : Prop := ∃ vo vl o L, v = .tuple #[vo, vl] ∧ ObjAt w vo o ∧ (∀ s ∈ o.secs, s.name.size ≤ 9) ∧ (∀ s ∈ o.syms, s.name.size ≤ 9) ∧ StrsAt w vl L ∧ L.length ≤ 7 ∧ ∀ s ∈ L, s.size ≤ 9
set_option maxHeartbeats 2000000 in
theorem s_DrawHideNames_any (w : World) (v : Value) (l : List UInt8) (h : BytesAt w v l) :
    Calls Try.prog 22 #[v] w (DrawB ReadON w) := by
  have H := Lib.hid h
  clear h
  go_enter Try.func22, Try.ntmps22
  go_wp2_with fail
  refine (l20Open_any _ _ l (H.out.below (Nat.le_refl _) ((From.start w).alloc _).below)).mono ?_
  rintro e w1 ⟨g, rfl, hg, hR, hb⟩
  have HF := Lib.hid (((From.start w).alloc _).call hb)
  have HT := Lib.hid ((Blk.new w objZero 26).call hb)
  have HR := Lib.hid hR
  have zT : w.heap.size < w1.heap.size := HT.out.lt
  have zg : g < w1.heap.size := hR.lt
  have gT : g ≠ w.heap.size := by simp at hg; omega
  have gle : w.heap.size ≤ g := by simp at hg; omega
  clear hb hR hg
  go_wp2_with fail
  refine (l20Object_any w1 g 0 HR.out (by decide) 9 (by decide) (by decide)).mono ?_
  rintro e w2 ⟨_, q, rfl, hO, hq, hD⟩
  have HF2 := Lib.hid (HF.out.drawn hD gle)
  have HT2 := Lib.hid (HT.out.drawn hD gT)
  obtain ⟨a, n, b, c, m, d, rfl⟩ := hO.form
  have HO := Lib.hid (hO.alloc (.cells #[.slice a n b, .slice c m d] 26))
  have HF3 := Lib.hid (HF2.out.alloc (.cells #[.slice a n b, .slice c m d] 26))
  have HT3 := Lib.hid (HT2.out.alloc (.cells #[.slice a n b, .slice c m d] 26))
  have HB3 := Lib.hid (Blk.new w2 #[.slice a n b, .slice c m d] 26)
  have HD3 := Lib.hid (hD.alloc (.cells #[.slice a n b, .slice c m d] 26))
  have g5 : g ≠ w2.heap.size := by have := hD.lt; omega
  clear hD hO HF HT HR HF2 HT2
  go_wp2_with fail
  generalize hw3 : w2.alloc (.cells #[.slice a n b, .slice c m d] 26) = w3 at HO HF3 HT3 HB3 HD3 ⊢
  clear hw3
  generalize w2.heap.size = B at *
  have cB := HB3.out.cell
  have zB := HB3.out.lt
  have zT3 : w.heap.size < w3.heap.size := HT3.out.lt
  have q7 : q ≤ 1073000000 := by omega
  have L1 := l20Names_any w3.drew g q HD3.out.rd q7 9 (by decide) (by decide)
  have K5 : ∀ (u : World) (q5 : Nat), Drawn g q5 w3.drew u → (∀ o, u.cell? ⟨B, o, none⟩ = #[Value.slice a n b, Value.slice c m d][o]?) ∧ (∀ o, u.cell? ⟨w.heap.size, o, none⟩ = objZero[o]?) ∧ (∀ o, u.frozen? ⟨w.heap.size, o, none⟩ = false) ∧ w.heap.size < u.heap.size ∧ B < u.heap.size ∧ SomeObj w1.heap.size u (.agg #[.slice a n b, .slice c m d]) ∧ From w.heap.size w u := by
    intro u q5 hD
    have B5 := (Blk.drew HB3.out).drawn hD g5
    have T5 := (Blk.drew HT3.out).drawn hD gT
    have O0 : SomeObj w1.heap.size w3.drew (.agg #[.slice a n b, .slice c m d]) := HO.out.drew
    exact ⟨B5.cell, T5.cell, T5.frozen, T5.lt, B5.lt, O0.drawn hD.grow zg, (HF3.out.drew).drawn hD gle⟩
  go_region_with (first | (go_at_call 72; refine L1.mono ?_; rintro e w5 ⟨_, q5, rfl, ⟨L, hL, hL1, hL2⟩, hq5, hD5⟩; obtain ⟨na, nc, rfl⟩ := owns_form hL; obtain ⟨cB5, cT5, fT5, zT5, zB5, hO5, hF5⟩ := K5 w5 q5 hD5; clear hD5))
  all_goals (go_wp2_with fail)
  all_goals
    have HO6 := hO5.store zT (.slice a n b) (.slice c m d)
    have HF6 := (hF5.setCell (p := ⟨w.heap.size, 0, none⟩) (Nat.le_refl _) (.slice a n b)).setCell (p := ⟨w.heap.size, 1, none⟩) (Nat.le_refl _) (.slice c m d)
    have HL6 := ownsRow_setCell_below (ownsRow_setCell_below hL (a := ⟨w.heap.size, 0, none⟩) zT3 (.slice a n b)) (a := ⟨w.heap.size, 1, none⟩) zT3 (.slice c m d)
    obtain ⟨o, r1, r2, r3, -⟩ := HO6.read
    refine bodyPost_ret (v := .tuple #[.agg #[.slice a n b, .slice c m d], .slice na L.length nc]) (by simp [results, Try.results22, go_sem, cT5, zT5, Act.put]) rfl ⟨_, rfl, ⟨_, _, o, L, rfl, r1, r2, r3, reads_of_owns HL6, hL1, hL2⟩, HF6⟩
end Go.Proofs.Ythccjimckjecjaa
