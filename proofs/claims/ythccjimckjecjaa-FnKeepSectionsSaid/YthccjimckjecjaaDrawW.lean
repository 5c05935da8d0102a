/- What the statements on objects and numbers of sections draw. -/
import Derived.Test.YthccjimckjecjaaDrawQ
import Derived.Test.YthccjimckjecjaaNames
import Derived.Test.YthccjimckjecjaaReachS
import Derived.Test.YthccjimckjecjaaInts
import Derived.Test.YthccjimckjecjaaObjX
namespace Go.Proofs.Ythccjimckjecjaa
open Go.ChangeShapes Go.WideShapes Go.ChangeAt Go.RowKit Go.Joins
set_option linter.unusedSimpArgs false
set_option linter.unusedVariables false
set_option maxRecDepth 100000
theorem SomeObj.call {base : Nat} {w w' : World} {v : Value} (h : SomeObj base w v) (hb : Below w.heap.size w w') : SomeObj base w' v := by
  obtain ⟨o, vs, vy, ls, rfl, h1, h2, h3, h4⟩ := h
  exact ⟨o, vs, vy, ls, rfl, h1, h2.call hb, owns_call h3 hb, h4⟩
theorem few_read {o : ObjD} (h : o.secs.length ≤ 9 ∧ o.syms.length ≤ 13 ∧ ∀ s ∈ o.secs, s.bytes.length ≤ 49 ∧ s.fix.length ≤ 4) : FewObj o :=
  ⟨by have := h.1; omega, by have := h.2.1; omega, fun s hs => ⟨by have := (h.2.2 s hs).1; omega, by have := (h.2.2 s hs).2; omega⟩⟩
/-- An object and numbers that can be read; all names are short. -/
def ReadOI (w : World) (v : Value) : Prop := ∃ vo vl o L, v = .tuple #[vo, vl] ∧ ObjAt w vo o ∧ (∀ s ∈ o.secs, s.name.size ≤ 9) ∧ (∀ s ∈ o.syms, s.name.size ≤ 9) ∧ IntsAt w vl L ∧ FewObj o
set_option maxHeartbeats 4000000 in
theorem s_DrawKeepSections_any (w : World) (v : Value) (l : List UInt8) (h : BytesAt w v l) :
    Calls Try.prog 51 #[v] w (DrawB ReadOI w) := by
  obtain ⟨i0, hi, hz0, hz1, hz2⟩ := info_parts info_int
  have H := Lib.hid h
  clear h
  go_enter Try.func51, Try.ntmps51
  go_wp2_with fail
  refine (l20Open_any _ _ l (H.out.below (Nat.le_refl _) ((From.start w).alloc _).below)).mono ?_
  rintro e w1 ⟨g, rfl, hg, hR, hb⟩
  have HF := Lib.hid (((From.start w).alloc _).call hb)
  have HT := Lib.hid ((Blk.new w objZero 26).call hb)
  have HR := Lib.hid hR
  have zT : w.heap.size < w1.heap.size := HT.out.lt
  have zg : g < w1.heap.size := hR.lt
  have gT : g ≠ w.heap.size := by simp at hg; omega
  have gle : w.heap.size ≤ g := by simp at hg; omega
  clear hb hR hg
  go_wp2_with fail
  refine (l20Object_any w1 g 0 HR.out (by decide) 9 (by decide) (by decide)).mono ?_
  rintro e w2 ⟨_, q, rfl, hO, hq, hD⟩
  have HF2 := Lib.hid (HF.out.drawn hD gle)
  have HT2 := Lib.hid (HT.out.drawn hD gT)
  obtain ⟨a, n, b, c, m, d, rfl⟩ := hO.form
  have HO := Lib.hid (hO.alloc (.cells #[.slice a n b, .slice c m d] 26))
  have HF3 := Lib.hid (HF2.out.alloc (.cells #[.slice a n b, .slice c m d] 26))
  have HT3 := Lib.hid (HT2.out.alloc (.cells #[.slice a n b, .slice c m d] 26))
  have HB3 := Lib.hid (Blk.new w2 #[.slice a n b, .slice c m d] 26)
  have HD3 := Lib.hid (hD.alloc (.cells #[.slice a n b, .slice c m d] 26))
  have g5 : g ≠ w2.heap.size := by have := hD.lt; omega
  clear hD hO HF HT HR HF2 HT2
  go_wp2_with fail
  generalize hw3 : w2.alloc (.cells #[.slice a n b, .slice c m d] 26) = w3 at HO HF3 HT3 HB3 HD3 ⊢
  clear hw3
  generalize w2.heap.size = B at *
  have q7 : q ≤ 1073000000 := by omega
  refine (pick_in w3 w3 g q (Drawn.start HD3.out.rd) (by omega) 2 (by omega) (by omega)).mono ?_
  rintro e w4 ⟨x, rfl, hx0, hx1, hD4⟩
  have HB4 := Lib.hid (HB3.out.drawn hD4 g5)
  have HT4 := Lib.hid (HT3.out.drawn hD4 gT)
  have HF4 := Lib.hid (HF3.out.drawn hD4 gle)
  have HO4 : Hid (SomeObj w1.heap.size w4 (.agg #[.slice a n b, .slice c m d])) := HO.out.drawn hD4.grow zg
  have HR4 := Lib.hid hD4.rd
  have zg4 := hD4.lt
  have z14 : w1.heap.size ≤ w4.heap.size := by have := HO4.out; exact Nat.le_trans HD3.out.grow.size hD4.grow.size
  clear HB3 HT3 HF3 HO HD3 hD4
  have cB := HB4.out.cell
  have zB := HB4.out.lt
  have zT4 : w.heap.size < w4.heap.size := HT4.out.lt
  by_cases hx : x = 0
  · subst hx
    clear hx0 hx1
    go_wp2_with fail
    obtain ⟨o, r1, r2, r3, -⟩ := HO4.out.read
    have HN : Hid ((∀ s ∈ o.secs, s.name.size ≤ maxLen) ∧ ∀ s ∈ o.syms, s.name.size ≤ maxLen) := ⟨fun s hs => by have := r2 s hs; unfold maxLen; omega, fun s hs => by have := r3 s hs; unfold maxLen; omega⟩
    have HOo := Lib.hid r1
    clear r1 r2 r3
    have K5 : ∀ (u : World), From w4.heap.size w4 u → (∀ o, u.cell? ⟨B, o, none⟩ = #[Value.slice a n b, Value.slice c m d][o]?) ∧ (∀ o, u.cell? ⟨w.heap.size, o, none⟩ = objZero[o]?) ∧ (∀ o, u.frozen? ⟨w.heap.size, o, none⟩ = false) ∧ w.heap.size < u.heap.size ∧ B < u.heap.size ∧ SomeObj w1.heap.size u (.agg #[.slice a n b, .slice c m d]) ∧ From w.heap.size w u ∧ From w4.heap.size w4 u := by
      intro u hu
      have B5 := HB4.out.call hu.below
      have T5 := HT4.out.call hu.below
      exact ⟨B5.cell, T5.cell, T5.frozen, T5.lt, B5.lt, HO4.out.call hu.below, HF4.out.call hu.below, hu⟩
    have L1 := s_NamesGiven w4.drew _ o (HOo.out.below (Nat.le_refl _) (From.drew (From.start w4)).below) HN.out
    clear cB zB
    obtain ⟨cB5, cT5, fT5, zT5, zB5, hO5, hF5, hU5⟩ := K5 _ (From.drew (From.start w4))
    go_region_with (first
      | (go_at_call 113; refine L1.mono ?_; rintro e w5 ⟨r5, rfl, hr5, hb5⟩; have hU6 := hU5.call hb5; have hS5 := hr5.reads; clear cB5 cT5 fT5 zT5 zB5 hO5 hF5; obtain ⟨cB5, cT5, fT5, zT5, zB5, hO5, hF5, hU7⟩ := K5 _ hU6)
      | (go_at_call 42; refine (s_ReachSections _ _ _ o _ (HOo.out.below (Nat.le_refl _) hU7.below) hS5 HN.out).mono ?_; rintro e w6 ⟨r6, rfl, hr6, hb6⟩; have hU8 := hU7.call hb6; clear cB5 cT5 fT5 zT5 zB5 hO5 hF5; obtain ⟨cB5, cT5, fT5, zT5, zB5, hO5, hF5, hU9⟩ := K5 _ hU8; obtain ⟨na, nc, rfl⟩ := owns_form hr6))
    all_goals (go_wp2_with fail)
    all_goals
      have HO6 := hO5.store zT (.slice a n b) (.slice c m d)
      have HF6 := (hF5.setCell (p := ⟨w.heap.size, 0, none⟩) (Nat.le_refl _) (.slice a n b)).setCell (p := ⟨w.heap.size, 1, none⟩) (Nat.le_refl _) (.slice c m d)
      have z45 : w.heap.size < w5.heap.size := Nat.lt_of_lt_of_le zT4 hU6.le
      have HL6 := ownsRow_setCell_below (ownsRow_setCell_below hr6 (a := ⟨w.heap.size, 0, none⟩) z45 (.slice a n b)) (a := ⟨w.heap.size, 1, none⟩) z45 (.slice c m d)
      obtain ⟨o, r1, r2, r3, r4⟩ := HO6.read
      refine bodyPost_ret (v := .tuple #[.agg #[.slice a n b, .slice c m d], .slice na _ nc]) (by simp [results, Try.results51, go_sem, cT5, zT5, Act.put]; try rfl) rfl ⟨_, rfl, ⟨_, _, o, _, rfl, r1, r2, r3, reads_of_owns HL6, few_read r4⟩, HF6⟩
  · obtain rfl : x = 1 := by omega
    clear hx0 hx1 hx
    go_wp2_with fail
    refine (pick_over w4 w4 g (q + 1) (Drawn.start HR4.out) (by omega) _ _ 4 (by omega) (by omega)).mono ?_
    rintro e w5 ⟨y, rfl, hy0, hy1, hD, hB⟩
    obtain ⟨k0, rfl⟩ := Int.eq_ofNat_of_zero_le hy0
    have hO : OwnI w5 w4.heap.size (.slice (some ⟨w4.heap.size, 0, none⟩) 0 0) [] := ⟨rfl, .inr ⟨w4.heap.size, 0, #[], rfl, Nat.le_refl _, hB, Nat.le_refl _, Nat.zero_le _, rfl, rfl⟩⟩
    have HO0 := Lib.hid hO
    have HD0 := Lib.hid hD
    clear hO hD hB
    go_wp2_with fail
    go_loopw [6, 7] (fun out i wr => ∃ (l : List Int) (k q' : Nat), i = .int .i64 k ∧ l.length + k ≤ 3 ∧ Hid (OwnI wr w4.heap.size out l) ∧ q' ≤ q + 2 + 2 * l.length ∧ Hid (Drawn g q' w4 wr)) (fun _ i _ => (intOf i).toNat)
    case atStart => exact ⟨[], k0, q + 1 + 1, rfl, by simp; omega, HO0, by simp, HD0⟩
    case round =>
      clear HO0 HD0
      obtain ⟨l, k, q', rfl, hlk, HO, hq', HD⟩ := hrel
      by_cases hlt : 0 < k
      · have z0 := HD.out.lt
        go_wp2_with fail
        refine (pick_in wr wr g q' (Drawn.start HD.out.rd) (by omega) 5 (by omega) (by omega)).mono ?_
        rintro e w6 ⟨y, rfl, hy0, hy1, hD2⟩
        have hO3 : OwnI w6 w4.heap.size _ l := owns_drawn HO.out hD2.grow zg4
        have HO3 := Lib.hid hO3
        have HD3 := Lib.hid (HD.out.next hD2)
        have hwy : IntKind.i64.wrap (y - 1) = y - 1 := IntWalk.i64_in _ (by omega)
        clear hO3 hD2 HO HD
        go_wp2_with (at_builtin; refine wpList_append_src rfl _ _ 52 52 rfl w4.heap.size 3 i0 (.int .i64 0) 1 8 Try.underlying52 hi hz0 hz1 hz2 rfl (by decide) _ _ _ rfl (HO3.out.alloc _) _ 1 [_] rfl (src_new Try.underlying52 _ [_] 1 1 1 _ rfl ?c0) ?c1 ?c2 ?c3 ?_)
        case c0 => first | rfl | (intro u hu; obtain rfl := List.mem_singleton.1 hu; rfl)
        case c1 => unfold maxLen; omega
        case c2 => omega
        case c3 => have := HD3.out.grow.size; simp; omega
        intro v' w7 hown hgr
        have HO4' := Lib.hid (owns_snocI hown)
        have HD4 := Lib.hid ((HD3.out.alloc _).ownGrown hgr (HO3.out.alloc _) zg4)
        clear hown hgr HO3 HD3
        go_wp2_with fail
        go_roundw
        case rel => exact ⟨l ++ [y - 1], k - 1, q' + 1, by go_num, by simp; omega, HO4', by simp; omega, HD4⟩
        case measure => simp [intOf]; try omega
      · obtain rfl : k = 0 := by omega
        have hB5 := HB4.out.drawn HD.out g5
        have hT5 := HT4.out.drawn HD.out gT
        have cB5 := hB5.cell
        have cT5 := hT5.cell
        have fT5 := hT5.frozen
        have zB5 := hB5.lt
        have zT5 := hT5.lt
        have hr6 := HO.out
        obtain ⟨na, nc, rfl⟩ := owns_form hr6
        have HO6 := (HO4.out.drawn HD.out.grow zg).store zT (.slice a n b) (.slice c m d)
        have HF6 := ((HF4.out.drawn HD.out gle).setCell (p := ⟨w.heap.size, 0, none⟩) (Nat.le_refl _) (.slice a n b)).setCell (p := ⟨w.heap.size, 1, none⟩) (Nat.le_refl _) (.slice c m d)
        have HL6 := ownsRow_setCell_below (ownsRow_setCell_below hr6 (a := ⟨w.heap.size, 0, none⟩) zT4 (.slice a n b)) (a := ⟨w.heap.size, 1, none⟩) zT4 (.slice c m d)
        obtain ⟨o, r1, r2, r3, r4⟩ := HO6.read
        have HX1 := Lib.hid r1
        have HX2 := Lib.hid r2
        have HX3 := Lib.hid r3
        have HX4 := Lib.hid (few_read r4)
        have HX6 := Lib.hid HL6
        have HXF := Lib.hid HF6
        clear hB5 hT5 hr6 HO6 HF6 HL6 r1 r2 r3 r4 HO HD cB zB
        go_wp2_with fail
        refine bodyPost_ret (v := .tuple #[.agg #[.slice a n b, .slice c m d], .slice na l.length nc]) (by simp [results, Try.results51, go_sem, cT5, zT5, Act.put]; try rfl) rfl ⟨_, rfl, ⟨_, _, o, l, rfl, HX1.out, HX2.out, HX3.out, reads_of_owns HX6.out, HX4.out⟩, HXF.out⟩
end Go.Proofs.Ythccjimckjecjaa
