/- What the statements on objects and names draw, owned. Slices of numbers compared by a statement. Reached sections are enough; with no program in sight. -/
import Derived.Test.YthccjimckjecjaaDrawQ
import Derived.Test.YthccjimckjecjaaInts
import Derived.Test.YthccjimckjecjaaPlainK
namespace Go.Proofs.Ythccjimckjecjaa
/-! DrawR -/
open Go.ChangeShapes Go.WideShapes Go.ChangeAt Go.RowKit Go.Joins
set_option linter.unusedSimpArgs false
set_option linter.unusedVariables false
set_option maxRecDepth 100000
theorem SomeObj.mono {base base' : Nat} {w : World} {v : Value} (h : SomeObj base w v) (hb : base' ≤ base) : SomeObj base' w v := by
  obtain ⟨o, vs, vy, ls, rfl, h1, h2, h3, h4⟩ := h
  exact ⟨o, vs, vy, ls, rfl, h1, h2.mono hb, owns_mono h3 hb, h4⟩
def OwnON (base : Nat) (w : World) (v : Value) : Prop := ∃ vo vl L, v = .tuple #[vo, vl] ∧ SomeObj base w vo ∧ OwnS w base vl L ∧ L.length ≤ 7 ∧ ∀ s ∈ L, s.size ≤ 9
set_option maxHeartbeats 2000000 in
theorem s_DrawHideNames_own (w : World) (v : Value) (l : List UInt8) (h : BytesAt w v l) :
    Calls Try.prog 22 #[v] w (DrawB (OwnON w.heap.size) w) := by
  have H := Lib.hid h
  clear h
  go_enter Try.func22, Try.ntmps22
  go_wp2_with fail
  refine (l20Open_any _ _ l (H.out.below (Nat.le_refl _) ((From.start w).alloc _).below)).mono ?_
  rintro e w1 ⟨g, rfl, hg, hR, hb⟩
  have HF := Lib.hid (((From.start w).alloc _).call hb)
  have HT := Lib.hid ((Blk.new w objZero 26).call hb)
  have HR := Lib.hid hR
  have zT : w.heap.size < w1.heap.size := HT.out.lt
  have zg : g < w1.heap.size := hR.lt
  have gT : g ≠ w.heap.size := by simp at hg; omega
  have gle : w.heap.size ≤ g := by simp at hg; omega
  clear hb hR hg
  go_wp2_with fail
  refine (l20Object_any w1 g 0 HR.out (by decide) 9 (by decide) (by decide)).mono ?_
  rintro e w2 ⟨_, q, rfl, hO, hq, hD⟩
  have HF2 := Lib.hid (HF.out.drawn hD gle)
  have HT2 := Lib.hid (HT.out.drawn hD gT)
  obtain ⟨a, n, b, c, m, d, rfl⟩ := hO.form
  have HO := Lib.hid (hO.alloc (.cells #[.slice a n b, .slice c m d] 26))
  have HF3 := Lib.hid (HF2.out.alloc (.cells #[.slice a n b, .slice c m d] 26))
  have HT3 := Lib.hid (HT2.out.alloc (.cells #[.slice a n b, .slice c m d] 26))
  have HB3 := Lib.hid (Blk.new w2 #[.slice a n b, .slice c m d] 26)
  have HD3 := Lib.hid (hD.alloc (.cells #[.slice a n b, .slice c m d] 26))
  have g5 : g ≠ w2.heap.size := by have := hD.lt; omega
  clear hD hO HF HT HR HF2 HT2
  go_wp2_with fail
  generalize hw3 : w2.alloc (.cells #[.slice a n b, .slice c m d] 26) = w3 at HO HF3 HT3 HB3 HD3 ⊢
  clear hw3
  generalize w2.heap.size = B at *
  have cB := HB3.out.cell
  have zB := HB3.out.lt
  have zT3 : w.heap.size < w3.heap.size := HT3.out.lt
  have q7 : q ≤ 1073000000 := by omega
  have L1 := l20Names_any w3.drew g q HD3.out.rd q7 9 (by decide) (by decide)
  have K5 : ∀ (u : World) (q5 : Nat), Drawn g q5 w3.drew u → (∀ o, u.cell? ⟨B, o, none⟩ = #[Value.slice a n b, Value.slice c m d][o]?) ∧ (∀ o, u.cell? ⟨w.heap.size, o, none⟩ = objZero[o]?) ∧ (∀ o, u.frozen? ⟨w.heap.size, o, none⟩ = false) ∧ w.heap.size < u.heap.size ∧ B < u.heap.size ∧ SomeObj w1.heap.size u (.agg #[.slice a n b, .slice c m d]) ∧ From w.heap.size w u := by
    intro u q5 hD
    have B5 := (Blk.drew HB3.out).drawn hD g5
    have T5 := (Blk.drew HT3.out).drawn hD gT
    have O0 : SomeObj w1.heap.size w3.drew (.agg #[.slice a n b, .slice c m d]) := HO.out.drew
    exact ⟨B5.cell, T5.cell, T5.frozen, T5.lt, B5.lt, O0.drawn hD.grow zg, (HF3.out.drew).drawn hD gle⟩
  go_region_with (first | (go_at_call 72; refine L1.mono ?_; rintro e w5 ⟨_, q5, rfl, ⟨L, hL, hL1, hL2⟩, hq5, hD5⟩; obtain ⟨na, nc, rfl⟩ := owns_form hL; obtain ⟨cB5, cT5, fT5, zT5, zB5, hO5, hF5⟩ := K5 w5 q5 hD5; clear hD5))
  all_goals (go_wp2_with fail)
  all_goals
    have HO6 := hO5.store zT (.slice a n b) (.slice c m d)
    have HF6 := (hF5.setCell (p := ⟨w.heap.size, 0, none⟩) (Nat.le_refl _) (.slice a n b)).setCell (p := ⟨w.heap.size, 1, none⟩) (Nat.le_refl _) (.slice c m d)
    have HL6 := ownsRow_setCell_below (ownsRow_setCell_below hL (a := ⟨w.heap.size, 0, none⟩) zT3 (.slice a n b)) (a := ⟨w.heap.size, 1, none⟩) zT3 (.slice c m d)
    have HLm : OwnS _ w.heap.size _ L := owns_mono HL6 (by first | omega | exact Nat.le_of_lt zT3 | (simp; omega))
    refine bodyPost_ret (v := .tuple #[.agg #[.slice a n b, .slice c m d], .slice na L.length nc]) (by simp [results, Try.results22, go_sem, cT5, zT5, Act.put]) rfl ⟨_, rfl, ⟨_, _, L, rfl, HO6.mono (Nat.le_of_lt zT), HLm, hL1, hL2⟩, HF6⟩
set_option maxHeartbeats 1000000 in
theorem s_DrawReachSections_any (w : World) (v : Value) (l : List UInt8) (h : BytesAt w v l) :
    Calls Try.prog 39 #[v] w (DrawB ReadON w) := by
  have H := Lib.hid h
  clear h
  go_enter Try.func39, Try.ntmps39
  go_wp2_with fail
  refine (s_DrawHideNames_own _ _ l (H.out.below (Nat.le_refl _) ((From.start w).alloc _).below)).mono ?_
  rintro e w1 ⟨_, rfl, ⟨vo, vl, L, rfl, hO, hL, hL1, hL2⟩, hF⟩
  have HF := Lib.hid (((From.start w).alloc _).call hF.below)
  have HT := Lib.hid ((Blk.new w objZero 26).call hF.below)
  obtain ⟨a, n, b, c, m, d, rfl⟩ := hO.form
  obtain ⟨na, nc, rfl⟩ := owns_form hL
  have zT : w.heap.size < (w.alloc (.cells objZero 26)).heap.size := by simp
  have HO6 := Lib.hid (hO.store zT (.slice a n b) (.slice c m d))
  have HL6 := Lib.hid (ownsRow_setCell_below (ownsRow_setCell_below hL (a := ⟨w.heap.size, 0, none⟩) zT (.slice a n b)) (a := ⟨w.heap.size, 1, none⟩) zT (.slice c m d))
  have HF6 := Lib.hid ((HF.out.setCell (p := ⟨w.heap.size, 0, none⟩) (Nat.le_refl _) (.slice a n b)).setCell (p := ⟨w.heap.size, 1, none⟩) (Nat.le_refl _) (.slice c m d))
  have cT := HT.out.cell
  have fT := HT.out.frozen
  have zT2 := HT.out.lt
  clear hF hO hL zT
  go_wp2_with fail
  obtain ⟨o, r1, r2, r3, -⟩ := HO6.out.read
  refine bodyPost_ret (v := .tuple #[.agg #[.slice a n b, .slice c m d], .slice na L.length nc]) (by simp [results, Try.results39, go_sem, cT, zT2, Act.put]) rfl ⟨_, rfl, ⟨_, _, o, L, rfl, r1, r2, r3, reads_of_owns HL6.out, hL1, hL2⟩, HF6.out⟩
/-! IntsY -/
open Go.ChangeShapes Go.WideShapes Go.ChangeAt Go.RowKit Go.Joins
set_option linter.unusedSimpArgs false
set_option linter.unusedVariables false
set_option maxRecDepth 100000
set_option maxHeartbeats 1000000 in
theorem sameInts_same (w : World) (v1 v2 : Value) (l : List Int) (h1 : IntsAt w v1 l) (h2 : IntsAt w v2 l) :
    Calls Try.prog 41 #[v1, v2] w fun e w' => e = .returned (.bool true) ∧ Below w.heap.size w w' := by
  obtain ⟨a1, cap1, rfl, hcap1, hmax1, hnone1, hcell1⟩ := h1.form
  obtain ⟨a2, cap2, rfl, hcap2, hmax2, hnone2, hcell2⟩ := h2.form
  have H1 := Lib.hid hcell1
  have H2 := Lib.hid hcell2
  clear h1 h2 hcell1 hcell2 hnone1 hnone2
  unfold maxLen at hmax1 hmax2
  go_enter Try.func41, Try.ntmps41
  go_wp2_with fail
  go_loopw [5] (fun i wr => ∃ k : Nat, k ≤ l.length ∧ i = .int .i64 k ∧ ∃ d, wr = w.drewN d) (fun i _ => l.length - (intOf i).toNat)
  case atStart => exact ⟨0, Nat.zero_le _, rfl, 0, rfl⟩
  case round =>
    obtain ⟨k, hk, rfl, d, rfl⟩ := hrel
    by_cases hlt : k < l.length
    · obtain ⟨b1, off1, rfl, hc1⟩ := H1.out (by omega)
      obtain ⟨b2, off2, rfl, hc2⟩ := H2.out (by omega)
      have g1 := hc1 k hlt
      have g2 := hc2 k hlt
      have i1 : (k : Int) < (l.length : Int) := by omega
      have i3 : (0 : Int) ≤ (k : Int) := by omega
      clear hc1 hc2
      generalize l[k] = x at *
      have e1 : (x != x) = false := by simp
      go_wp2_with fail
      try go_quiet (fail)
      try go_wp2_with fail
      go_roundw
      case rel => exact ⟨k + 1, by omega, by go_num, _, rfl⟩
      case measure => simp [intOf]; try omega
    · obtain rfl : k = l.length := by omega
      go_wp2_with fail
      go_ret
      exact ⟨rfl, ((From.start w).drewN _).below⟩
/-! PlainV -/
open Go.ChangeShapes Go.WideShapes Go.ChangeAt Go.RowKit Go.Joins
set_option linter.unusedSimpArgs false
set_option linter.unusedVariables false
/-- Marks that are all among others. -/
def leB (s t : List Bool) : Prop := s.length = t.length ∧ ∀ i, s.getD i false = true → t.getD i false = true
theorem leB_refl (s : List Bool) : leB s s := ⟨rfl, fun _ h => h⟩
theorem leB_trans {a b c : List Bool} (h : leB a b) (k : leB b c) : leB a c := ⟨h.1.trans k.1, fun i hi => k.2 i (h.2 i hi)⟩
theorem getD_set (s : List Bool) (j i : Nat) : (s.set j true).getD i false = true ↔ s.getD i false = true ∨ (i = j ∧ j < s.length) := by
  rw [List.getD_eq_getElem?_getD, List.getD_eq_getElem?_getD, List.getElem?_set]
  by_cases h : j = i
  · subst h
    by_cases hl : j < s.length
    · simp [hl]
    · simp [hl]
  · rw [if_neg h]
    constructor
    · intro hh; exact .inl hh
    · rintro (hh | ⟨rfl, _⟩)
      · exact hh
      · exact absurd rfl h
theorem leB_set (s : List Bool) (j : Nat) : leB s (s.set j true) := ⟨by simp, fun i h => (getD_set s j i).2 (.inl h)⟩
theorem leB_sets {s t : List Bool} (h : leB s t) (j : Nat) : leB (s.set j true) (t.set j true) :=
  ⟨by simp [h.1], fun i hi => (getD_set t j i).2 (by
    rcases (getD_set s j i).1 hi with hh | ⟨h1, h2⟩
    · exact .inl (h.2 i hh)
    · exact .inr ⟨h1, by rw [← h.1]; exact h2⟩)⟩
theorem fixSet_le (syms : List SymD) (k : Nat) (s : List Bool) (f : FixD) : leB s (fixSet syms k s f) := by
  unfold fixSet; split
  · exact leB_set _ _
  · exact leB_refl _
theorem fixSet_mono (syms : List SymD) (k : Nat) {s t : List Bool} (h : leB s t) (f : FixD) : leB (fixSet syms k s f) (fixSet syms k t f) := by
  unfold fixSet
  by_cases h1 : s.getD k false = true ∧ 0 ≤ whrAt syms f.2.2.1
  · rw [if_pos h1, if_pos ⟨h.2 k h1.1, h1.2⟩]; exact leB_sets h _
  · rw [if_neg h1]
    split
    · exact leB_trans h (leB_set _ _)
    · exact h
theorem foldFix_le (syms : List SymD) (k : Nat) : ∀ (l : List FixD) (s : List Bool), leB s (l.foldl (fixSet syms k) s)
  | [], s => leB_refl s
  | f :: r, s => leB_trans (fixSet_le syms k s f) (foldFix_le syms k r _)
theorem foldFix_mono (syms : List SymD) (k : Nat) : ∀ (l : List FixD) {s t : List Bool}, leB s t → leB (l.foldl (fixSet syms k) s) (l.foldl (fixSet syms k) t)
  | [], _, _, h => h
  | f :: r, _, _, h => foldFix_mono syms k r (fixSet_mono syms k h f)
theorem sweepK_le (syms : List SymD) (secs : List SecD) (s : List Bool) : ∀ k, leB s (sweepK syms secs s k)
  | 0 => leB_refl s
  | k + 1 => by
    have ih := sweepK_le syms secs s k
    unfold sweepK
    split
    · exact leB_trans ih (foldFix_le _ _ _ _)
    · exact ih
theorem sweepK_up (syms : List SymD) (secs : List SecD) (s : List Bool) (k : Nat) : ∀ m, leB (sweepK syms secs s k) (sweepK syms secs s (k + m))
  | 0 => leB_refl _
  | m + 1 => by
    refine leB_trans (sweepK_up syms secs s k m) ?_
    show leB _ (sweepK syms secs s ((k + m) + 1))
    conv => rhs; unfold sweepK
    split
    · exact foldFix_le _ _ _ _
    · exact leB_refl _
theorem sweepK_mono (syms : List SymD) (secs : List SecD) {s t : List Bool} (h : leB s t) : ∀ k, leB (sweepK syms secs s k) (sweepK syms secs t k)
  | 0 => h
  | k + 1 => by
    have ih := sweepK_mono syms secs h k
    unfold sweepK
    split
    · exact foldFix_mono _ _ _ ih
    · exact ih
theorem sweeps_mono (syms : List SymD) (secs : List SecD) {s t : List Bool} (h : leB s t) : ∀ k, leB (sweeps syms secs s k) (sweeps syms secs t k)
  | 0 => h
  | k + 1 => sweepK_mono syms secs (sweeps_mono syms secs h k) _
theorem leB_eq {s t : List Bool} (h : leB s t) (k : leB t s) : s = t := by
  refine List.ext_getElem h.1 fun i h1 h2 => ?_
  have a := h.2 i
  have b := k.2 i
  rw [List.getD_eq_getElem?_getD, List.getD_eq_getElem?_getD, List.getElem?_eq_getElem h1, List.getElem?_eq_getElem h2] at a b
  simp only [Option.getD_some] at a b
  cases hs : s[i] <;> cases ht : t[i] <;> simp_all
theorem count_le {s t : List Bool} : leB s t → s.count true ≤ t.count true ∧ (s.count true = t.count true → s = t) := by
  induction s generalizing t with
  | nil => intro h; cases t with
    | nil => exact ⟨Nat.le_refl _, fun _ => rfl⟩
    | cons b r => have := h.1; simp at this
  | cons a r ih =>
    intro h
    cases t with
    | nil => have := h.1; simp at this
    | cons b q =>
      have h0 := h.2 0
      have hr : leB r q := ⟨by simpa using h.1, fun i hi => by have := h.2 (i + 1); simpa using this (by simpa using hi)⟩
      obtain ⟨i1, i2⟩ := ih hr
      cases a <;> cases b
      · simp; exact ⟨i1, i2⟩
      · simp; omega
      · simp at h0
      · simp; exact ⟨i1, i2⟩
/-- Each sweep reaches one section more, or is the last one. -/
theorem sweeps_more (syms : List SymD) (secs : List SecD) (s : List Bool) : ∀ m, sweeps syms secs s (m + 1) = sweeps syms secs s m ∨ m + 1 ≤ (sweeps syms secs s (m + 1)).count true
  | 0 => by
    have h := count_le (sweepK_le syms secs s secs.length)
    by_cases he : sweepK syms secs s secs.length = s
    · exact .inl he
    · right
      show 0 + 1 ≤ (sweepK syms secs s secs.length).count true
      have : s.count true ≠ (sweepK syms secs s secs.length).count true := fun e => he (h.2 e).symm
      omega
  | m + 1 => by
    rcases sweeps_more syms secs s m with h | h
    · left
      show sweepK syms secs (sweeps syms secs s (m + 1)) secs.length = sweepK syms secs (sweeps syms secs s m) secs.length
      rw [h]
    · have hc := count_le (sweepK_le syms secs (sweeps syms secs s (m + 1)) secs.length)
      by_cases he : sweepK syms secs (sweeps syms secs s (m + 1)) secs.length = sweeps syms secs s (m + 1)
      · exact .inl he
      · right
        show m + 1 + 1 ≤ (sweepK syms secs (sweeps syms secs s (m + 1)) secs.length).count true
        have : (sweeps syms secs s (m + 1)).count true ≠ (sweepK syms secs (sweeps syms secs s (m + 1)) secs.length).count true := fun e => he (hc.2 e).symm
        omega
theorem reached_fix (o : ObjD) (L : List ByteArray) : sweepK o.syms o.secs (reachedL o L) o.secs.length = reachedL o L := by
  rcases sweeps_more o.syms o.secs (startK L o o.syms.length) o.secs.length with h | h
  · exact h
  · have h1 : (sweeps o.syms o.secs (startK L o o.syms.length) (o.secs.length + 1)).count true ≤ (sweeps o.syms o.secs (startK L o o.syms.length) (o.secs.length + 1)).length := List.count_le_length
    rw [sweeps_length, startK_length] at h1
    omega
theorem fixFold_closed (syms : List SymD) (k : Nat) (R : List Bool) : ∀ (l : List FixD), l.foldl (fixSet syms k) R = R → R.getD k false = true → ∀ f ∈ l, 0 ≤ whrAt syms f.2.2.1 → (whrAt syms f.2.2.1).toNat < R.length → R.getD (whrAt syms f.2.2.1).toNat false = true
  | [], _, _, f, hf, _, _ => by cases hf
  | g :: r, h, hk, f, hf, h0, hl => by
    have h1 : leB R (fixSet syms k R g) := fixSet_le syms k R g
    have h2 : leB (fixSet syms k R g) R := by
      have := foldFix_le syms k r (fixSet syms k R g)
      rw [List.foldl_cons] at h
      rw [h] at this
      exact this
    have h3 := leB_eq h1 h2
    rcases List.mem_cons.1 hf with rfl | hf
    · have : fixSet syms k R f = R.set (whrAt syms f.2.2.1).toNat true := by unfold fixSet; rw [if_pos ⟨hk, h0⟩]
      rw [h3, this]
      exact (getD_set _ _ _).2 (.inr ⟨rfl, hl⟩)
    · rw [List.foldl_cons, ← h3] at h
      exact fixFold_closed syms k R r h hk f hf h0 hl
/-- What a reached section uses is reached. -/
theorem reached_closed (o : ObjD) (L : List ByteArray) {k : Nat} (hk : k < o.secs.length) (h : (reachedL o L).getD k false = true) : ∀ f ∈ o.secs[k].fix, 0 ≤ whrAt o.syms f.2.2.1 → (whrAt o.syms f.2.2.1).toNat < o.secs.length → (reachedL o L).getD (whrAt o.syms f.2.2.1).toNat false = true := by
  obtain ⟨R, hR⟩ : ∃ R, reachedL o L = R := ⟨_, rfl⟩
  have hl : R.length = o.secs.length := by rw [← hR, reachedL_length]
  have hfix := reached_fix o L
  rw [hR] at hfix h ⊢
  have h1 : leB R (sweepK o.syms o.secs R k) := sweepK_le _ _ _ _
  have h2 : leB (sweepK o.syms o.secs R k) (sweepK o.syms o.secs R (k + 1)) := sweepK_up _ _ _ _ 1
  have h3 : leB (sweepK o.syms o.secs R (k + 1)) R := by
    have := sweepK_up o.syms o.secs R (k + 1) (o.secs.length - (k + 1))
    rw [show k + 1 + (o.secs.length - (k + 1)) = o.secs.length by omega, hfix] at this
    exact this
  have e1 : sweepK o.syms o.secs R k = R := leB_eq (leB_trans h2 h3) h1
  have e2 : sweepK o.syms o.secs R (k + 1) = R := leB_eq h3 (leB_trans h1 h2)
  rw [sweepK_step _ _ _ _ hk, e1] at e2
  intro f hf h0 hlt
  exact fixFold_closed o.syms k R _ e2 h f hf h0 (by rw [hl]; exact hlt)
theorem inI_idxK (R : List Bool) (n : Nat) (k : Nat) (hk : k < n) : inI (idxK R n) k = R.getD k false := by
  rw [Bool.eq_iff_iff, inI_mem]
  unfold idxK
  simp only [List.mem_map, List.mem_filter, List.mem_range]
  constructor
  · rintro ⟨i, ⟨_, h⟩, e⟩
    obtain rfl : i = k := by omega
    exact h
  · intro h; exact ⟨k, ⟨hk, h⟩, rfl⟩
theorem reach_good {o : ObjD} (L : List ByteArray) (ho : objB o = true) : keepSB o (reachI o L) = true := by
  have e : reachI o L = idxK (reachedL o L) o.secs.length := by unfold reachI; rw [if_pos ho]
  unfold keepSB goodB
  rw [ho, Bool.true_and, e, List.all_eq_true]
  intro s hs
  obtain ⟨k, h1, h2⟩ := keepL_mem hs
  obtain ⟨hk, rfl⟩ := List.getElem?_eq_some_iff.1 h1
  rw [secK_get? _ _ _ hk, inI_idxK _ _ _ hk] at h2
  have hr : (reachedL o L).getD k false = true := by simpa using h2
  unfold secGood
  rw [List.all_eq_true]
  intro f hf
  have hx := (objB_sec ho (List.getElem_mem hk)).fix f hf
  have hlt : f.2.2.1.toNat < o.syms.length := by have := hx.to; omega
  unfold fixGood symK
  rw [List.getD_eq_getElem?_getD, List.getElem?_map, List.getElem?_eq_getElem hlt]
  simp only [Option.map_some, Option.getD_some]
  unfold keptS
  by_cases hw : o.syms[f.2.2.1.toNat].whr < 0
  · simp [hw]
  · have hwl := (objB_sym ho (List.getElem_mem hlt)).whr
    have hwa : whrAt o.syms f.2.2.1 = o.syms[f.2.2.1.toNat].whr := whrAt_of hx.to.1 hlt
    have := reached_closed o L hk hr f hf (by rw [hwa]; omega) (by rw [hwa]; omega)
    rw [hwa] at this
    have hi := inI_idxK (reachedL o L) o.secs.length o.syms[f.2.2.1.toNat].whr.toNat (by omega)
    rw [this, Int.toNat_of_nonneg (by omega)] at hi
    rw [hi]; simp
theorem inB_append (a b : List ByteArray) (s : ByteArray) : inB a s = true → inB (a ++ b) s = true := by
  unfold inB; rw [List.any_append]; intro h; rw [h]; rfl
theorem reachSet_mono (a b : List ByteArray) {s t : List Bool} (h : leB s t) (x : SymD) : leB (reachSet a s x) (reachSet (a ++ b) t x) := by
  unfold reachSet
  by_cases h1 : x.bind ≠ 0 ∧ 0 ≤ x.whr ∧ inB a x.name = true
  · rw [if_pos h1, if_pos ⟨h1.1, h1.2.1, inB_append _ _ _ h1.2.2⟩]; exact leB_sets h _
  · rw [if_neg h1]
    split
    · exact leB_trans h (leB_set _ _)
    · exact h
theorem foldReach_mono (a b : List ByteArray) : ∀ (l : List SymD) {s t : List Bool}, leB s t → leB (l.foldl (reachSet a) s) (l.foldl (reachSet (a ++ b)) t)
  | [], _, _, h => h
  | x :: r, _, _, h => foldReach_mono a b r (reachSet_mono a b h x)
theorem reachedL_mono (o : ObjD) (a b : List ByteArray) : leB (reachedL o a) (reachedL o (a ++ b)) :=
  sweeps_mono _ _ (foldReach_mono a b _ (leB_refl _)) _
/-- How many of the first ones of a list of numbers are in another one. -/
def hitN (x all : List Int) (k : Nat) : Nat := ((all.take k).filter fun n => inI x n).length
theorem reach_sub {o : ObjD} (a b : List ByteArray) : reachI o a = (reachI o (a ++ b)).filter fun n => inI (reachI o a) n := by
  by_cases ho : objB o = true
  · have ea : reachI o a = idxK (reachedL o a) o.secs.length := by unfold reachI; rw [if_pos ho]
    have eb : reachI o (a ++ b) = idxK (reachedL o (a ++ b)) o.secs.length := by unfold reachI; rw [if_pos ho]
    have hm := reachedL_mono o a b
    rw [ea, eb]
    generalize o.secs.length = n at *
    unfold idxK
    rw [List.filter_map, List.filter_filter]
    congr 1
    refine List.filter_congr fun i hi => ?_
    rw [List.mem_range] at hi
    have h1 := inI_idxK (reachedL o a) n i hi
    unfold idxK at h1
    show _ = (inI _ ((i : Nat) : Int) && _)
    rw [h1]
    cases h2 : (reachedL o a).getD i false with
    | false => simp
    | true => rw [hm.2 i h2]; rfl
  · have ea : reachI o a = [] := by unfold reachI; rw [if_neg ho]
    have eb : reachI o (a ++ b) = [] := by unfold reachI; rw [if_neg ho]
    rw [ea, eb]; rfl
theorem hitN_zero (x all : List Int) : hitN x all 0 = 0 := by simp [hitN]
theorem hitN_step (x all : List Int) (k : Nat) (hk : k < all.length) : hitN x all (k + 1) = hitN x all k + (if inI x all[k] = true then 1 else 0) := by
  unfold hitN
  rw [List.take_succ_eq_append_getElem hk, List.filter_append, List.length_append]
  cases h : inI x all[k] <;> simp [h]
/-- The next one of the smaller list: found where the greater list has it. -/
theorem hitN_next (x all : List Int) (h : x = all.filter fun n => inI x n) (k : Nat) (hk : k < all.length) (hn : hitN x all k < x.length) : (all[k] = x[hitN x all k] ↔ inI x all[k] = true) := by
  have hsplit : x = ((all.take k).filter fun n => inI x n) ++ ((all.drop k).filter fun n => inI x n) := by
    rw [← List.filter_append, List.take_append_drop]; exact h
  have hget : x[hitN x all k]? = ((all.drop k).filter fun n => inI x n)[0]? := by
    conv => lhs; rw [hsplit]
    rw [List.getElem?_append_right (by simp [hitN, ← hsplit])]
    simp [hitN, ← hsplit]
  constructor
  · intro e
    rw [e, inI_mem]
    exact List.getElem_mem hn
  · intro e
    rw [List.drop_eq_getElem_cons hk, List.filter_cons_of_pos (by simpa using e)] at hget
    rw [List.getElem?_eq_getElem hn] at hget
    simpa using hget.symm
theorem hitN_full (x all : List Int) (h : x = all.filter fun n => inI x n) : hitN x all all.length = x.length := by
  unfold hitN; rw [List.take_length, ← h]
theorem hitN_le (x all : List Int) (h : x = all.filter fun n => inI x n) (k : Nat) : hitN x all k ≤ x.length := by
  rw [← hitN_full x all h]
  unfold hitN
  rw [List.take_length]
  exact ((List.take_sublist k all).filter _).length_le
theorem hitN_done (x all : List Int) (h : x = all.filter fun n => inI x n) (k : Nat) (hk : k ≤ all.length) (hd : ¬ (hitN x all k < x.length ∧ k < all.length)) : hitN x all k = x.length := by
  have h1 := hitN_le x all h k
  by_cases h2 : k < all.length
  · omega
  · obtain rfl : k = all.length := by omega
    exact hitN_full x all h
end Go.Proofs.Ythccjimckjecjaa
