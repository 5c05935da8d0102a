/- Sections: copied, compared, measured. -/
import Derived.Test.YthccjimckjecjaaFix
import Derived.Deep.RegionHeld3
namespace Go.Proofs.Ythccjimckjecjaa
open Go.ChangeShapes Go.WideShapes Go.ChangeAt Go.RowKit Go.Joins
set_option linter.unusedSimpArgs false
set_option linter.unusedVariables false
set_option maxRecDepth 100000

/-- A section. -/
structure SecD where
  name : ByteArray
  kind : Int
  align : Int
  bytes : List UInt8
  size : Int
  fix : List FixD
@[reducible] def secV (s : SecD) (vb vf : Value) : Value := .agg #[.string s.name, .int .i64 s.kind, .int .i64 s.align, vb, .int .i64 s.size, vf]
/-- A value that reads as a section. -/
def SecAt (w : World) (v : Value) (s : SecD) : Prop := ∃ vb vf, v = secV s vb vf ∧ BytesAt w vb s.bytes ∧ FixAt w vf s.fix
theorem SecAt.below {w w' : World} {v : Value} {s : SecD} {B : Nat} (h : SecAt w v s) (hB : w.heap.size ≤ B) (hb : Below B w w') : SecAt w' v s := by
  obtain ⟨vb, vf, rfl, h1, h2⟩ := h
  exact ⟨vb, vf, rfl, h1.below hB hb, h2.below hB hb⟩
/-- A section whose bytes and fixups the call owns. -/
def OwnSec (w : World) (base : Nat) (v : Value) (s : SecD) : Prop := ∃ vb vf, v = secV s vb vf ∧ OwnB w base vb s.bytes ∧ OwnF w base vf s.fix
theorem OwnSec.reads {w : World} {base : Nat} {v : Value} {s : SecD} (h : OwnSec w base v s) : SecAt w v s := by
  obtain ⟨vb, vf, rfl, h1, h2⟩ := h
  exact ⟨vb, vf, rfl, h1.reads, h2.reads⟩

/-- The size of a section. -/
def sectionSize (s : SecD) : Int := if s.kind = 3 then s.size else (s.bytes.length : Int)

set_option maxHeartbeats 1000000 in
theorem i_SectionSize (w : World) (v : Value) (s : SecD) (h : SecAt w v s) :
    Calls Try.prog 64 #[v] w fun e w' => e = .returned (.int .i64 (sectionSize s)) ∧ Below w.heap.size w w' := by
  obtain ⟨vb, vf, rfl, hb, hf⟩ := h
  obtain ⟨a, cap, rfl, hcap, hmax, hnone, hcell⟩ := hb.form
  clear hb hf hnone hcell
  by_cases hk : s.kind = 3
  · have e1 : (s.kind == 3) = true := by simpa using hk
    have E : Hid (sectionSize s = s.size) := by show _ = _; unfold sectionSize; rw [if_pos hk]
    clear hk
    go_enter Try.func64, Try.ntmps64
    go_wp2
    go_ret
    exact ⟨by rw [E.out]; rfl, ((From.start w).alloc _).below⟩
  · have e1 : (s.kind == 3) = false := by simpa using hk
    have E : Hid (sectionSize s = (s.bytes.length : Int)) := by show _ = _; unfold sectionSize; rw [if_neg hk]
    clear hk
    go_enter Try.func64, Try.ntmps64
    go_wp2
    go_ret
    exact ⟨by rw [E.out]; rfl, ((From.start w).alloc _).below⟩
set_option maxHeartbeats 1000000 in
theorem s_SectionSize (w : World) (v : Value) (s : SecD) (h : SecAt w v s) :
    Calls Try.prog 106 #[v] w fun e w' => e = .returned (.int .i64 (sectionSize s)) ∧ Below w.heap.size w w' := by
  obtain ⟨vb, vf, rfl, hb, hf⟩ := h
  obtain ⟨a, cap, rfl, hcap, hmax, hnone, hcell⟩ := hb.form
  clear hb hf hnone hcell
  by_cases hk : s.kind = 3
  · have e1 : (s.kind == 3) = true := by simpa using hk
    have E : Hid (sectionSize s = s.size) := by show _ = _; unfold sectionSize; rw [if_pos hk]
    clear hk
    go_enter Try.func106, Try.ntmps106
    go_wp2
    go_ret
    exact ⟨by rw [E.out]; rfl, ((From.start w).alloc _).below⟩
  · have e1 : (s.kind == 3) = false := by simpa using hk
    have E : Hid (sectionSize s = (s.bytes.length : Int)) := by show _ = _; unfold sectionSize; rw [if_neg hk]
    clear hk
    go_enter Try.func106, Try.ntmps106
    go_wp2
    go_ret
    exact ⟨by rw [E.out]; rfl, ((From.start w).alloc _).below⟩

/-- What a function ends in that hands back a section of its own. -/
def RetSec (w : World) (s : SecD) (e : Ending) (w' : World) : Prop := ∃ r, e = .returned r ∧ OwnSec w' w.heap.size r s ∧ Below w.heap.size w w'
/-- The same, and the fixups lie behind the bytes. -/
def RetSecO (w : World) (s : SecD) (e : Ending) (w' : World) : Prop := ∃ vb vf m, e = .returned (secV s vb vf) ∧ OwnB w' w.heap.size vb s.bytes ∧ (∀ k, vb.ownBlock = some k → k < m) ∧ OwnF w' m vf s.fix ∧ w.heap.size ≤ m ∧ Below w.heap.size w w'
set_option maxHeartbeats 1000000 in
theorem toSection_own (w : World) (v : Value) (s : SecD) (h : SecAt w v s) (h1 : s.bytes.length ≤ 1073741824) (h2 : s.fix.length ≤ 1073741824) :
    Calls Try.prog 128 #[v] w (RetSecO w s) := by
  obtain ⟨vb, vf, rfl, hb, hf⟩ := h
  have HB := Lib.hid hb
  have HX := Lib.hid hf
  clear hb hf
  go_enter Try.func128, Try.ntmps128
  go_wp2_with fail
  refine (toByteS_any _ vb s.bytes (HB.out.below (Nat.le_refl _) ((((From.start w).alloc _).alloc _).alloc _).below) h1).mono ?_
  rintro e w1 ⟨r1, rfl, o1, g1⟩
  obtain ⟨ra, rc, rfl⟩ := owns_form o1
  have HLT := Lib.hid (fun k hk => (o1.lt k hk).2 : ∀ k, (Value.slice ra s.bytes.length rc).ownBlock = some k → k < w1.heap.size)
  have F1 := ((((From.start w).alloc _).alloc _).alloc _).call g1
  have HLE := Lib.hid F1.le
  have B0 := (((Blk.newAt w _ _ w.heap.size rfl).alloc _).alloc _).call g1
  have B1 := ((Blk.newAt _ _ _ (w.heap.size + 1) (by simp)).alloc _).call g1
  have B2 := (Blk.newAt _ _ _ (w.heap.size + 1 + 1) (by simp)).call g1
  have z2 := B2.lt
  have c0 := B0.cell
  have c2 := B2.cell
  have f2 := B2.frozen
  have HO1 := Lib.hid (ownsRow_setCell_below (ownsRow_setCell_below o1 (a := ⟨w.heap.size + 1 + 1, 3, none⟩) (by simp) (.slice ra s.bytes.length rc)) (a := ⟨w.heap.size + 1 + 1, 4, none⟩) (by simp) (.int .i64 s.size))
  have HF1 := Lib.hid ((F1.setCell (p := ⟨w.heap.size + 1 + 1, 3, none⟩) (by show _ ≤ w.heap.size + 1 + 1; omega) (.slice ra s.bytes.length rc)).setCell (p := ⟨w.heap.size + 1 + 1, 4, none⟩) (by show _ ≤ w.heap.size + 1 + 1; omega) (.int .i64 s.size))
  have HB0 := Lib.hid ((B0.other (p := ⟨w.heap.size + 1 + 1, 3, none⟩) (by show w.heap.size + 1 + 1 ≠ _; omega) (.slice ra s.bytes.length rc)).other (p := ⟨w.heap.size + 1 + 1, 4, none⟩) (by show w.heap.size + 1 + 1 ≠ _; omega) (.int .i64 s.size))
  have HB1 := Lib.hid ((B1.other (p := ⟨w.heap.size + 1 + 1, 3, none⟩) (by show w.heap.size + 1 + 1 ≠ _; omega) (.slice ra s.bytes.length rc)).other (p := ⟨w.heap.size + 1 + 1, 4, none⟩) (by show w.heap.size + 1 + 1 ≠ _; omega) (.int .i64 s.size))
  have HB2 := Lib.hid ((B2.set (o := 3) (.slice ra s.bytes.length rc)).set (o := 4) (.int .i64 s.size))
  clear F1 B0 B1 B2 o1 g1 HB
  go_wp2_with fail
  have z3 := Lib.hid z2
  clear c0 c2 f2 z2
  refine (toFixupS_any _ vf s.fix (HX.out.below (Nat.le_refl _) HF1.out.below) h2).mono ?_
  rintro e w2 ⟨r2, rfl, o2, g2⟩
  obtain ⟨rb, rd, rfl⟩ := owns_form o2
  have HO1' := Lib.hid (owns_call HO1.out g2)
  have HF2 := Lib.hid (HF1.out.call g2)
  have B1 := HB1.out.call g2
  have B2 := HB2.out.call g2
  have z1 := B1.lt
  have z2 := B2.lt
  have c1 := B1.cell
  have c2 := B2.cell
  have f1 := B1.frozen
  have f2 := B2.frozen
  simp only [List.setIfInBounds_toArray, List.set_cons_succ, List.set_cons_zero] at c2
  clear HB0 HB1 HB2 HF1 HO1 B1 B2
  go_wp2_with fail
  have below7 : ∀ {b : Nat} {e : TypeId} {sz : Nat} {v : Value} {n : Nat} {xs : List Value}, w.heap.size + 1 + 1 < b → w2.ownsRow b e sz v n xs →
      ∀ v1 v2 v3 v4 v5 v6 v7 : Value, (((((((w2.setCell { block := w.heap.size + 1 + 1, off := 5 } v1).setCell { block := w.heap.size + 1, off := 0 } v2).setCell
      { block := w.heap.size + 1, off := 1 } v3).setCell { block := w.heap.size + 1, off := 2 } v4).setCell { block := w.heap.size + 1, off := 3 } v5).setCell
      { block := w.heap.size + 1, off := 4 } v6).setCell { block := w.heap.size + 1, off := 5 } v7).ownsRow b e sz v n xs := by
    intro b e sz v n xs hb h v1 v2 v3 v4 v5 v6 v7
    have q : w.heap.size + 1 < b := by omega
    exact ownsRow_setCell_below (ownsRow_setCell_below (ownsRow_setCell_below (ownsRow_setCell_below (ownsRow_setCell_below (ownsRow_setCell_below (ownsRow_setCell_below h
      hb _) q _) q _) q _) q _) q _) q _
  refine bodyPost_ret (v := secV s (.slice ra s.bytes.length rc) (.slice rb s.fix.length rd)) (by simp [results, Try.results128, go_sem, c1, z1]) rfl ⟨_, _, w1.heap.size, rfl, owns_mono (below7 (by simp) HO1'.out _ _ _ _ _ _ _) (by simp; omega), HLT.out, owns_mono (below7 (by have := z3.out; simp; omega) o2 _ _ _ _ _ _ _) (by simp), HLE.out, ?_⟩
  exact (((((((HF2.out.setCell (by show _ ≤ w.heap.size + 1 + 1; omega) _).setCell (by show _ ≤ w.heap.size + 1; omega) _).setCell (by show _ ≤ w.heap.size + 1; omega) _).setCell (by show _ ≤ w.heap.size + 1; omega) _).setCell (by show _ ≤ w.heap.size + 1; omega) _).setCell (by show _ ≤ w.heap.size + 1; omega) _).setCell (by show _ ≤ w.heap.size + 1; omega) _).below
theorem toSection_any (w : World) (v : Value) (s : SecD) (h : SecAt w v s) (h1 : s.bytes.length ≤ 1073741824) (h2 : s.fix.length ≤ 1073741824) :
    Calls Try.prog 128 #[v] w (RetSec w s) :=
  (toSection_own w v s h h1 h2).mono fun e w' ⟨vb, vf, m, he, hb, _, hf, hm, hg⟩ => ⟨_, he, ⟨vb, vf, rfl, hb, owns_mono hf hm⟩, hg⟩
/-- What is left of a budget. -/
def szV (left n : Int) : Int := if n ≤ left then left - n else -1
theorem szV_le (left n : Int) (h0 : 0 ≤ n) (h : 0 ≤ left) (h1 : left ≤ 1048576) : szV left n ≤ 1048576 := by unfold szV; split <;> omega
set_option maxHeartbeats 1000000 in
theorem szByteS_any (w : World) (v : Value) (l : List UInt8) (h : BytesAt w v l) (left : Int) (h0 : 0 ≤ left) (h1 : left ≤ 1048576) :
    Calls Try.prog 164 #[v, .int .i64 left] w fun e w' => e = .returned (.int .i64 (szV left l.length)) ∧ Below w.heap.size w w' := by
  obtain ⟨a, cap, rfl, hcap, hmax, hnone, hcell⟩ := h.form
  clear h hnone hcell
  unfold maxLen at hmax
  by_cases hle : (l.length : Int) ≤ left
  · have E : Hid (szV left l.length = left - (l.length : Int)) := by show _ = _; unfold szV; rw [if_pos hle]
    go_enter Try.func164, Try.ntmps164
    go_wp2
    go_ret
    exact ⟨by rw [E.out]; try rfl, (From.start w).below⟩
  · have hgt : left < (l.length : Int) := by omega
    have E : Hid (szV left l.length = -1) := by show _ = _; unfold szV; rw [if_neg hle]
    clear hle
    go_enter Try.func164, Try.ntmps164
    go_wp2
    go_ret
    exact ⟨by rw [E.out]; try rfl, (From.start w).below⟩
set_option maxHeartbeats 1000000 in
theorem szFixupS_any (w : World) (v : Value) (l : List FixD) (h : FixAt w v l) (left : Int) (h0 : 0 ≤ left) (h1 : left ≤ 1048576) :
    Calls Try.prog 165 #[v, .int .i64 left] w fun e w' => e = .returned (.int .i64 (szV left l.length)) ∧ Below w.heap.size w w' := by
  obtain ⟨a, cap, rfl, hcap, hmax, hnone, hcell⟩ := h.form
  clear h hnone hcell
  unfold maxLen at hmax
  by_cases hle : (l.length : Int) ≤ left
  · have E : Hid (szV left l.length = left - (l.length : Int)) := by show _ = _; unfold szV; rw [if_pos hle]
    go_enter Try.func165, Try.ntmps165
    go_wp2
    go_ret
    exact ⟨by rw [E.out]; try rfl, (From.start w).below⟩
  · have hgt : left < (l.length : Int) := by omega
    have E : Hid (szV left l.length = -1) := by show _ = _; unfold szV; rw [if_neg hle]
    clear hle
    go_enter Try.func165, Try.ntmps165
    go_wp2
    go_ret
    exact ⟨by rw [E.out]; try rfl, (From.start w).below⟩
/-- What a section costs. -/
def secCost (s : SecD) : Int := s.name.size + s.bytes.length + s.fix.length
set_option maxHeartbeats 1000000 in
theorem szSection_any (w : World) (v : Value) (s : SecD) (h : SecAt w v s) (hs : s.name.size ≤ maxLen) (left : Int) (h0 : 0 ≤ left) (h1 : left ≤ 1048576) :
    Calls Try.prog 126 #[v, .int .i64 left] w fun e w' => e = .returned (.int .i64 (szV left (secCost s))) ∧ Below w.heap.size w w' := by
  obtain ⟨vb, vf, rfl, hb, hf⟩ := h
  have HB := Lib.hid hb
  have HX := Lib.hid hf
  clear hb hf
  unfold maxLen at hs
  by_cases q1 : (s.name.size : Int) ≤ left
  · by_cases q2 : (s.bytes.length : Int) ≤ left - (s.name.size : Int)
    · have E2 : szV (left - (s.name.size : Int)) s.bytes.length = left - (s.name.size : Int) - (s.bytes.length : Int) := by unfold szV; rw [if_pos q2]
      by_cases q3 : (s.fix.length : Int) ≤ left - (s.name.size : Int) - (s.bytes.length : Int)
      · have E3 : szV (left - (s.name.size : Int) - (s.bytes.length : Int)) s.fix.length = left - (s.name.size : Int) - (s.bytes.length : Int) - (s.fix.length : Int) := by unfold szV; rw [if_pos q3]
        have E : Hid (szV left (secCost s) = left - (s.name.size : Int) - (s.bytes.length : Int) - (s.fix.length : Int)) := by show _ = _; unfold szV secCost; rw [if_pos (by omega)]; omega
        go_enter Try.func126, Try.ntmps126
        go_wp2_with fail
        refine (szByteS_any _ vb s.bytes (HB.out.below (Nat.le_refl _) ((From.start w).alloc _).below) _ (by omega) (by omega)).mono ?_
        rw [E2]
        rintro e w1 ⟨rfl, g1⟩
        have HF := Lib.hid (((From.start w).alloc _).call g1)
        have B1 := (Blk.newAt w _ _ w.heap.size rfl).call g1
        have c1 := B1.cell
        clear g1
        go_wp2_with fail
        refine (szFixupS_any _ vf s.fix (HX.out.below (Nat.le_refl _) HF.out.below) _ (by omega) (by omega)).mono ?_
        rw [E3]
        rintro e w2 ⟨rfl, g2⟩
        have HF2 := Lib.hid (HF.out.call g2)
        clear g2 HF B1 c1
        go_wp2_with fail
        go_ret
        exact ⟨by rw [E.out]; try rfl, HF2.out.below⟩
      · have E3 : szV (left - (s.name.size : Int) - (s.bytes.length : Int)) s.fix.length = -1 := by unfold szV; rw [if_neg q3]
        have E : Hid (szV left (secCost s) = -1) := by show _ = _; unfold szV secCost; rw [if_neg (by omega)]
        go_enter Try.func126, Try.ntmps126
        go_wp2_with fail
        refine (szByteS_any _ vb s.bytes (HB.out.below (Nat.le_refl _) ((From.start w).alloc _).below) _ (by omega) (by omega)).mono ?_
        rw [E2]
        rintro e w1 ⟨rfl, g1⟩
        have HF := Lib.hid (((From.start w).alloc _).call g1)
        have B1 := (Blk.newAt w _ _ w.heap.size rfl).call g1
        have c1 := B1.cell
        clear g1
        go_wp2_with fail
        refine (szFixupS_any _ vf s.fix (HX.out.below (Nat.le_refl _) HF.out.below) _ (by omega) (by omega)).mono ?_
        rw [E3]
        rintro e w2 ⟨rfl, g2⟩
        have HF2 := Lib.hid (HF.out.call g2)
        clear g2 HF B1 c1
        go_wp2_with fail
        go_ret
        exact ⟨by rw [E.out]; try rfl, HF2.out.below⟩
    · have E2 : szV (left - (s.name.size : Int)) s.bytes.length = -1 := by unfold szV; rw [if_neg q2]
      have E : Hid (szV left (secCost s) = -1) := by show _ = _; unfold szV secCost; rw [if_neg (by omega)]
      go_enter Try.func126, Try.ntmps126
      go_wp2_with fail
      refine (szByteS_any _ vb s.bytes (HB.out.below (Nat.le_refl _) ((From.start w).alloc _).below) _ (by omega) (by omega)).mono ?_
      rw [E2]
      rintro e w1 ⟨rfl, g1⟩
      have HF := Lib.hid (((From.start w).alloc _).call g1)
      clear g1
      go_wp2_with fail
      go_ret
      exact ⟨by rw [E.out]; try rfl, HF.out.below⟩
  · have q1' : left < (s.name.size : Int) := by omega
    have E : Hid (szV left (secCost s) = -1) := by show _ = _; unfold szV secCost; rw [if_neg (by omega)]
    clear q1
    go_enter Try.func126, Try.ntmps126
    go_wp2_with fail
    go_ret
    exact ⟨by rw [E.out]; try rfl, ((From.start w).alloc _).below⟩

/-- A struct of one-cell fields, by value: what each field's cell reads as. -/
theorem open_aggAt {H : Type} {enc : TypeId × Value → H} {P : Program} {w : World} {base : Nat} {spare : Nat → Bool} {held : Bool} {r : Reach} {b0 : Nat} {t : TypeId} {fs : Array Field} {v : Value} {d : DataW H} {p : List MemPlace}
    (hs : P.underlying t = some (.struct fs)) (hone : Go.Deep.oneCellFields P fs = true) (hC : P.cellsOf t = fs.size) (hv : Value.okWide P w r b0 t v) (h : DataW.Trod enc P w base spare held t v d p) :
    ∃ cs : Array Value, v = .agg cs ∧ cs.size = fs.size ∧ ∀ (j : Nat) (f : Field), fs[j]? = some f → ∃ u n y, cs[j]? = some u ∧ DataW.trod enc P w base spare held n f.type [u] = some y := by
  obtain ⟨cs, rfl, hsz⟩ := okWide_struct hs hv
  obtain ⟨fuel, hf⟩ := h
  obtain ⟨xs, n, _, _, _, hxl, hg⟩ := DataW.trod_struct hs hf
  refine ⟨cs, rfl, hsz.trans hC, fun j f hj => ?_⟩
  obtain ⟨ho, hk⟩ := Go.Deep.hone_of hone j f hj
  have hjl : j < fs.size := (Array.getElem?_eq_some_iff.1 hj).1
  have hc : j < cs.size := by rw [hsz, hC]; exact hjl
  have h1 := hg j f hj
  rw [ho, hk] at h1
  have hj2 : j < cs.toList.length := by simpa using hc
  replace h1 : DataW.trod enc P w base spare held n f.type ((cs.toList.drop j).take 1) = xs[j]? := h1
  rw [List.drop_eq_getElem_cons hj2, List.getElem?_eq_getElem (by omega)] at h1
  exact ⟨cs[j], n, _, Array.getElem?_eq_getElem hc, h1⟩

/-- A slice of structs of one-cell fields: what each field's cell holds. -/
theorem open_rowsAt {H : Type} {enc : TypeId × Value → H} {P : Program} {w : World} {base : Nat} {spare : Nat → Bool} {held : Bool} {t e : TypeId} {fs : Array Field} {fuel : Nat} {cs : List Value} {x : DataW H × List MemPlace}
    (ht : P.underlying t = some (.slice e)) (he : P.underlying e = some (.struct fs)) (hone : Go.Deep.oneCellFields P fs = true) (hC : P.cellsOf e = fs.size) (h : DataW.trod enc P w base spare held fuel t cs = some x) :
    cs = [.slice none 0 0] ∨ ∃ (a : Addr) (len cap : Nat), cs = [.slice (some a) len cap] ∧ len ≤ cap ∧ cap ≤ maxLen ∧
      ∀ (i j : Nat) (f : Field), i < len → fs[j]? = some f → ∃ u n y, w.cell? (a.add (i * fs.size + j)) = some u ∧ DataW.trod enc P w base spare held n f.type [u] = some y := by
  rcases Go.Deep.open_slice ht h with ⟨rfl, _⟩ | ⟨a, len, cap, m, n, D, Pl, rfl, _, hl, hm, hmm, _, hi⟩
  · exact .inl rfl
  have hlm : len ≤ m := by rw [hmm]; split <;> omega
  refine .inr ⟨a, len, cap, rfl, hl, hm, fun i j f hil hj => ?_⟩
  obtain ⟨cs', hc, ht'⟩ := hi i (by omega)
  rw [hC] at hc
  obtain ⟨xs, k, _, _, _, hxl, hf⟩ := DataW.trod_struct he ht'
  obtain ⟨_, hlen, hcell⟩ := World.cells?_some hc
  obtain ⟨ho, hk⟩ := Go.Deep.hone_of hone j f hj
  have hjl : j < fs.size := (Array.getElem?_eq_some_iff.1 hj).1
  have h1 := hf j f hj
  rw [ho, hk, List.drop_eq_getElem_cons (by omega), List.getElem?_eq_getElem (by omega)] at h1
  have h2 := hcell j hjl
  rw [Go.Deep.add_add, List.getElem?_eq_getElem (by omega)] at h2
  exact ⟨_, k, _, h2, h1⟩

/-- Whole numbers of a fixup. -/
def fixWf (f : FixD) : Prop := (Lit.int .i64 f.1).wf = true ∧ (Lit.int .i64 f.2.1).wf = true ∧ (Lit.int .i64 f.2.2.1).wf = true ∧ (Lit.int .i64 f.2.2.2).wf = true
theorem open_fixAt {H : Type} {enc : TypeId × Value → H} {W : World} {base : Nat} {spare : Nat → Bool} {held : Bool} {fuel : Nat} {v : Value} {x : DataW H × List MemPlace}
    (h : DataW.trod enc Try.prog W base spare held fuel 129 [v] = some x) : ∃ l : List FixD, FixAt W v l ∧ ∀ f ∈ l, fixWf f := by
  rcases open_rowsAt Try.underlying129 Try.underlying162 (by kernel_rfl) (by kernel_rfl) h with hv | ⟨a, len, cap, hv, hl, hm, hc⟩
  · obtain rfl : v = .slice none 0 0 := by simpa using hv
    exact ⟨[], Reads.nil _ _, fun f hf => by cases hf⟩
  obtain rfl : v = .slice (some a) len cap := by simpa using hv
  have each : ∀ i, i < len → ∃ f : FixD, (W.cell? (a.add (i * 4)) = some (.int .i64 f.1) ∧ W.cell? (a.add (i * 4 + 1)) = some (.int .i64 f.2.1) ∧ W.cell? (a.add (i * 4 + 2)) = some (.int .i64 f.2.2.1) ∧ W.cell? (a.add (i * 4 + 3)) = some (.int .i64 f.2.2.2)) ∧ fixWf f := by
    intro i hi
    obtain ⟨u0, n0, y0, c0, t0⟩ := hc i 0 _ hi rfl
    obtain ⟨u1, n1, y1, c1, t1⟩ := hc i 1 _ hi rfl
    obtain ⟨u2, n2, y2, c2, t2⟩ := hc i 2 _ hi rfl
    obtain ⟨u3, n3, y3, c3, t3⟩ := hc i 3 _ hi rfl
    obtain ⟨x0, e0, _, w0⟩ := DataW.trod_int Try.underlying3 t0
    obtain ⟨x1, e1, _, w1⟩ := DataW.trod_int Try.underlying3 t1
    obtain ⟨x2, e2, _, w2⟩ := DataW.trod_int Try.underlying3 t2
    obtain ⟨x3, e3, _, w3⟩ := DataW.trod_int Try.underlying3 t3
    simp at e0 e1 e2 e3
    subst e0 e1 e2 e3
    exact ⟨(x0, x1, x2, x3), ⟨by simpa using c0, by simpa using c1, by simpa using c2, by simpa using c3⟩, w0, w1, w2, w3⟩
  obtain ⟨q, hq⟩ := Go.Deep.choose_lt each
  have hlen : ((List.range len).map q).length = len := by simp
  refine ⟨(List.range len).map q, ?_, fun f hf => ?_⟩
  · unfold FixAt
    rw [hlen]
    refine ⟨by rw [fixCells_length, hlen], some a, cap, rfl, hl, hm, fun h => (by cases h), fun hn => ?_⟩
    obtain ⟨ab, ao, spot⟩ := a
    have hspot : spot = none := by simpa [Addr.add] using World.cell?_spot (hq 0 (by omega)).1.1
    subst hspot
    refine ⟨ab, ao, rfl, fun j u hu => ?_⟩
    have hj : j < len * 4 := by
      have := (List.getElem?_eq_some_iff.1 hu).1
      rw [fixCells_length, hlen] at this; exact this
    have hk : j / 4 < len := by omega
    obtain ⟨g0, g1, g2, g3⟩ := fixCells_get ((List.range len).map q) (j / 4) (by rw [hlen]; exact hk)
    obtain ⟨⟨k0, k1, k2, k3⟩, _⟩ := hq (j / 4) hk
    simp only [List.getElem_map, List.getElem_range] at g0 g1 g2 g3
    rw [Addr.add_lit] at k0 k1 k2 k3
    have hm4 : j = j / 4 * 4 ∨ j = j / 4 * 4 + 1 ∨ j = j / 4 * 4 + 2 ∨ j = j / 4 * 4 + 3 := by omega
    rcases hm4 with e | e | e | e
    · rw [e] at hu; rw [g0] at hu; rw [e, k0, hu]
    · rw [e] at hu; rw [g1] at hu; rw [e, k1, hu]
    · rw [e] at hu; rw [g2] at hu; rw [e, k2, hu]
    · rw [e] at hu; rw [g3] at hu; rw [e, k3, hu]
  · obtain ⟨i, hi, rfl⟩ := List.mem_map.1 hf
    exact (hq i (List.mem_range.1 hi)).2
set_option maxHeartbeats 1000000 in
theorem eqSection_same (w : World) (v1 v2 : Value) (s : SecD) (h1 : SecAt w v1 s) (h2 : SecAt w v2 s) :
    Calls Try.prog 130 #[v1, v2] w fun e w' => e = .returned (.bool true) ∧ Below w.heap.size w w' := by
  obtain ⟨b1, f1, rfl, hb1, hf1⟩ := h1
  obtain ⟨b2, f2, rfl, hb2, hf2⟩ := h2
  have HB1 := Lib.hid hb1
  have HB2 := Lib.hid hb2
  have HF1 := Lib.hid hf1
  have HF2 := Lib.hid hf2
  have ee := eqB_self s.bytes
  clear hb1 hb2 hf1 hf2
  go_enter Try.func130, Try.ntmps130
  go_wp2_with fail
  have hbb : Below w.heap.size w ((w.alloc (.cells #[.string s.name, .int .i64 s.kind, .int .i64 s.align, b1, .int .i64 s.size, f1] 69)).alloc (.cells #[.string s.name, .int .i64 s.kind, .int .i64 s.align, b2, .int .i64 s.size, f2] 69)) := (((From.start w).alloc _).alloc _).below
  refine (l_eqByteS _ _ _ _ _ (HB1.out.below (Nat.le_refl _) hbb) (HB2.out.below (Nat.le_refl _) hbb)).mono ?_
  rw [ee]
  rintro e w1 ⟨rfl, g1⟩
  have HG := Lib.hid ((((From.start w).alloc _).alloc _).call g1)
  have B0 := ((Blk.newAt w _ _ w.heap.size rfl).alloc _).call g1
  have B1 := (Blk.newAt _ _ _ (w.heap.size + 1) (by simp)).call g1
  have c0 := B0.cell
  have c1 := B1.cell
  clear g1 hbb HB1 HB2
  go_wp2_with fail
  refine (eqFixupS_same _ _ _ s.fix (HF1.out.below (Nat.le_refl _) HG.out.below) (HF2.out.below (Nat.le_refl _) HG.out.below)).mono ?_
  rintro e w2 ⟨rfl, g2⟩
  have HG2 := Lib.hid (HG.out.call g2)
  clear g2 HG B0 B1 c0 c1
  go_wp2_with fail
  go_ret
  exact ⟨rfl, HG2.out.below⟩
/-- Bytes, from a cell. -/
theorem open_bytesT {H : Type} {enc : TypeId × Value → H} {W : World} {base fuel : Nat} {v : Value} {x : DataW H × List MemPlace}
    (hf : DataW.trod enc Try.prog W base (fun _ => true) true fuel 22 [v] = some x) : ∃ l : List UInt8, BytesAt W v l := by
  rcases open_ints Try.underlying22 Try.underlying5 (by kernel_rfl) hf with ⟨hcs, hx⟩ | ⟨a, len, cap, zs, hcs, _, hl, hm, hz, hx, hcell, hwz⟩
  · obtain rfl : v = .slice none 0 0 := by simpa using hcs
    exact ⟨[], Reads.nil _ _⟩
  · obtain rfl : v = .slice (some a) len cap := by simpa using hcs
    simp only [if_true] at hz
    have hlen : ((zs.take len).map fun n => UInt8.ofNat n.toNat).length = len := by simp; omega
    refine ⟨(zs.take len).map fun n => UInt8.ofNat n.toNat, ?_⟩
    unfold BytesAt
    rw [hlen]
    refine ⟨by rw [bvs_length, hlen]; simp, some a, cap, rfl, hl, hm, fun h => (by cases h), fun hn => ?_⟩
    obtain ⟨ab, ao, spot⟩ := a
    have hspot : spot = none := by simpa [Addr.add] using World.cell?_spot (hcell 0 (by omega))
    subst hspot
    refine ⟨ab, ao, rfl, fun j u hu => ?_⟩
    have hj : j < len := by
      have := (List.getElem?_eq_some_iff.1 hu).1
      rw [bvs_length, hlen] at this; exact this
    have hcj := hcell j (by omega)
    rw [Addr.add_lit] at hcj
    rw [hcj]
    have hb := range_u8 hwz j
    have e : zs.getD j 0 = zs[j]'(by omega) := by simp [List.getD, List.getElem?_eq_getElem (show j < zs.length by omega)]
    rw [List.getD_eq_getElem?_getD] at e
    rw [e] at hb
    rw [List.getD_eq_getElem?_getD, e]
    have hu' : u = .int .u8 ((UInt8.ofNat (zs[j]'(by omega)).toNat).toNat : Int) := by
      simp only [bvs, List.map_map, List.getElem?_map, List.getElem?_take, hj, if_true, List.getElem?_eq_getElem (show j < zs.length by omega), Option.map_some, Option.some.injEq] at hu
      exact hu.symm
    rw [hu']
    congr 2
    simp only [UInt8.toNat_ofNat']
    omega

/-- Whole numbers and lengths of a section. -/
def secWf (s : SecD) : Prop := s.name.size ≤ maxLen ∧ (Lit.int .i64 s.kind).wf = true ∧ (Lit.int .i64 s.align).wf = true ∧ (Lit.int .i64 s.size).wf = true ∧ ∀ f ∈ s.fix, fixWf f
theorem open_sectionAt {H : Type} {enc : TypeId × Value → H} {W : World} {base : Nat} {v : Value} {d : DataW H} {p : List MemPlace}
    (hval : Value.okWide Try.prog W .any base 131 v) (h : DataW.Trod enc Try.prog W 0 (fun _ => true) true 131 v d p) : ∃ s : SecD, SecAt W v s ∧ secWf s := by
  obtain ⟨cs, rfl, hsz, hc⟩ := open_aggAt Try.underlying131 (by kernel_rfl) (by kernel_rfl) hval h
  obtain ⟨u0, n0, y0, e0, t0⟩ := hc 0 _ rfl
  obtain ⟨u1, n1, y1, e1, t1⟩ := hc 1 _ rfl
  obtain ⟨u2, n2, y2, e2, t2⟩ := hc 2 _ rfl
  obtain ⟨u3, n3, y3, e3, t3⟩ := hc 3 _ rfl
  obtain ⟨u4, n4, y4, e4, t4⟩ := hc 4 _ rfl
  obtain ⟨u5, n5, y5, e5, t5⟩ := hc 5 _ rfl
  obtain rfl : cs = #[u0, u1, u2, u3, u4, u5] := by
    apply Array.ext_getElem?
    intro i
    by_cases hi : i < 6
    · have : i = 0 ∨ i = 1 ∨ i = 2 ∨ i = 3 ∨ i = 4 ∨ i = 5 := by omega
      rcases this with rfl | rfl | rfl | rfl | rfl | rfl <;> assumption
    · rw [Array.getElem?_eq_none (by rw [hsz]; simpa using hi), Array.getElem?_eq_none (by simpa using hi)]
  obtain ⟨x0, k0, _, w0⟩ := DataW.trod_string Try.underlying9 t0
  obtain ⟨x1, k1, _, w1⟩ := DataW.trod_int Try.underlying3 t1
  obtain ⟨x2, k2, _, w2⟩ := DataW.trod_int Try.underlying3 t2
  obtain ⟨x4, k4, _, w4⟩ := DataW.trod_int Try.underlying3 t4
  obtain ⟨l3, h3⟩ := open_bytesT t3
  obtain ⟨l5, h5, w5⟩ := open_fixAt t5
  simp at k0 k1 k2 k4
  subst k0 k1 k2 k4
  exact ⟨⟨x0, x1, x2, l3, x4, l5⟩, ⟨u3, u5, rfl, h3, h5⟩, w0, w1, w2, w4, w5⟩
end Go.Proofs.Ythccjimckjecjaa
