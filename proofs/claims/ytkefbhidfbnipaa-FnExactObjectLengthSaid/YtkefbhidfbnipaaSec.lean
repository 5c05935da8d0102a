/- Sections: copied, compared, measured. Symbols, sections and objects in memory. Sections, symbols and objects: in memory of a call's own. Whether a section is valid. -/
import Derived.Test.YtkefbhidfbnipaaBytes
import Derived.Deep.RegionHeld3
namespace Go.Proofs.Ytkefbhidfbnipaa
/-! Sec -/
open Go.ChangeShapes Go.WideShapes Go.ChangeAt Go.RowKit Go.Joins
set_option linter.unusedSimpArgs false
set_option linter.unusedVariables false
set_option maxRecDepth 100000

/-- A section. -/
structure SecD where
  name : ByteArray
  kind : Int
  align : Int
  bytes : List UInt8
  size : Int
  fix : List FixD
@[reducible] def secV (s : SecD) (vb vf : Value) : Value := .agg #[.string s.name, .int .i64 s.kind, .int .i64 s.align, vb, .int .i64 s.size, vf]
/-- A value that reads as a section. -/
def SecAt (w : World) (v : Value) (s : SecD) : Prop := ∃ vb vf, v = secV s vb vf ∧ BytesAt w vb s.bytes ∧ FixAt w vf s.fix
theorem SecAt.below {w w' : World} {v : Value} {s : SecD} {B : Nat} (h : SecAt w v s) (hB : w.heap.size ≤ B) (hb : Below B w w') : SecAt w' v s := by
  obtain ⟨vb, vf, rfl, h1, h2⟩ := h
  exact ⟨vb, vf, rfl, h1.below hB hb, h2.below hB hb⟩
/-- A section whose bytes and fixups the call owns. -/
def OwnSec (w : World) (base : Nat) (v : Value) (s : SecD) : Prop := ∃ vb vf, v = secV s vb vf ∧ OwnB w base vb s.bytes ∧ OwnF w base vf s.fix
theorem OwnSec.reads {w : World} {base : Nat} {v : Value} {s : SecD} (h : OwnSec w base v s) : SecAt w v s := by
  obtain ⟨vb, vf, rfl, h1, h2⟩ := h
  exact ⟨vb, vf, rfl, h1.reads, h2.reads⟩

/-- The size of a section. -/
def sectionSize (s : SecD) : Int := if s.kind = 3 then s.size else (s.bytes.length : Int)

set_option maxHeartbeats 1000000 in
theorem i_SectionSize (w : World) (v : Value) (s : SecD) (h : SecAt w v s) :
    Calls Try.prog 26 #[v] w fun e w' => e = .returned (.int .i64 (sectionSize s)) ∧ Below w.heap.size w w' := by
  obtain ⟨vb, vf, rfl, hb, hf⟩ := h
  obtain ⟨a, cap, rfl, hcap, hmax, hnone, hcell⟩ := hb.form
  clear hb hf hnone hcell
  by_cases hk : s.kind = 3
  · have e1 : (s.kind == 3) = true := by simpa using hk
    have E : Hid (sectionSize s = s.size) := by show _ = _; unfold sectionSize; rw [if_pos hk]
    clear hk
    go_enter Try.func26, Try.ntmps26
    go_wp2
    go_ret
    exact ⟨by rw [E.out]; rfl, ((From.start w).alloc _).below⟩
  · have e1 : (s.kind == 3) = false := by simpa using hk
    have E : Hid (sectionSize s = (s.bytes.length : Int)) := by show _ = _; unfold sectionSize; rw [if_neg hk]
    clear hk
    go_enter Try.func26, Try.ntmps26
    go_wp2
    go_ret
    exact ⟨by rw [E.out]; rfl, ((From.start w).alloc _).below⟩
set_option maxHeartbeats 1000000 in
theorem s_SectionSize (w : World) (v : Value) (s : SecD) (h : SecAt w v s) :
    Calls Try.prog 33 #[v] w fun e w' => e = .returned (.int .i64 (sectionSize s)) ∧ Below w.heap.size w w' := by
  obtain ⟨vb, vf, rfl, hb, hf⟩ := h
  obtain ⟨a, cap, rfl, hcap, hmax, hnone, hcell⟩ := hb.form
  clear hb hf hnone hcell
  by_cases hk : s.kind = 3
  · have e1 : (s.kind == 3) = true := by simpa using hk
    have E : Hid (sectionSize s = s.size) := by show _ = _; unfold sectionSize; rw [if_pos hk]
    clear hk
    go_enter Try.func33, Try.ntmps33
    go_wp2
    go_ret
    exact ⟨by rw [E.out]; rfl, ((From.start w).alloc _).below⟩
  · have e1 : (s.kind == 3) = false := by simpa using hk
    have E : Hid (sectionSize s = (s.bytes.length : Int)) := by show _ = _; unfold sectionSize; rw [if_neg hk]
    clear hk
    go_enter Try.func33, Try.ntmps33
    go_wp2
    go_ret
    exact ⟨by rw [E.out]; rfl, ((From.start w).alloc _).below⟩

/-- What a function ends in that hands back a section of its own. -/
def RetSec (w : World) (s : SecD) (e : Ending) (w' : World) : Prop := ∃ r, e = .returned r ∧ OwnSec w' w.heap.size r s ∧ Below w.heap.size w w'
/-- The same, and the fixups lie behind the bytes. -/
def RetSecO (w : World) (s : SecD) (e : Ending) (w' : World) : Prop := ∃ vb vf m, e = .returned (secV s vb vf) ∧ OwnB w' w.heap.size vb s.bytes ∧ (∀ k, vb.ownBlock = some k → k < m) ∧ OwnF w' m vf s.fix ∧ w.heap.size ≤ m ∧ Below w.heap.size w w'
set_option maxHeartbeats 1000000 in
theorem toSection_own (w : World) (v : Value) (s : SecD) (h : SecAt w v s) (h1 : s.bytes.length ≤ 1073741824) (h2 : s.fix.length ≤ 1073741824) :
    Calls Try.prog 74 #[v] w (RetSecO w s) := by
  obtain ⟨vb, vf, rfl, hb, hf⟩ := h
  have HB := Lib.hid hb
  have HX := Lib.hid hf
  clear hb hf
  go_enter Try.func74, Try.ntmps74
  go_wp2_with fail
  refine (toByteS_any _ vb s.bytes (HB.out.below (Nat.le_refl _) ((((From.start w).alloc _).alloc _).alloc _).below) h1).mono ?_
  rintro e w1 ⟨r1, rfl, o1, g1⟩
  obtain ⟨ra, rc, rfl⟩ := owns_form o1
  have HLT := Lib.hid (fun k hk => (o1.lt k hk).2 : ∀ k, (Value.slice ra s.bytes.length rc).ownBlock = some k → k < w1.heap.size)
  have F1 := ((((From.start w).alloc _).alloc _).alloc _).call g1
  have HLE := Lib.hid F1.le
  have B0 := (((Blk.newAt w _ _ w.heap.size rfl).alloc _).alloc _).call g1
  have B1 := ((Blk.newAt _ _ _ (w.heap.size + 1) (by simp)).alloc _).call g1
  have B2 := (Blk.newAt _ _ _ (w.heap.size + 1 + 1) (by simp)).call g1
  have z2 := B2.lt
  have c0 := B0.cell
  have c2 := B2.cell
  have f2 := B2.frozen
  have HO1 := Lib.hid (ownsRow_setCell_below (ownsRow_setCell_below o1 (a := ⟨w.heap.size + 1 + 1, 3, none⟩) (by simp) (.slice ra s.bytes.length rc)) (a := ⟨w.heap.size + 1 + 1, 4, none⟩) (by simp) (.int .i64 s.size))
  have HF1 := Lib.hid ((F1.setCell (p := ⟨w.heap.size + 1 + 1, 3, none⟩) (by show _ ≤ w.heap.size + 1 + 1; omega) (.slice ra s.bytes.length rc)).setCell (p := ⟨w.heap.size + 1 + 1, 4, none⟩) (by show _ ≤ w.heap.size + 1 + 1; omega) (.int .i64 s.size))
  have HB0 := Lib.hid ((B0.other (p := ⟨w.heap.size + 1 + 1, 3, none⟩) (by show w.heap.size + 1 + 1 ≠ _; omega) (.slice ra s.bytes.length rc)).other (p := ⟨w.heap.size + 1 + 1, 4, none⟩) (by show w.heap.size + 1 + 1 ≠ _; omega) (.int .i64 s.size))
  have HB1 := Lib.hid ((B1.other (p := ⟨w.heap.size + 1 + 1, 3, none⟩) (by show w.heap.size + 1 + 1 ≠ _; omega) (.slice ra s.bytes.length rc)).other (p := ⟨w.heap.size + 1 + 1, 4, none⟩) (by show w.heap.size + 1 + 1 ≠ _; omega) (.int .i64 s.size))
  have HB2 := Lib.hid ((B2.set (o := 3) (.slice ra s.bytes.length rc)).set (o := 4) (.int .i64 s.size))
  clear F1 B0 B1 B2 o1 g1 HB
  go_wp2_with fail
  have z3 := Lib.hid z2
  clear c0 c2 f2 z2
  refine (toFixupS_any _ vf s.fix (HX.out.below (Nat.le_refl _) HF1.out.below) h2).mono ?_
  rintro e w2 ⟨r2, rfl, o2, g2⟩
  obtain ⟨rb, rd, rfl⟩ := owns_form o2
  have HO1' := Lib.hid (owns_call HO1.out g2)
  have HF2 := Lib.hid (HF1.out.call g2)
  have B1 := HB1.out.call g2
  have B2 := HB2.out.call g2
  have z1 := B1.lt
  have z2 := B2.lt
  have c1 := B1.cell
  have c2 := B2.cell
  have f1 := B1.frozen
  have f2 := B2.frozen
  simp only [List.setIfInBounds_toArray, List.set_cons_succ, List.set_cons_zero] at c2
  clear HB0 HB1 HB2 HF1 HO1 B1 B2
  go_wp2_with fail
  have below7 : ∀ {b : Nat} {e : TypeId} {sz : Nat} {v : Value} {n : Nat} {xs : List Value}, w.heap.size + 1 + 1 < b → w2.ownsRow b e sz v n xs →
      ∀ v1 v2 v3 v4 v5 v6 v7 : Value, (((((((w2.setCell { block := w.heap.size + 1 + 1, off := 5 } v1).setCell { block := w.heap.size + 1, off := 0 } v2).setCell
      { block := w.heap.size + 1, off := 1 } v3).setCell { block := w.heap.size + 1, off := 2 } v4).setCell { block := w.heap.size + 1, off := 3 } v5).setCell
      { block := w.heap.size + 1, off := 4 } v6).setCell { block := w.heap.size + 1, off := 5 } v7).ownsRow b e sz v n xs := by
    intro b e sz v n xs hb h v1 v2 v3 v4 v5 v6 v7
    have q : w.heap.size + 1 < b := by omega
    exact ownsRow_setCell_below (ownsRow_setCell_below (ownsRow_setCell_below (ownsRow_setCell_below (ownsRow_setCell_below (ownsRow_setCell_below (ownsRow_setCell_below h
      hb _) q _) q _) q _) q _) q _) q _
  refine bodyPost_ret (v := secV s (.slice ra s.bytes.length rc) (.slice rb s.fix.length rd)) (by simp [results, Try.results74, go_sem, c1, z1]) rfl ⟨_, _, w1.heap.size, rfl, owns_mono (below7 (by simp) HO1'.out _ _ _ _ _ _ _) (by simp; omega), HLT.out, owns_mono (below7 (by have := z3.out; simp; omega) o2 _ _ _ _ _ _ _) (by simp), HLE.out, ?_⟩
  exact (((((((HF2.out.setCell (by show _ ≤ w.heap.size + 1 + 1; omega) _).setCell (by show _ ≤ w.heap.size + 1; omega) _).setCell (by show _ ≤ w.heap.size + 1; omega) _).setCell (by show _ ≤ w.heap.size + 1; omega) _).setCell (by show _ ≤ w.heap.size + 1; omega) _).setCell (by show _ ≤ w.heap.size + 1; omega) _).setCell (by show _ ≤ w.heap.size + 1; omega) _).below
theorem toSection_any (w : World) (v : Value) (s : SecD) (h : SecAt w v s) (h1 : s.bytes.length ≤ 1073741824) (h2 : s.fix.length ≤ 1073741824) :
    Calls Try.prog 74 #[v] w (RetSec w s) :=
  (toSection_own w v s h h1 h2).mono fun e w' ⟨vb, vf, m, he, hb, _, hf, hm, hg⟩ => ⟨_, he, ⟨vb, vf, rfl, hb, owns_mono hf hm⟩, hg⟩
/-- What is left of a budget. -/
def szV (left n : Int) : Int := if n ≤ left then left - n else -1
theorem szV_le (left n : Int) (h0 : 0 ≤ n) (h : 0 ≤ left) (h1 : left ≤ 1048576) : szV left n ≤ 1048576 := by unfold szV; split <;> omega
set_option maxHeartbeats 1000000 in
theorem szByteS_any (w : World) (v : Value) (l : List UInt8) (h : BytesAt w v l) (left : Int) (h0 : 0 ≤ left) (h1 : left ≤ 1048576) :
    Calls Try.prog 91 #[v, .int .i64 left] w fun e w' => e = .returned (.int .i64 (szV left l.length)) ∧ Below w.heap.size w w' := by
  obtain ⟨a, cap, rfl, hcap, hmax, hnone, hcell⟩ := h.form
  clear h hnone hcell
  unfold maxLen at hmax
  by_cases hle : (l.length : Int) ≤ left
  · have E : Hid (szV left l.length = left - (l.length : Int)) := by show _ = _; unfold szV; rw [if_pos hle]
    go_enter Try.func91, Try.ntmps91
    go_wp2
    go_ret
    exact ⟨by rw [E.out]; try rfl, (From.start w).below⟩
  · have hgt : left < (l.length : Int) := by omega
    have E : Hid (szV left l.length = -1) := by show _ = _; unfold szV; rw [if_neg hle]
    clear hle
    go_enter Try.func91, Try.ntmps91
    go_wp2
    go_ret
    exact ⟨by rw [E.out]; try rfl, (From.start w).below⟩
set_option maxHeartbeats 1000000 in
theorem szFixupS_any (w : World) (v : Value) (l : List FixD) (h : FixAt w v l) (left : Int) (h0 : 0 ≤ left) (h1 : left ≤ 1048576) :
    Calls Try.prog 92 #[v, .int .i64 left] w fun e w' => e = .returned (.int .i64 (szV left l.length)) ∧ Below w.heap.size w w' := by
  obtain ⟨a, cap, rfl, hcap, hmax, hnone, hcell⟩ := h.form
  clear h hnone hcell
  unfold maxLen at hmax
  by_cases hle : (l.length : Int) ≤ left
  · have E : Hid (szV left l.length = left - (l.length : Int)) := by show _ = _; unfold szV; rw [if_pos hle]
    go_enter Try.func92, Try.ntmps92
    go_wp2
    go_ret
    exact ⟨by rw [E.out]; try rfl, (From.start w).below⟩
  · have hgt : left < (l.length : Int) := by omega
    have E : Hid (szV left l.length = -1) := by show _ = _; unfold szV; rw [if_neg hle]
    clear hle
    go_enter Try.func92, Try.ntmps92
    go_wp2
    go_ret
    exact ⟨by rw [E.out]; try rfl, (From.start w).below⟩
/-- What a section costs. -/
def secCost (s : SecD) : Int := s.name.size + s.bytes.length + s.fix.length
set_option maxHeartbeats 1000000 in
theorem szSection_any (w : World) (v : Value) (s : SecD) (h : SecAt w v s) (hs : s.name.size ≤ maxLen) (left : Int) (h0 : 0 ≤ left) (h1 : left ≤ 1048576) :
    Calls Try.prog 72 #[v, .int .i64 left] w fun e w' => e = .returned (.int .i64 (szV left (secCost s))) ∧ Below w.heap.size w w' := by
  obtain ⟨vb, vf, rfl, hb, hf⟩ := h
  have HB := Lib.hid hb
  have HX := Lib.hid hf
  clear hb hf
  unfold maxLen at hs
  by_cases q1 : (s.name.size : Int) ≤ left
  · by_cases q2 : (s.bytes.length : Int) ≤ left - (s.name.size : Int)
    · have E2 : szV (left - (s.name.size : Int)) s.bytes.length = left - (s.name.size : Int) - (s.bytes.length : Int) := by unfold szV; rw [if_pos q2]
      by_cases q3 : (s.fix.length : Int) ≤ left - (s.name.size : Int) - (s.bytes.length : Int)
      · have E3 : szV (left - (s.name.size : Int) - (s.bytes.length : Int)) s.fix.length = left - (s.name.size : Int) - (s.bytes.length : Int) - (s.fix.length : Int) := by unfold szV; rw [if_pos q3]
        have E : Hid (szV left (secCost s) = left - (s.name.size : Int) - (s.bytes.length : Int) - (s.fix.length : Int)) := by show _ = _; unfold szV secCost; rw [if_pos (by omega)]; omega
        go_enter Try.func72, Try.ntmps72
        go_wp2_with fail
        refine (szByteS_any _ vb s.bytes (HB.out.below (Nat.le_refl _) ((From.start w).alloc _).below) _ (by omega) (by omega)).mono ?_
        rw [E2]
        rintro e w1 ⟨rfl, g1⟩
        have HF := Lib.hid (((From.start w).alloc _).call g1)
        have B1 := (Blk.newAt w _ _ w.heap.size rfl).call g1
        have c1 := B1.cell
        clear g1
        go_wp2_with fail
        refine (szFixupS_any _ vf s.fix (HX.out.below (Nat.le_refl _) HF.out.below) _ (by omega) (by omega)).mono ?_
        rw [E3]
        rintro e w2 ⟨rfl, g2⟩
        have HF2 := Lib.hid (HF.out.call g2)
        clear g2 HF B1 c1
        go_wp2_with fail
        go_ret
        exact ⟨by rw [E.out]; try rfl, HF2.out.below⟩
      · have E3 : szV (left - (s.name.size : Int) - (s.bytes.length : Int)) s.fix.length = -1 := by unfold szV; rw [if_neg q3]
        have E : Hid (szV left (secCost s) = -1) := by show _ = _; unfold szV secCost; rw [if_neg (by omega)]
        go_enter Try.func72, Try.ntmps72
        go_wp2_with fail
        refine (szByteS_any _ vb s.bytes (HB.out.below (Nat.le_refl _) ((From.start w).alloc _).below) _ (by omega) (by omega)).mono ?_
        rw [E2]
        rintro e w1 ⟨rfl, g1⟩
        have HF := Lib.hid (((From.start w).alloc _).call g1)
        have B1 := (Blk.newAt w _ _ w.heap.size rfl).call g1
        have c1 := B1.cell
        clear g1
        go_wp2_with fail
        refine (szFixupS_any _ vf s.fix (HX.out.below (Nat.le_refl _) HF.out.below) _ (by omega) (by omega)).mono ?_
        rw [E3]
        rintro e w2 ⟨rfl, g2⟩
        have HF2 := Lib.hid (HF.out.call g2)
        clear g2 HF B1 c1
        go_wp2_with fail
        go_ret
        exact ⟨by rw [E.out]; try rfl, HF2.out.below⟩
    · have E2 : szV (left - (s.name.size : Int)) s.bytes.length = -1 := by unfold szV; rw [if_neg q2]
      have E : Hid (szV left (secCost s) = -1) := by show _ = _; unfold szV secCost; rw [if_neg (by omega)]
      go_enter Try.func72, Try.ntmps72
      go_wp2_with fail
      refine (szByteS_any _ vb s.bytes (HB.out.below (Nat.le_refl _) ((From.start w).alloc _).below) _ (by omega) (by omega)).mono ?_
      rw [E2]
      rintro e w1 ⟨rfl, g1⟩
      have HF := Lib.hid (((From.start w).alloc _).call g1)
      clear g1
      go_wp2_with fail
      go_ret
      exact ⟨by rw [E.out]; try rfl, HF.out.below⟩
  · have q1' : left < (s.name.size : Int) := by omega
    have E : Hid (szV left (secCost s) = -1) := by show _ = _; unfold szV secCost; rw [if_neg (by omega)]
    clear q1
    go_enter Try.func72, Try.ntmps72
    go_wp2_with fail
    go_ret
    exact ⟨by rw [E.out]; try rfl, ((From.start w).alloc _).below⟩

/-- A struct of one-cell fields, by value: what each field's cell reads as. -/
theorem open_aggAt {H : Type} {enc : TypeId × Value → H} {P : Program} {w : World} {base : Nat} {spare : Nat → Bool} {held : Bool} {r : Reach} {b0 : Nat} {t : TypeId} {fs : Array Field} {v : Value} {d : DataW H} {p : List MemPlace}
    (hs : P.underlying t = some (.struct fs)) (hone : Go.Deep.oneCellFields P fs = true) (hC : P.cellsOf t = fs.size) (hv : Value.okWide P w r b0 t v) (h : DataW.Trod enc P w base spare held t v d p) :
    ∃ cs : Array Value, v = .agg cs ∧ cs.size = fs.size ∧ ∀ (j : Nat) (f : Field), fs[j]? = some f → ∃ u n y, cs[j]? = some u ∧ DataW.trod enc P w base spare held n f.type [u] = some y := by
  obtain ⟨cs, rfl, hsz⟩ := okWide_struct hs hv
  obtain ⟨fuel, hf⟩ := h
  obtain ⟨xs, n, _, _, _, hxl, hg⟩ := DataW.trod_struct hs hf
  refine ⟨cs, rfl, hsz.trans hC, fun j f hj => ?_⟩
  obtain ⟨ho, hk⟩ := Go.Deep.hone_of hone j f hj
  have hjl : j < fs.size := (Array.getElem?_eq_some_iff.1 hj).1
  have hc : j < cs.size := by rw [hsz, hC]; exact hjl
  have h1 := hg j f hj
  rw [ho, hk] at h1
  have hj2 : j < cs.toList.length := by simpa using hc
  replace h1 : DataW.trod enc P w base spare held n f.type ((cs.toList.drop j).take 1) = xs[j]? := h1
  rw [List.drop_eq_getElem_cons hj2, List.getElem?_eq_getElem (by omega)] at h1
  exact ⟨cs[j], n, _, Array.getElem?_eq_getElem hc, h1⟩

/-- A slice of structs of one-cell fields: what each field's cell holds. -/
theorem open_rowsAt {H : Type} {enc : TypeId × Value → H} {P : Program} {w : World} {base : Nat} {spare : Nat → Bool} {held : Bool} {t e : TypeId} {fs : Array Field} {fuel : Nat} {cs : List Value} {x : DataW H × List MemPlace}
    (ht : P.underlying t = some (.slice e)) (he : P.underlying e = some (.struct fs)) (hone : Go.Deep.oneCellFields P fs = true) (hC : P.cellsOf e = fs.size) (h : DataW.trod enc P w base spare held fuel t cs = some x) :
    cs = [.slice none 0 0] ∨ ∃ (a : Addr) (len cap : Nat), cs = [.slice (some a) len cap] ∧ len ≤ cap ∧ cap ≤ maxLen ∧
      ∀ (i j : Nat) (f : Field), i < len → fs[j]? = some f → ∃ u n y, w.cell? (a.add (i * fs.size + j)) = some u ∧ DataW.trod enc P w base spare held n f.type [u] = some y := by
  rcases Go.Deep.open_slice ht h with ⟨rfl, _⟩ | ⟨a, len, cap, m, n, D, Pl, rfl, _, hl, hm, hmm, _, hi⟩
  · exact .inl rfl
  have hlm : len ≤ m := by rw [hmm]; split <;> omega
  refine .inr ⟨a, len, cap, rfl, hl, hm, fun i j f hil hj => ?_⟩
  obtain ⟨cs', hc, ht'⟩ := hi i (by omega)
  rw [hC] at hc
  obtain ⟨xs, k, _, _, _, hxl, hf⟩ := DataW.trod_struct he ht'
  obtain ⟨_, hlen, hcell⟩ := World.cells?_some hc
  obtain ⟨ho, hk⟩ := Go.Deep.hone_of hone j f hj
  have hjl : j < fs.size := (Array.getElem?_eq_some_iff.1 hj).1
  have h1 := hf j f hj
  rw [ho, hk, List.drop_eq_getElem_cons (by omega), List.getElem?_eq_getElem (by omega)] at h1
  have h2 := hcell j hjl
  rw [Go.Deep.add_add, List.getElem?_eq_getElem (by omega)] at h2
  exact ⟨_, k, _, h2, h1⟩

/-- Whole numbers of a fixup. -/
def fixWf (f : FixD) : Prop := (Lit.int .i64 f.1).wf = true ∧ (Lit.int .i64 f.2.1).wf = true ∧ (Lit.int .i64 f.2.2.1).wf = true ∧ (Lit.int .i64 f.2.2.2).wf = true
theorem open_fixAt {H : Type} {enc : TypeId × Value → H} {W : World} {base : Nat} {spare : Nat → Bool} {held : Bool} {fuel : Nat} {v : Value} {x : DataW H × List MemPlace}
    (h : DataW.trod enc Try.prog W base spare held fuel 98 [v] = some x) : ∃ l : List FixD, FixAt W v l ∧ ∀ f ∈ l, fixWf f := by
  rcases open_rowsAt Try.underlying98 Try.underlying121 (by kernel_rfl) (by kernel_rfl) h with hv | ⟨a, len, cap, hv, hl, hm, hc⟩
  · obtain rfl : v = .slice none 0 0 := by simpa using hv
    exact ⟨[], Reads.nil _ _, fun f hf => by cases hf⟩
  obtain rfl : v = .slice (some a) len cap := by simpa using hv
  have each : ∀ i, i < len → ∃ f : FixD, (W.cell? (a.add (i * 4)) = some (.int .i64 f.1) ∧ W.cell? (a.add (i * 4 + 1)) = some (.int .i64 f.2.1) ∧ W.cell? (a.add (i * 4 + 2)) = some (.int .i64 f.2.2.1) ∧ W.cell? (a.add (i * 4 + 3)) = some (.int .i64 f.2.2.2)) ∧ fixWf f := by
    intro i hi
    obtain ⟨u0, n0, y0, c0, t0⟩ := hc i 0 _ hi rfl
    obtain ⟨u1, n1, y1, c1, t1⟩ := hc i 1 _ hi rfl
    obtain ⟨u2, n2, y2, c2, t2⟩ := hc i 2 _ hi rfl
    obtain ⟨u3, n3, y3, c3, t3⟩ := hc i 3 _ hi rfl
    obtain ⟨x0, e0, _, w0⟩ := DataW.trod_int Try.underlying3 t0
    obtain ⟨x1, e1, _, w1⟩ := DataW.trod_int Try.underlying3 t1
    obtain ⟨x2, e2, _, w2⟩ := DataW.trod_int Try.underlying3 t2
    obtain ⟨x3, e3, _, w3⟩ := DataW.trod_int Try.underlying3 t3
    simp at e0 e1 e2 e3
    subst e0 e1 e2 e3
    exact ⟨(x0, x1, x2, x3), ⟨by simpa using c0, by simpa using c1, by simpa using c2, by simpa using c3⟩, w0, w1, w2, w3⟩
  obtain ⟨q, hq⟩ := Go.Deep.choose_lt each
  have hlen : ((List.range len).map q).length = len := by simp
  refine ⟨(List.range len).map q, ?_, fun f hf => ?_⟩
  · unfold FixAt
    rw [hlen]
    refine ⟨by rw [fixCells_length, hlen], some a, cap, rfl, hl, hm, fun h => (by cases h), fun hn => ?_⟩
    obtain ⟨ab, ao, spot⟩ := a
    have hspot : spot = none := by simpa [Addr.add] using World.cell?_spot (hq 0 (by omega)).1.1
    subst hspot
    refine ⟨ab, ao, rfl, fun j u hu => ?_⟩
    have hj : j < len * 4 := by
      have := (List.getElem?_eq_some_iff.1 hu).1
      rw [fixCells_length, hlen] at this; exact this
    have hk : j / 4 < len := by omega
    obtain ⟨g0, g1, g2, g3⟩ := fixCells_get ((List.range len).map q) (j / 4) (by rw [hlen]; exact hk)
    obtain ⟨⟨k0, k1, k2, k3⟩, _⟩ := hq (j / 4) hk
    simp only [List.getElem_map, List.getElem_range] at g0 g1 g2 g3
    rw [Addr.add_lit] at k0 k1 k2 k3
    have hm4 : j = j / 4 * 4 ∨ j = j / 4 * 4 + 1 ∨ j = j / 4 * 4 + 2 ∨ j = j / 4 * 4 + 3 := by omega
    rcases hm4 with e | e | e | e
    · rw [e] at hu; rw [g0] at hu; rw [e, k0, hu]
    · rw [e] at hu; rw [g1] at hu; rw [e, k1, hu]
    · rw [e] at hu; rw [g2] at hu; rw [e, k2, hu]
    · rw [e] at hu; rw [g3] at hu; rw [e, k3, hu]
  · obtain ⟨i, hi, rfl⟩ := List.mem_map.1 hf
    exact (hq i (List.mem_range.1 hi)).2
set_option maxHeartbeats 1000000 in
theorem eqSection_same (w : World) (v1 v2 : Value) (s : SecD) (h1 : SecAt w v1 s) (h2 : SecAt w v2 s) :
    Calls Try.prog 76 #[v1, v2] w fun e w' => e = .returned (.bool true) ∧ Below w.heap.size w w' := by
  obtain ⟨b1, f1, rfl, hb1, hf1⟩ := h1
  obtain ⟨b2, f2, rfl, hb2, hf2⟩ := h2
  have HB1 := Lib.hid hb1
  have HB2 := Lib.hid hb2
  have HF1 := Lib.hid hf1
  have HF2 := Lib.hid hf2
  have ee := eqB_self s.bytes
  clear hb1 hb2 hf1 hf2
  go_enter Try.func76, Try.ntmps76
  go_wp2_with fail
  have hbb : Below w.heap.size w ((w.alloc (.cells #[.string s.name, .int .i64 s.kind, .int .i64 s.align, b1, .int .i64 s.size, f1] 52)).alloc (.cells #[.string s.name, .int .i64 s.kind, .int .i64 s.align, b2, .int .i64 s.size, f2] 52)) := (((From.start w).alloc _).alloc _).below
  refine (l_eqByteS _ _ _ _ _ (HB1.out.below (Nat.le_refl _) hbb) (HB2.out.below (Nat.le_refl _) hbb)).mono ?_
  rw [ee]
  rintro e w1 ⟨rfl, g1⟩
  have HG := Lib.hid ((((From.start w).alloc _).alloc _).call g1)
  have B0 := ((Blk.newAt w _ _ w.heap.size rfl).alloc _).call g1
  have B1 := (Blk.newAt _ _ _ (w.heap.size + 1) (by simp)).call g1
  have c0 := B0.cell
  have c1 := B1.cell
  clear g1 hbb HB1 HB2
  go_wp2_with fail
  refine (eqFixupS_same _ _ _ s.fix (HF1.out.below (Nat.le_refl _) HG.out.below) (HF2.out.below (Nat.le_refl _) HG.out.below)).mono ?_
  rintro e w2 ⟨rfl, g2⟩
  have HG2 := Lib.hid (HG.out.call g2)
  clear g2 HG B0 B1 c0 c1
  go_wp2_with fail
  go_ret
  exact ⟨rfl, HG2.out.below⟩
/-- Bytes, from a cell. -/
theorem open_bytesT {H : Type} {enc : TypeId × Value → H} {W : World} {base fuel : Nat} {v : Value} {x : DataW H × List MemPlace}
    (hf : DataW.trod enc Try.prog W base (fun _ => true) true fuel 22 [v] = some x) : ∃ l : List UInt8, BytesAt W v l := by
  rcases open_ints Try.underlying22 Try.underlying5 (by kernel_rfl) hf with ⟨hcs, hx⟩ | ⟨a, len, cap, zs, hcs, _, hl, hm, hz, hx, hcell, hwz⟩
  · obtain rfl : v = .slice none 0 0 := by simpa using hcs
    exact ⟨[], Reads.nil _ _⟩
  · obtain rfl : v = .slice (some a) len cap := by simpa using hcs
    simp only [if_true] at hz
    have hlen : ((zs.take len).map fun n => UInt8.ofNat n.toNat).length = len := by simp; omega
    refine ⟨(zs.take len).map fun n => UInt8.ofNat n.toNat, ?_⟩
    unfold BytesAt
    rw [hlen]
    refine ⟨by rw [bvs_length, hlen]; simp, some a, cap, rfl, hl, hm, fun h => (by cases h), fun hn => ?_⟩
    obtain ⟨ab, ao, spot⟩ := a
    have hspot : spot = none := by simpa [Addr.add] using World.cell?_spot (hcell 0 (by omega))
    subst hspot
    refine ⟨ab, ao, rfl, fun j u hu => ?_⟩
    have hj : j < len := by
      have := (List.getElem?_eq_some_iff.1 hu).1
      rw [bvs_length, hlen] at this; exact this
    have hcj := hcell j (by omega)
    rw [Addr.add_lit] at hcj
    rw [hcj]
    have hb := range_u8 hwz j
    have e : zs.getD j 0 = zs[j]'(by omega) := by simp [List.getD, List.getElem?_eq_getElem (show j < zs.length by omega)]
    rw [List.getD_eq_getElem?_getD] at e
    rw [e] at hb
    rw [List.getD_eq_getElem?_getD, e]
    have hu' : u = .int .u8 ((UInt8.ofNat (zs[j]'(by omega)).toNat).toNat : Int) := by
      simp only [bvs, List.map_map, List.getElem?_map, List.getElem?_take, hj, if_true, List.getElem?_eq_getElem (show j < zs.length by omega), Option.map_some, Option.some.injEq] at hu
      exact hu.symm
    rw [hu']
    congr 2
    simp only [UInt8.toNat_ofNat']
    omega

/-- Whole numbers and lengths of a section. -/
def secWf (s : SecD) : Prop := s.name.size ≤ maxLen ∧ (Lit.int .i64 s.kind).wf = true ∧ (Lit.int .i64 s.align).wf = true ∧ (Lit.int .i64 s.size).wf = true ∧ ∀ f ∈ s.fix, fixWf f
theorem open_sectionAt {H : Type} {enc : TypeId × Value → H} {W : World} {base : Nat} {v : Value} {d : DataW H} {p : List MemPlace}
    (hval : Value.okWide Try.prog W .any base 100 v) (h : DataW.Trod enc Try.prog W 0 (fun _ => true) true 100 v d p) : ∃ s : SecD, SecAt W v s ∧ secWf s := by
  obtain ⟨cs, rfl, hsz, hc⟩ := open_aggAt Try.underlying100 (by kernel_rfl) (by kernel_rfl) hval h
  obtain ⟨u0, n0, y0, e0, t0⟩ := hc 0 _ rfl
  obtain ⟨u1, n1, y1, e1, t1⟩ := hc 1 _ rfl
  obtain ⟨u2, n2, y2, e2, t2⟩ := hc 2 _ rfl
  obtain ⟨u3, n3, y3, e3, t3⟩ := hc 3 _ rfl
  obtain ⟨u4, n4, y4, e4, t4⟩ := hc 4 _ rfl
  obtain ⟨u5, n5, y5, e5, t5⟩ := hc 5 _ rfl
  obtain rfl : cs = #[u0, u1, u2, u3, u4, u5] := by
    apply Array.ext_getElem?
    intro i
    by_cases hi : i < 6
    · have : i = 0 ∨ i = 1 ∨ i = 2 ∨ i = 3 ∨ i = 4 ∨ i = 5 := by omega
      rcases this with rfl | rfl | rfl | rfl | rfl | rfl <;> assumption
    · rw [Array.getElem?_eq_none (by rw [hsz]; simpa using hi), Array.getElem?_eq_none (by simpa using hi)]
  obtain ⟨x0, k0, _, w0⟩ := DataW.trod_string Try.underlying9 t0
  obtain ⟨x1, k1, _, w1⟩ := DataW.trod_int Try.underlying3 t1
  obtain ⟨x2, k2, _, w2⟩ := DataW.trod_int Try.underlying3 t2
  obtain ⟨x4, k4, _, w4⟩ := DataW.trod_int Try.underlying3 t4
  obtain ⟨l3, h3⟩ := open_bytesT t3
  obtain ⟨l5, h5, w5⟩ := open_fixAt t5
  simp at k0 k1 k2 k4
  subst k0 k1 k2 k4
  exact ⟨⟨x0, x1, x2, l3, x4, l5⟩, ⟨u3, u5, rfl, h3, h5⟩, w0, w1, w2, w4, w5⟩
/-! Obj -/
/-! Obj -/
open Go.ChangeShapes Go.WideShapes Go.ChangeAt Go.RowKit Go.Joins
set_option linter.unusedSimpArgs false
set_option linter.unusedVariables false
set_option maxRecDepth 100000

/-- A symbol. -/
structure SymD where
  name : ByteArray
  bind : Int
  whr : Int
  val : Int
@[reducible] def symV (s : SymD) : Value := .agg #[.string s.name, .int .i64 s.bind, .int .i64 s.whr, .int .i64 s.val]
/-- An object. -/
structure ObjD where
  secs : List SecD
  syms : List SymD
/-- The cells of a list of things that have as many each. -/
theorem flat_get {α : Type} (f : α → List Value) (k : Nat) (hf : ∀ x, (f x).length = k) : ∀ (l : List α) (i j : Nat) (hi : i < l.length), j < k → (l.flatMap f)[i * k + j]? = (f l[i])[j]?
  | [], i, j, hi, _ => by simp at hi
  | x :: r, 0, j, hi, hj => by
    rw [List.flatMap_cons, List.getElem?_append_left (by rw [hf]; omega)]
    simp
  | x :: r, i + 1, j, hi, hj => by
    rw [List.flatMap_cons, List.getElem?_append_right (by rw [hf, Nat.add_mul]; omega), hf]
    rw [show (i + 1) * k + j - k = i * k + j by rw [Nat.add_mul]; omega]
    simpa using flat_get f k hf r i j (by simpa using hi) hj
theorem flat_length {α : Type} (f : α → List Value) (k : Nat) (hf : ∀ x, (f x).length = k) : ∀ l : List α, (l.flatMap f).length = l.length * k
  | [] => by simp
  | x :: r => by rw [List.flatMap_cons, List.length_append, hf, flat_length f k hf r, List.length_cons, Nat.add_mul]; omega
theorem flat_one {α : Type} (f : α → List Value) (h1 : ∀ x, ∀ u ∈ f x, u.oneCell' = true) (l : List α) : ∀ u ∈ l.flatMap f, u.oneCell' = true := by
  intro u hu
  obtain ⟨x, _, hx⟩ := List.mem_flatMap.1 hu
  exact h1 x u hx
/-- For a walk: a slice of things of k cells. -/
theorem reads_form {α : Type} {f : α → List Value} {k : Nat} (hf : ∀ x, (f x).length = k) {w : World} {v : Value} {l : List α} (h : Reads w k v l.length (l.flatMap f)) :
    ∃ (a : Option Addr) (cap : Nat), v = .slice a l.length cap ∧ l.length ≤ cap ∧ cap ≤ maxLen ∧ (a = none → cap = 0) ∧
      (0 < l.length → ∃ b off, a = some ⟨b, off, none⟩ ∧ ∀ i (hi : i < l.length) j u, (f l[i])[j]? = some u → w.cell? ⟨b, off + i * k + j, none⟩ = some u) := by
  obtain ⟨_, a, cap, rfl, h2, h3, h4, h5⟩ := h
  refine ⟨a, cap, rfl, h2, h3, h4, fun hn => ?_⟩
  obtain ⟨b, off, rfl, hc⟩ := h5 hn
  refine ⟨b, off, rfl, fun i hi j u hu => ?_⟩
  have hj : j < k := by have := (List.getElem?_eq_some_iff.1 hu).1; rwa [hf] at this
  have := hc (i * k + j) u (by rw [flat_get f k hf l i j hi hj]; exact hu)
  rwa [← Nat.add_assoc] at this
/-- A part of a slice. -/
theorem Reads.take {w : World} {k : Nat} {a : Option Addr} {n cap : Nat} {xs : List Value} (h : Reads w k (.slice a n cap) n xs) (m : Nat) (hm : m ≤ n) (c : Nat) (hc : m ≤ c) (hc2 : c ≤ cap) (hc3 : a = none → c = 0) : Reads w k (.slice a m c) m (xs.take (m * k)) := by
  obtain ⟨h1, a', cap', hv, h2, h3, h4, h5⟩ := h
  simp only [Value.slice.injEq] at hv
  obtain ⟨rfl, _, rfl⟩ := hv
  refine ⟨?_, a, c, rfl, hc, by omega, hc3, fun hn => ?_⟩
  · rw [List.length_take, h1]
    have : m * k ≤ n * k := Nat.mul_le_mul_right _ hm
    omega
  · obtain ⟨b, off, e, hcell⟩ := h5 (by omega)
    refine ⟨b, off, e, fun j u hu => hcell j u ?_⟩
    rw [List.getElem?_take] at hu
    split at hu
    · exact hu
    · cases hu

/-- The cells of a section whose bytes and fixups lie at two slices. -/
@[reducible] def secL (s : SecD × Value × Value) : List Value := [.string s.1.name, .int .i64 s.1.kind, .int .i64 s.1.align, s.2.1, .int .i64 s.1.size, s.2.2]
@[reducible] def symL (s : SymD) : List Value := [.string s.name, .int .i64 s.bind, .int .i64 s.whr, .int .i64 s.val]
theorem secL_length (s : SecD × Value × Value) : (secL s).length = 6 := rfl
theorem symL_length (s : SymD) : (symL s).length = 4 := rfl
/-- A slice of symbols. -/
def SymsAt (w : World) (v : Value) (l : List SymD) : Prop := Reads w 4 v l.length (l.flatMap symL)
theorem SymsAt.below {w w' : World} {v : Value} {l : List SymD} {B : Nat} (h : SymsAt w v l) (hB : w.heap.size ≤ B) (hb : Below B w w') : SymsAt w' v l := Reads.below h hB hb
/-- What lies behind the sections of a slice. -/
def SecsIn (w : World) (l : List (SecD × Value × Value)) : Prop := ∀ x ∈ l, BytesAt w x.2.1 x.1.bytes ∧ FixAt w x.2.2 x.1.fix
/-- A slice of sections; where the bytes and the fixups of each lie. -/
def SecsAtL (w : World) (v : Value) (l : List (SecD × Value × Value)) : Prop := Reads w 6 v l.length (l.flatMap secL) ∧ SecsIn w l
theorem SecsIn.below {w w' : World} {l : List (SecD × Value × Value)} {B : Nat} (h : SecsIn w l) (hB : w.heap.size ≤ B) (hb : Below B w w') : SecsIn w' l := fun x hx => ⟨(h x hx).1.below hB hb, (h x hx).2.below hB hb⟩
theorem SecsAtL.below {w w' : World} {v : Value} {l : List (SecD × Value × Value)} {B : Nat} (h : SecsAtL w v l) (hB : w.heap.size ≤ B) (hb : Below B w w') : SecsAtL w' v l := ⟨Reads.below h.1 hB hb, h.2.below hB hb⟩
def SecsAt (w : World) (v : Value) (l : List SecD) : Prop := ∃ ls, l = ls.map (·.1) ∧ SecsAtL w v ls
theorem SecsAt.below {w w' : World} {v : Value} {l : List SecD} {B : Nat} (h : SecsAt w v l) (hB : w.heap.size ≤ B) (hb : Below B w w') : SecsAt w' v l := by
  obtain ⟨ls, h1, h2⟩ := h
  exact ⟨ls, h1, h2.below hB hb⟩
/-- A value that reads as an object. -/
def ObjAt (w : World) (v : Value) (o : ObjD) : Prop := ∃ vs vy, v = .agg #[vs, vy] ∧ SecsAt w vs o.secs ∧ SymsAt w vy o.syms
theorem ObjAt.below {w w' : World} {v : Value} {o : ObjD} {B : Nat} (h : ObjAt w v o) (hB : w.heap.size ≤ B) (hb : Below B w w') : ObjAt w' v o := by
  obtain ⟨vs, vy, h1, h2, h3⟩ := h
  exact ⟨vs, vy, h1, h2.below hB hb, h3.below hB hb⟩
/-- For a walk: a slice of sections. -/
theorem SecsAt.form {w : World} {v : Value} {l : List SecD} (h : SecsAt w v l) :
    ∃ (a : Option Addr) (cap : Nat), v = .slice a l.length cap ∧ l.length ≤ cap ∧ cap ≤ maxLen ∧ (a = none → cap = 0) ∧
      (0 < l.length → ∃ b off, a = some ⟨b, off, none⟩ ∧ ∀ i (hi : i < l.length), ∃ vb vf, BytesAt w vb l[i].bytes ∧ FixAt w vf l[i].fix ∧
        w.cell? ⟨b, off + i * 6, none⟩ = some (.string l[i].name) ∧ w.cell? ⟨b, off + i * 6 + 1, none⟩ = some (.int .i64 l[i].kind) ∧ w.cell? ⟨b, off + i * 6 + 2, none⟩ = some (.int .i64 l[i].align) ∧
        w.cell? ⟨b, off + i * 6 + 3, none⟩ = some vb ∧ w.cell? ⟨b, off + i * 6 + 4, none⟩ = some (.int .i64 l[i].size) ∧ w.cell? ⟨b, off + i * 6 + 5, none⟩ = some vf) := by
  obtain ⟨ls, rfl, h1, h2⟩ := h
  obtain ⟨a, cap, rfl, h3, h4, h5, h6⟩ := reads_form secL_length h1
  refine ⟨a, cap, by rw [List.length_map], by rw [List.length_map]; exact h3, h4, h5, fun hn => ?_⟩
  obtain ⟨b, off, rfl, hc⟩ := h6 (by simpa using hn)
  refine ⟨b, off, rfl, fun i hi => ?_⟩
  have hi' : i < ls.length := by simpa using hi
  have hm := h2 ls[i] (List.getElem_mem hi')
  refine ⟨ls[i].2.1, ls[i].2.2, ?_, ?_, ?_⟩
  · rw [List.getElem_map]; exact hm.1
  · rw [List.getElem_map]; exact hm.2
  · rw [List.getElem_map]
    exact ⟨hc i hi' 0 _ rfl, hc i hi' 1 _ rfl, hc i hi' 2 _ rfl, hc i hi' 3 _ rfl, hc i hi' 4 _ rfl, hc i hi' 5 _ rfl⟩
theorem SymsAt.form {w : World} {v : Value} {l : List SymD} (h : SymsAt w v l) :
    ∃ (a : Option Addr) (cap : Nat), v = .slice a l.length cap ∧ l.length ≤ cap ∧ cap ≤ maxLen ∧ (a = none → cap = 0) ∧
      (0 < l.length → ∃ b off, a = some ⟨b, off, none⟩ ∧ ∀ i (hi : i < l.length),
        w.cell? ⟨b, off + i * 4, none⟩ = some (.string l[i].name) ∧ w.cell? ⟨b, off + i * 4 + 1, none⟩ = some (.int .i64 l[i].bind) ∧ w.cell? ⟨b, off + i * 4 + 2, none⟩ = some (.int .i64 l[i].whr) ∧
        w.cell? ⟨b, off + i * 4 + 3, none⟩ = some (.int .i64 l[i].val)) := by
  obtain ⟨a, cap, rfl, h3, h4, h5, h6⟩ := reads_form symL_length h
  refine ⟨a, cap, rfl, h3, h4, h5, fun hn => ?_⟩
  obtain ⟨b, off, rfl, hc⟩ := h6 hn
  exact ⟨b, off, rfl, fun i hi => ⟨hc i hi 0 _ rfl, hc i hi 1 _ rfl, hc i hi 2 _ rfl, hc i hi 3 _ rfl⟩⟩
/-! ObjW -/
open Go.ChangeShapes Go.WideShapes Go.ChangeAt Go.RowKit Go.Joins
set_option linter.unusedSimpArgs false
set_option linter.unusedVariables false
set_option maxRecDepth 100000

theorem toList_madeK (z : Array Value) (K : Nat) (hK : z.size = K) (hz : 0 < K) (m : Nat) : (madeCells z (m * K)).toList = (List.replicate m ()).flatMap fun _ => z.toList := by
  subst hK
  have hf : ∀ x : Unit, ((fun _ : Unit => z.toList) x).length = z.size := fun _ => by simp
  apply List.ext_getElem?
  intro i
  by_cases hi : i < m * z.size
  · have h1 : i / z.size < m := by rw [Nat.div_lt_iff_lt_mul hz]; exact hi
    have h2 : i % z.size < z.size := Nat.mod_lt _ hz
    have h3 := flat_get (fun _ : Unit => z.toList) z.size hf (List.replicate m ()) (i / z.size) (i % z.size) (by simpa using h1) h2
    rw [show i / z.size * z.size + i % z.size = i by rw [Nat.mul_comm]; exact Nat.div_add_mod i z.size] at h3
    rw [h3]
    simp [madeCells, hi, h2]
  · rw [List.getElem?_eq_none (by simp [madeCells]; omega), List.getElem?_eq_none (by rw [flat_length _ z.size hf]; simp; omega)]
theorem set_six (a b c d e f z0 z1 z2 z3 z4 z5 : Value) (R : List Value) : ∀ (A : List Value),
    ((((((A ++ z0 :: z1 :: z2 :: z3 :: z4 :: z5 :: R).set A.length a).set (A.length + 1) b).set (A.length + 2) c).set (A.length + 3) d).set (A.length + 4) e).set (A.length + 5) f = A ++ a :: b :: c :: d :: e :: f :: R
  | [] => rfl
  | x :: r => by
    have ih := set_six a b c d e f z0 z1 z2 z3 z4 z5 R r
    simp only [List.length_cons, List.cons_append, Nat.add_right_comm _ 1, List.set_cons_succ]
    rw [ih]
theorem set_quad (a b c d z0 z1 z2 z3 : Value) (R : List Value) : ∀ (A : List Value),
    ((((A ++ z0 :: z1 :: z2 :: z3 :: R).set A.length a).set (A.length + 1) b).set (A.length + 2) c).set (A.length + 3) d = A ++ a :: b :: c :: d :: R
  | [] => rfl
  | x :: r => by
    have ih := set_quad a b c d z0 z1 z2 z3 R r
    simp only [List.length_cons, List.cons_append, Nat.add_right_comm _ 1, List.set_cons_succ]
    rw [ih]
theorem info_sec : (Try.prog.info? 52).map (fun i => (i.zero, i.size, i.bytes)) = some (some (.agg #[.string ⟨#[]⟩, .int .i64 0, .int .i64 0, .slice none 0 0, .int .i64 0, .slice none 0 0]), 6, 88) := by kernel_rfl
theorem info_sym : (Try.prog.info? 57).map (fun i => (i.zero, i.size, i.bytes)) = some (some (.agg #[.string ⟨#[]⟩, .int .i64 0, .int .i64 0, .int .i64 0]), 4, 40) := by kernel_rfl

/-- The blocks of what lies behind sections. -/
def blksOf (ls : List (SecD × Value × Value)) : List Nat := ls.flatMap fun x => x.2.1.ownBlock.toList ++ x.2.2.ownBlock.toList
theorem blksOf_append (l k : List (SecD × Value × Value)) : blksOf (l ++ k) = blksOf l ++ blksOf k := by simp [blksOf]
/-- Sections that the call owns, no two parts of them in one block. -/
structure OwnSecs (w : World) (base : Nat) (v : Value) (ls : List (SecD × Value × Value)) : Prop where
  row : w.ownsRow base 52 6 v ls.length (ls.flatMap secL)
  each : ∀ x ∈ ls, OwnB w base x.2.1 x.1.bytes ∧ OwnF w base x.2.2 x.1.fix
  nodup : (v.ownBlock.toList ++ blksOf ls).Nodup
/-- Symbols that the call owns. -/
def OwnSyms (w : World) (base : Nat) (v : Value) (l : List SymD) : Prop := w.ownsRow base 57 4 v l.length (l.flatMap symL)
theorem OwnSyms.reads {w : World} {base : Nat} {v : Value} {l : List SymD} (h : OwnSyms w base v l) : SymsAt w v l := reads_of_owns h
theorem OwnSecs.reads {w : World} {base : Nat} {v : Value} {ls : List (SecD × Value × Value)} (h : OwnSecs w base v ls) : SecsAtL w v ls := ⟨reads_of_owns h.row, fun x hx => ⟨(h.each x hx).1.reads, (h.each x hx).2.reads⟩⟩
theorem OwnSecs.at {w : World} {base : Nat} {v : Value} {ls : List (SecD × Value × Value)} (h : OwnSecs w base v ls) : SecsAt w v (ls.map (·.1)) := ⟨ls, rfl, h.reads⟩
theorem OwnSecs.call {w w' : World} {base : Nat} {v : Value} {ls : List (SecD × Value × Value)} (h : OwnSecs w base v ls) (hb : Below w.heap.size w w') : OwnSecs w' base v ls :=
  ⟨owns_call h.row hb, fun x hx => ⟨owns_call (h.each x hx).1 hb, owns_call (h.each x hx).2 hb⟩, h.nodup⟩
theorem OwnSecs.mono {w : World} {base base' : Nat} {v : Value} {ls : List (SecD × Value × Value)} (h : OwnSecs w base v ls) (hb : base' ≤ base) : OwnSecs w base' v ls :=
  ⟨owns_mono h.row hb, fun x hx => ⟨owns_mono (h.each x hx).1 hb, owns_mono (h.each x hx).2 hb⟩, h.nodup⟩
theorem OwnSecs.setBelow {w : World} {base : Nat} {v : Value} {ls : List (SecD × Value × Value)} (h : OwnSecs w base v ls) {a : Addr} (ha : a.block < base) (u : Value) : OwnSecs (w.setCell a u) base v ls :=
  ⟨ownsRow_setCell_below h.row ha u, fun x hx => ⟨ownsRow_setCell_below (h.each x hx).1 ha u, ownsRow_setCell_below (h.each x hx).2 ha u⟩, h.nodup⟩
theorem OwnSecs.lt {w : World} {base : Nat} {v : Value} {ls : List (SecD × Value × Value)} (h : OwnSecs w base v ls) : ∀ k ∈ v.ownBlock.toList ++ blksOf ls, base ≤ k ∧ k < w.heap.size := by
  intro k hk
  rcases List.mem_append.1 hk with hk | hk
  · exact h.row.lt k (by simpa using hk)
  · obtain ⟨x, hx, hk⟩ := List.mem_flatMap.1 hk
    rcases List.mem_append.1 hk with hk | hk
    · exact (h.each x hx).1.lt k (by simpa using hk)
    · exact (h.each x hx).2.lt k (by simpa using hk)
theorem blks_snoc {ls : List (SecD × Value × Value)} {x : SecD × Value × Value} {B m : Nat} (hn : (blksOf ls).Nodup) (hlt : ∀ k ∈ blksOf ls, k < B) (hb : ∀ k, x.2.1.ownBlock = some k → B ≤ k ∧ k < m) (hf : ∀ k, x.2.2.ownBlock = some k → m ≤ k) (hm : B ≤ m) : (blksOf (ls ++ [x])).Nodup := by
  rw [blksOf_append]
  refine List.nodup_append.2 ⟨hn, ?_, fun a ha c hc e => ?_⟩
  · simp only [blksOf, List.flatMap_cons, List.flatMap_nil, List.append_nil]
    refine List.nodup_append.2 ⟨?_, ?_, fun a ha c hc e => ?_⟩
    · cases x.2.1.ownBlock <;> simp
    · cases x.2.2.ownBlock <;> simp
    · have h1 := hb a (by simpa using ha)
      have h2 := hf c (by simpa using hc)
      omega
  · have h0 := hlt a ha
    simp only [blksOf, List.flatMap_cons, List.flatMap_nil, List.append_nil, List.mem_append] at hc
    rcases hc with hc | hc
    · have h1 := hb c (by simpa using hc)
      omega
    · have h2 := hf c (by simpa using hc)
      omega
/-- An object of a call's own: no two parts of it in one block. -/
def OwnObj (w : World) (base : Nat) (v : Value) (o : ObjD) : Prop := ∃ vs vy ls, v = .agg #[vs, vy] ∧ o.secs = ls.map (·.1) ∧ OwnSecs w base vs ls ∧ OwnSyms w base vy o.syms ∧ ∀ k, vy.ownBlock = some k → k ∉ vs.ownBlock.toList ++ blksOf ls
theorem OwnObj.reads {w : World} {base : Nat} {v : Value} {o : ObjD} (h : OwnObj w base v o) : ObjAt w v o := by
  obtain ⟨vs, vy, ls, rfl, h1, h2, h3, _⟩ := h
  exact ⟨vs, vy, rfl, ⟨ls, h1, h2.reads⟩, h3.reads⟩
theorem OwnObj.call {w w' : World} {base : Nat} {v : Value} {o : ObjD} (h : OwnObj w base v o) (hb : Below w.heap.size w w') : OwnObj w' base v o := by
  obtain ⟨vs, vy, ls, rfl, h1, h2, h3, h4⟩ := h
  exact ⟨vs, vy, ls, rfl, h1, h2.call hb, owns_call h3 hb, h4⟩

/-- The value of an object, spelled out. -/
theorem ObjAt.agg {w : World} {v : Value} {o : ObjD} (h : ObjAt w v o) : ∃ ra rc rb rd, v = .agg #[.slice ra o.secs.length rc, .slice rb o.syms.length rd] := by
  obtain ⟨vs, vy, rfl, hs, hy⟩ := h
  obtain ⟨ra, rc, rfl, -⟩ := hs.form
  obtain ⟨rb, rd, rfl, -⟩ := hy.form
  exact ⟨ra, rc, rb, rd, rfl⟩
/-- What a function ends in that hands back sections of its own. -/
def RetSecs (w : World) (l : List SecD) (e : Ending) (w' : World) : Prop := ∃ r ls, e = .returned r ∧ l = ls.map (·.1) ∧ OwnSecs w' w.heap.size r ls ∧ Below w.heap.size w w'
set_option maxHeartbeats 1000000 in
theorem toSectionS_any (w : World) (v : Value) (l : List SecD) (h : SecsAt w v l) (hl : l.length ≤ 1048576) (hb : ∀ s ∈ l, s.bytes.length ≤ 1073741824 ∧ s.fix.length ≤ 1073741824) :
    Calls Try.prog 45 #[v] w (RetSecs w l) := by
  obtain ⟨a, cap, rfl, hcap, hmax, hnone, hcell⟩ := h.form
  obtain ⟨i0, hi, hz0, hz1, hz2⟩ := info_parts info_sec
  have HH := Lib.hid hcell
  have HB := Lib.hid hb
  clear h hcell hnone hb
  go_enter Try.func45, Try.ntmps45
  go_wp2_with (at_make; refine wpList_make_full _ rfl _ _ 23 rfl w.heap.size 52 i0 _ 6 Try.underlying23 hi hz0 hz1 _ _ _ _ l.length rfl rfl rfl rfl ?c1 ?c2 ?c3 ?_)
  case c1 => rw [hz2]; omega
  case c2 => unfold maxLen; omega
  case c3 => exact Nat.le_refl _
  intro w1 hown hgr
  have F1 := (From.start w).grown hgr (fun k h => by cases h)
  have HO1 : Hid (w1.ownsRow w.heap.size 52 6 (.slice (some ⟨w.heap.size, 0, none⟩) l.length l.length) l.length (([] : List (SecD × Value × Value)).flatMap secL ++ (List.replicate (l.length - 0) ()).flatMap fun _ => [.string ⟨#[]⟩, .int .i64 0, .int .i64 0, .slice none 0 0, .int .i64 0, .slice none 0 0])) := Lib.hid (by
    have := hown
    rw [toList_madeK _ 6 rfl (by decide)] at this
    simpa using this)
  have HZ1 : w.heap.size < w1.heap.size := hown.lt _ rfl |>.2
  clear hgr hown
  go_wp2_with fail
  go_loopw [4] (fun i wr => ∃ (k : Nat) (ls : List (SecD × Value × Value)), k ≤ l.length ∧ i = .int .i64 k ∧ Hid (l.take k = ls.map (·.1)) ∧
      Hid (wr.ownsRow w.heap.size 52 6 (.slice (some ⟨w.heap.size, 0, none⟩) l.length l.length) l.length (ls.flatMap secL ++ (List.replicate (l.length - k) ()).flatMap fun _ => [.string ⟨#[]⟩, .int .i64 0, .int .i64 0, .slice none 0 0, .int .i64 0, .slice none 0 0])) ∧
      Hid (∀ x ∈ ls, OwnB wr (w.heap.size + 1) x.2.1 x.1.bytes ∧ OwnF wr (w.heap.size + 1) x.2.2 x.1.fix) ∧ Hid (blksOf ls).Nodup ∧ Hid (From w.heap.size w wr)) (fun i _ => l.length - (intOf i).toNat)
  case atStart => exact ⟨0, [], Nat.zero_le _, rfl, by show _ = _; simp, HO1, (fun x hx => by cases hx), by show List.Nodup _; simp [blksOf], F1⟩
  case round =>
    clear HO1 F1
    obtain ⟨k, ls, hk, rfl, HL, HO, HE, HN, HF⟩ := hrel
    by_cases hlt : k < l.length
    · obtain ⟨b, off, rfl, hc⟩ := HH.out (by omega)
      obtain ⟨vb, vf, hb, hf, c0, c1, c2, c3, c4, c5⟩ := hc k hlt
      have hbl : b < w.heap.size := World.block_lt_of_cell? w _ c0
      have g0 := (HF.out.below.cell (p := ⟨b, off + k * 6, none⟩) hbl).trans c0
      have g1 := (HF.out.below.cell (p := ⟨b, off + k * 6 + 1, none⟩) hbl).trans c1
      have g2 := (HF.out.below.cell (p := ⟨b, off + k * 6 + 2, none⟩) hbl).trans c2
      have g3 := (HF.out.below.cell (p := ⟨b, off + k * 6 + 3, none⟩) hbl).trans c3
      have g4 := (HF.out.below.cell (p := ⟨b, off + k * 6 + 4, none⟩) hbl).trans c4
      have g5 := (HF.out.below.cell (p := ⟨b, off + k * 6 + 5, none⟩) hbl).trans c5
      have HS : Hid (SecAt wr (secV l[k] vb vf) l[k]) := ⟨vb, vf, rfl, hb.below (Nat.le_refl _) HF.out.below, hf.below (Nat.le_refl _) HF.out.below⟩
      have HT : Hid (l.take (k + 1) = ls.map (·.1) ++ [l[k]]) := by show _ = _; rw [List.take_succ_eq_append_getElem hlt, HL.out]
      have HBk := HB.out l[k] (List.getElem_mem hlt)
      have hlen : ls.length = k := by have := congrArg List.length HL.out; simp at this; omega
      clear hc c0 c1 c2 c3 c4 c5 hb hf HL
      generalize l[k] = x at *
      go_wp2_with fail
      refine (toSection_own _ (secV x vb vf) x HS.out HBk.1 HBk.2).mono ?_
      rintro e w2 ⟨vb2, vf2, m, rfl, ob, hm1, of, hm2, h2⟩
      obtain ⟨ra, rc, rfl⟩ := owns_form ob
      obtain ⟨rb, rd, rfl⟩ := owns_form of
      have zr : w.heap.size < wr.heap.size := (HO.out.lt _ rfl).2
      have HF2 := Lib.hid (HF.out.call h2)
      have hown2 := owns_call HO.out h2
      have HO2 := Lib.hid hown2
      have hcells : ∀ j, j < 6 → ∃ u, w2.cell? ⟨w.heap.size, k * 6 + j, none⟩ = some u := fun j hj =>
        ⟨_, (hown2.cellAt (k * 6 + j) (by omega)).trans (List.getElem?_eq_getElem (by rw [hown2.1]; omega))⟩
      obtain ⟨u0, d0⟩ := hcells 0 (by omega)
      rw [Nat.add_zero] at d0
      obtain ⟨u1, d1⟩ := hcells 1 (by omega)
      obtain ⟨u2, d2⟩ := hcells 2 (by omega)
      obtain ⟨u3, d3⟩ := hcells 3 (by omega)
      obtain ⟨u4, d4⟩ := hcells 4 (by omega)
      obtain ⟨u5, d5⟩ := hcells 5 (by omega)
      have f0 := hown2.frozenAt (k * 6)
      have f1 := hown2.frozenAt (k * 6 + 1)
      have f2 := hown2.frozenAt (k * 6 + 2)
      have f3 := hown2.frozenAt (k * 6 + 3)
      have f4 := hown2.frozenAt (k * 6 + 4)
      have f5 := hown2.frozenAt (k * 6 + 5)
      have HN2 : Hid (blksOf (ls ++ [(x, .slice ra x.bytes.length rc, .slice rb x.fix.length rd)])).Nodup :=
        blks_snoc HN.out (fun q hq => by
          obtain ⟨y, hy, hq⟩ := List.mem_flatMap.1 hq
          rcases List.mem_append.1 hq with hq | hq
          · exact ((HE.out y hy).1.lt q (by simpa using hq)).2
          · exact ((HE.out y hy).2.lt q (by simpa using hq)).2) (fun q hq => ⟨(ob.lt q hq).1, hm1 q hq⟩) (fun q hq => (of.lt q hq).1) hm2
      have HE2 : Hid (∀ y ∈ ls ++ [(x, .slice ra x.bytes.length rc, .slice rb x.fix.length rd)], OwnB w2 (w.heap.size + 1) y.2.1 y.1.bytes ∧ OwnF w2 (w.heap.size + 1) y.2.2 y.1.fix) := fun y hy => by
        rcases List.mem_append.1 hy with hy | hy
        · exact ⟨owns_call (HE.out y hy).1 h2, owns_call (HE.out y hy).2 h2⟩
        · obtain rfl := List.mem_singleton.1 hy
          exact ⟨owns_mono ob (by omega), owns_mono of (by omega)⟩
      clear g0 g1 g2 g3 g4 g5 HF HO h2 hown2 hcells ob of hm1 HE HN
      go_wp2_with fail
      go_roundw
      case rel =>
        refine ⟨k + 1, ls ++ [(x, .slice ra x.bytes.length rc, .slice rb x.fix.length rd)], by omega, by go_num, ?_, ?_, ?_, HN2, ?_⟩
        · show _ = _; rw [HT.out]; simp
        · show World.ownsRow _ _ _ _ _ _ _
          have h6 := ((((((HO2.out.stored (k * 6) (.string x.name)).1.stored (k * 6 + 1) (.int .i64 x.kind)).1.stored (k * 6 + 2) (.int .i64 x.align)).1.stored (k * 6 + 3) (.slice ra x.bytes.length rc)).1.stored (k * 6 + 4) (.int .i64 x.size)).1.stored (k * 6 + 5) (.slice rb x.fix.length rd)).1
          rw [show l.length - k = (l.length - (k + 1)) + 1 by omega, List.replicate_succ, List.flatMap_cons] at h6
          have hA : (ls.flatMap secL).length = k * 6 := by rw [flat_length _ _ secL_length, hlen]
          have := set_six (.string x.name) (.int .i64 x.kind) (.int .i64 x.align) (.slice ra x.bytes.length rc) (.int .i64 x.size) (.slice rb x.fix.length rd) (.string ⟨#[]⟩) (.int .i64 0) (.int .i64 0) (.slice none 0 0) (.int .i64 0) (.slice none 0 0) ((List.replicate (l.length - (k + 1)) ()).flatMap fun _ => [.string ⟨#[]⟩, .int .i64 0, .int .i64 0, .slice none 0 0, .int .i64 0, .slice none 0 0]) (ls.flatMap secL)
          rw [hA] at this
          simp only [List.cons_append, List.nil_append] at h6
          rw [this] at h6
          rw [List.flatMap_append, List.append_assoc]
          exact h6
        · intro y hy
          obtain ⟨h7, h8⟩ := HE2.out y hy
          have q : w.heap.size < w.heap.size + 1 := Nat.lt_succ_self _
          exact ⟨ownsRow_setCell_below (ownsRow_setCell_below (ownsRow_setCell_below (ownsRow_setCell_below (ownsRow_setCell_below (ownsRow_setCell_below h7 q _) q _) q _) q _) q _) q _,
            ownsRow_setCell_below (ownsRow_setCell_below (ownsRow_setCell_below (ownsRow_setCell_below (ownsRow_setCell_below (ownsRow_setCell_below h8 q _) q _) q _) q _) q _) q _⟩
        · exact ((((((HF2.out.setCell (Nat.le_refl _) _).setCell (Nat.le_refl _) _).setCell (Nat.le_refl _) _).setCell (Nat.le_refl _) _).setCell (Nat.le_refl _) _).setCell (Nat.le_refl _) _)
      case measure => simp [intOf]; try omega
    · obtain rfl : k = l.length := by omega
      go_wp2_with fail
      go_ret
      have hlen : ls.length = l.length := by have := congrArg List.length HL.out; simp at this; omega
      refine ⟨_, ls, rfl, by rw [← HL.out, List.take_length], ⟨?_, fun x hx => ⟨owns_mono (HE.out x hx).1 (Nat.le_succ _), owns_mono (HE.out x hx).2 (Nat.le_succ _)⟩, ?_⟩, HF.out.below⟩
      · have := HO.out
        rw [Nat.sub_self, List.replicate_zero, List.flatMap_nil, List.append_nil] at this
        rw [hlen]
        exact this
      · refine List.nodup_append.2 ⟨by simp [Value.ownBlock], HN.out, fun a ha c hc e => ?_⟩
        simp [Value.ownBlock] at ha
        obtain ⟨y, hy, hq⟩ := List.mem_flatMap.1 hc
        rcases List.mem_append.1 hq with hq | hq
        · have := ((HE.out y hy).1.lt c (by simpa using hq)).1; omega
        · have := ((HE.out y hy).2.lt c (by simpa using hq)).1; omega
/-! SecVal -/
open Go.ChangeShapes Go.WideShapes Go.ChangeAt Go.RowKit Go.Joins
set_option linter.unusedSimpArgs false
set_option linter.unusedVariables false
set_option maxRecDepth 100000

/-- Whether a fixup fits behind 'fin'. -/
def fixB (many bl fin : Int) (f : FixD) : Bool := (fixupWide f.2.1 != 0) && decide (0 ≤ f.2.2.1) && decide (f.2.2.1 < many) && withinB f.2.2.2 (-1000) 1000 && withinB f.1 fin (bl - fixupWide f.2.1)
def fixesB (many bl : Int) : Int → List FixD → Bool
  | _, [] => true
  | fin, f :: r => fixB many bl fin f && fixesB many bl (f.1 + fixupWide f.2.1) r
/-- Whether a section is valid. -/
def secB (s : SecD) (many : Int) : Bool :=
  nameB s.name && withinB s.kind 1 3 && alignB s.align &&
    (if s.kind = 3 then withinB s.size 0 48 && decide (s.bytes.length = 0) && decide (s.fix.length = 0)
     else decide (s.size = 0) && decide (s.bytes.length ≤ 48) && decide (s.fix.length ≤ 6) && fixesB many s.bytes.length 0 s.fix)
theorem fixupWide_range (k : Int) : 0 ≤ fixupWide k ∧ fixupWide k ≤ 4 := by
  unfold fixupWide
  split
  · omega
  split
  · omega
  split <;> omega
theorem isAdd_any (n : Int) (w : World) :
    Calls Try.prog 82 #[.int .i64 n] w fun e w' => e = .returned (.bool (withinB n (-1000) 1000)) ∧ w = w' := by
  go_enter Try.func82, Try.ntmps82
  go_wp2_with (first | (go_at_call 58; (with_reducible refine (within_any _ _ _ _).mono ?_); rintro e w' ⟨rfl, rfl⟩))
  go_ret
  exact ⟨rfl, rfl⟩
set_option maxHeartbeats 1000000 in
theorem i_SectionValid (w : World) (v : Value) (s : SecD) (h : SecAt w v s) (hs : s.name.size ≤ maxLen) (many : Int) :
    Calls Try.prog 53 #[v, .int .i64 many] w fun e w' => e = .returned (.bool (secB s many)) ∧ Below w.heap.size w w' := by
  obtain ⟨vb, vf, rfl, hb, hf⟩ := h
  obtain ⟨ab, capb, rfl, hcapb, hmaxb, hn1, hn2⟩ := hb.form
  obtain ⟨af, capf, rfl, hcapf, hmaxf, hn3, hc⟩ := hf.form
  have HC := Lib.hid hc
  clear hb hf hc hn1 hn2 hn3
  have hs' := Lib.hid hs
  unfold maxLen at hmaxb hmaxf
  cases h1 : nameB s.name
  · have E : Hid (secB s many = false) := by show _ = _; simp [secB, h1]
    go_enter Try.func53, Try.ntmps53
    go_wp2_with (first | (go_at_call 80; (with_reducible refine (i_NameValid _ hs'.out _).mono ?_); rintro e w' ⟨rfl, rfl⟩) | (go_at_call 58; (with_reducible refine (within_any _ _ _ _).mono ?_); rintro e w' ⟨rfl, rfl⟩) | (go_at_call 68; (with_reducible refine (isAlign_any _ _).mono ?_); rintro e w' ⟨rfl, rfl⟩))
    go_ret
    exact ⟨by rw [E.out]; try rfl, ((From.start w).alloc _).below⟩
  cases h2 : withinB s.kind 1 3
  · have E : Hid (secB s many = false) := by show _ = _; simp [secB, h2]
    go_enter Try.func53, Try.ntmps53
    go_wp2_with (first | (go_at_call 80; (with_reducible refine (i_NameValid _ hs'.out _).mono ?_); rintro e w' ⟨rfl, rfl⟩) | (go_at_call 58; (with_reducible refine (within_any _ _ _ _).mono ?_); rintro e w' ⟨rfl, rfl⟩) | (go_at_call 68; (with_reducible refine (isAlign_any _ _).mono ?_); rintro e w' ⟨rfl, rfl⟩))
    go_ret
    exact ⟨by rw [E.out]; try rfl, ((From.start w).alloc _).below⟩
  cases h3 : alignB s.align
  · have E : Hid (secB s many = false) := by show _ = _; simp [secB, h3]
    go_enter Try.func53, Try.ntmps53
    go_wp2_with (first | (go_at_call 80; (with_reducible refine (i_NameValid _ hs'.out _).mono ?_); rintro e w' ⟨rfl, rfl⟩) | (go_at_call 58; (with_reducible refine (within_any _ _ _ _).mono ?_); rintro e w' ⟨rfl, rfl⟩) | (go_at_call 68; (with_reducible refine (isAlign_any _ _).mono ?_); rintro e w' ⟨rfl, rfl⟩))
    go_ret
    exact ⟨by rw [E.out]; try rfl, ((From.start w).alloc _).below⟩
  by_cases hk : s.kind = 3
  · have e1 : (s.kind == 3) = true := by simpa using hk
    cases h4 : withinB s.size 0 48
    · have E : Hid (secB s many = false) := by show _ = _; simp [secB, hk, h4]
      clear hk
      go_enter Try.func53, Try.ntmps53
      go_wp2_with (first | (go_at_call 80; (with_reducible refine (i_NameValid _ hs'.out _).mono ?_); rintro e w' ⟨rfl, rfl⟩) | (go_at_call 58; (with_reducible refine (within_any _ _ _ _).mono ?_); rintro e w' ⟨rfl, rfl⟩) | (go_at_call 68; (with_reducible refine (isAlign_any _ _).mono ?_); rintro e w' ⟨rfl, rfl⟩))
      go_ret
      exact ⟨by rw [E.out]; try rfl, ((From.start w).alloc _).below⟩
    have E : Hid (secB s many = (((s.bytes.length : Int) == 0) && ((s.fix.length : Int) == 0))) := by
      show _ = _
      unfold secB
      rw [if_pos hk, h1, h2, h3, h4]
      cases hb : s.bytes <;> cases hf : s.fix <;> simp <;> omega
    clear hk
    cases h5 : ((s.bytes.length : Int) == 0)
    · go_enter Try.func53, Try.ntmps53
      go_wp2_with (first | (go_at_call 80; (with_reducible refine (i_NameValid _ hs'.out _).mono ?_); rintro e w' ⟨rfl, rfl⟩) | (go_at_call 58; (with_reducible refine (within_any _ _ _ _).mono ?_); rintro e w' ⟨rfl, rfl⟩) | (go_at_call 68; (with_reducible refine (isAlign_any _ _).mono ?_); rintro e w' ⟨rfl, rfl⟩))
      go_ret
      exact ⟨by rw [E.out, h5]; try rfl, ((From.start w).alloc _).below⟩
    · go_enter Try.func53, Try.ntmps53
      go_wp2_with (first | (go_at_call 80; (with_reducible refine (i_NameValid _ hs'.out _).mono ?_); rintro e w' ⟨rfl, rfl⟩) | (go_at_call 58; (with_reducible refine (within_any _ _ _ _).mono ?_); rintro e w' ⟨rfl, rfl⟩) | (go_at_call 68; (with_reducible refine (isAlign_any _ _).mono ?_); rintro e w' ⟨rfl, rfl⟩))
      go_ret
      exact ⟨by rw [E.out, h5]; try rfl, ((From.start w).alloc _).below⟩
  · have e1 : (s.kind == 3) = false := by simpa using hk
    have E0 : secB s many = (decide (s.size = 0) && decide (s.bytes.length ≤ 48) && decide (s.fix.length ≤ 6) && fixesB many s.bytes.length 0 s.fix) := by
      unfold secB
      rw [if_neg hk, h1, h2, h3]
      simp
    clear hk
    by_cases h4 : s.size = 0
    case neg =>
      have e4 : (s.size != 0) = true := by simpa using h4
      have E : Hid (secB s many = false) := by show _ = _; rw [E0]; simp [h4]
      clear h4 E0
      go_enter Try.func53, Try.ntmps53
      go_wp2_with (first | (go_at_call 80; (with_reducible refine (i_NameValid _ hs'.out _).mono ?_); rintro e w' ⟨rfl, rfl⟩) | (go_at_call 58; (with_reducible refine (within_any _ _ _ _).mono ?_); rintro e w' ⟨rfl, rfl⟩) | (go_at_call 68; (with_reducible refine (isAlign_any _ _).mono ?_); rintro e w' ⟨rfl, rfl⟩))
      go_ret
      exact ⟨by rw [E.out]; try rfl, ((From.start w).alloc _).below⟩
    have e4 : (s.size != 0) = false := by simpa using h4
    by_cases h5 : s.bytes.length ≤ 48
    case neg =>
      have e5 : (48 : Int) < (s.bytes.length : Int) := by omega
      have E : Hid (secB s many = false) := by show _ = _; rw [E0]; simp [h5]
      clear h4 E0 h5
      go_enter Try.func53, Try.ntmps53
      go_wp2_with (first | (go_at_call 80; (with_reducible refine (i_NameValid _ hs'.out _).mono ?_); rintro e w' ⟨rfl, rfl⟩) | (go_at_call 58; (with_reducible refine (within_any _ _ _ _).mono ?_); rintro e w' ⟨rfl, rfl⟩) | (go_at_call 68; (with_reducible refine (isAlign_any _ _).mono ?_); rintro e w' ⟨rfl, rfl⟩))
      go_ret
      exact ⟨by rw [E.out]; try rfl, ((From.start w).alloc _).below⟩
    have e5 : ¬ (48 : Int) < (s.bytes.length : Int) := by omega
    by_cases h6 : s.fix.length ≤ 6
    case neg =>
      have e6 : (6 : Int) < (s.fix.length : Int) := by omega
      have E : Hid (secB s many = false) := by show _ = _; rw [E0]; simp [h6]
      clear h4 E0 h6
      go_enter Try.func53, Try.ntmps53
      go_wp2_with (first | (go_at_call 80; (with_reducible refine (i_NameValid _ hs'.out _).mono ?_); rintro e w' ⟨rfl, rfl⟩) | (go_at_call 58; (with_reducible refine (within_any _ _ _ _).mono ?_); rintro e w' ⟨rfl, rfl⟩) | (go_at_call 68; (with_reducible refine (isAlign_any _ _).mono ?_); rintro e w' ⟨rfl, rfl⟩))
      go_ret
      exact ⟨by rw [E.out]; try rfl, ((From.start w).alloc _).below⟩
    have e6 : ¬ (6 : Int) < (s.fix.length : Int) := by omega
    have E : Hid (secB s many = fixesB many s.bytes.length 0 s.fix) := by show _ = _; rw [E0]; simp [h4, h5, h6]
    clear h4 E0
    go_enter Try.func53, Try.ntmps53
    go_wp2_with (first | (go_at_call 80; (with_reducible refine (i_NameValid _ hs'.out _).mono ?_); rintro e w' ⟨rfl, rfl⟩) | (go_at_call 58; (with_reducible refine (within_any _ _ _ _).mono ?_); rintro e w' ⟨rfl, rfl⟩) | (go_at_call 68; (with_reducible refine (isAlign_any _ _).mono ?_); rintro e w' ⟨rfl, rfl⟩))
    clear h1 h2 h3 e1 e4 e5 e6 hs
    go_loopw [5, 61] (fun fv i wr => ∃ (k : Nat) (fin : Int), k ≤ s.fix.length ∧ i = .int .i64 k ∧ fv = .int .i64 fin ∧ 0 ≤ fin ∧ fin ≤ 48 ∧ Hid (secB s many = fixesB many s.bytes.length fin (s.fix.drop k)) ∧
      Hid (Blk wr w.heap.size #[.string s.name, .int .i64 s.kind, .int .i64 s.align, .slice ab s.bytes.length capb, .int .i64 s.size, .slice af s.fix.length capf] 52) ∧ Hid (From w.heap.size w wr)) (fun _ i _ => s.fix.length - (intOf i).toNat)
    case atStart => exact ⟨0, 0, Nat.zero_le _, rfl, rfl, by omega, by omega, E, Blk.newAt w _ _ w.heap.size rfl, (From.start w).alloc _⟩
    case round =>
      clear E
      obtain ⟨k, fin, hk, rfl, rfl, hf0, hf1, HE, HB, HF⟩ := hrel
      have cb := HB.out.cell
      have zb := HB.out.lt
      by_cases hlt : k < s.fix.length
      · obtain ⟨b, off, rfl, hc⟩ := HC.out (by omega)
        obtain ⟨c0, c1, c2, c3⟩ := hc k hlt
        have hb : b < w.heap.size := World.block_lt_of_cell? w _ c0
        have g0 : wr.cell? ⟨b, off + k * 4, none⟩ = some (.int .i64 s.fix[k].1) := (HF.out.below.cell (p := ⟨b, off + k * 4, none⟩) hb).trans c0
        have g1 : wr.cell? ⟨b, off + k * 4 + 1, none⟩ = some (.int .i64 s.fix[k].2.1) := (HF.out.below.cell (p := ⟨b, off + k * 4 + 1, none⟩) hb).trans c1
        have g2 : wr.cell? ⟨b, off + k * 4 + 2, none⟩ = some (.int .i64 s.fix[k].2.2.1) := (HF.out.below.cell (p := ⟨b, off + k * 4 + 2, none⟩) hb).trans c2
        have g3 : wr.cell? ⟨b, off + k * 4 + 3, none⟩ = some (.int .i64 s.fix[k].2.2.2) := (HF.out.below.cell (p := ⟨b, off + k * 4 + 3, none⟩) hb).trans c3
        have HR : Hid (fixesB many s.bytes.length fin (s.fix.drop k) = (fixB many s.bytes.length fin s.fix[k] && fixesB many s.bytes.length (s.fix[k].1 + fixupWide s.fix[k].2.1) (s.fix.drop (k + 1)))) := by
          show _ = _
          rw [List.drop_eq_getElem_cons hlt]; rfl
        obtain ⟨q0, q1⟩ := fixupWide_range s.fix[k].2.1
        clear hc c0 c1 c2 c3 hb
        generalize s.fix[k] = f at *
        obtain ⟨f0, f1, f2, f3⟩ := f
        dsimp only at *
        have HW0 : ∃ W, fixupWide f1 = W := ⟨_, rfl⟩
        obtain ⟨W, hW⟩ := HW0
        have hwf : ∀ wx : World, Calls Try.prog 81 #[.int .i64 f1] wx fun e w' => e = .returned (.int .i64 W) ∧ wx = w' := by
          intro wx; rw [← hW]; exact fixupWide_any f1 wx
        rw [hW] at q0 q1
        have HW := Lib.hid hW
        clear hW
        by_cases z0 : W = 0
        · have e0 : (W == 0) = true := by simpa using z0
          have EB : Hid (secB s many = false) := by show _ = _; rw [HE.out, HR.out]; simp [fixB, HW.out, z0]
          clear HE HR HW z0
          go_wp2_with (first | (go_at_call 81; (with_reducible refine (hwf _).mono ?_); rintro e w' ⟨rfl, rfl⟩) | (go_at_call 82; (with_reducible refine (isAdd_any _ _).mono ?_); rintro e w' ⟨rfl, rfl⟩) | (go_at_call 58; (with_reducible refine (within_any _ _ _ _).mono ?_); rintro e w' ⟨rfl, rfl⟩))
          all_goals first
            | (exfalso; omega)
            | (go_ret; exact ⟨by rw [EB.out]; try rfl, (HF.out.alloc _).below⟩)
        have e0 : (W == 0) = false := by simpa using z0
        by_cases z1 : f2 < 0
        · have z1' : ¬ 0 ≤ f2 := by omega
          have EB : Hid (secB s many = false) := by show _ = _; rw [HE.out, HR.out]; simp [fixB, HW.out, z1']
          clear HE HR HW z1' z0
          go_wp2_with (first | (go_at_call 81; (with_reducible refine (hwf _).mono ?_); rintro e w' ⟨rfl, rfl⟩) | (go_at_call 82; (with_reducible refine (isAdd_any _ _).mono ?_); rintro e w' ⟨rfl, rfl⟩) | (go_at_call 58; (with_reducible refine (within_any _ _ _ _).mono ?_); rintro e w' ⟨rfl, rfl⟩))
          all_goals first
            | (exfalso; omega)
            | (go_ret; exact ⟨by rw [EB.out]; try rfl, (HF.out.alloc _).below⟩)
        by_cases z2 : many ≤ f2
        · have z2' : ¬ f2 < many := by omega
          have EB : Hid (secB s many = false) := by show _ = _; rw [HE.out, HR.out]; simp [fixB, HW.out, z2']
          clear HE HR HW z2' z0
          go_wp2_with (first | (go_at_call 81; (with_reducible refine (hwf _).mono ?_); rintro e w' ⟨rfl, rfl⟩) | (go_at_call 82; (with_reducible refine (isAdd_any _ _).mono ?_); rintro e w' ⟨rfl, rfl⟩) | (go_at_call 58; (with_reducible refine (within_any _ _ _ _).mono ?_); rintro e w' ⟨rfl, rfl⟩))
          all_goals first
            | (exfalso; omega)
            | (go_ret; exact ⟨by rw [EB.out]; try rfl, (HF.out.alloc _).below⟩)
        cases z3 : withinB f3 (-1000) 1000
        · have z4 : True := trivial
          have EB : Hid (secB s many = false) := by show _ = _; rw [HE.out, HR.out]; simp [fixB, HW.out, z3]
          clear HE HR HW z4 z0
          go_wp2_with (first | (go_at_call 81; (with_reducible refine (hwf _).mono ?_); rintro e w' ⟨rfl, rfl⟩) | (go_at_call 82; (with_reducible refine (isAdd_any _ _).mono ?_); rintro e w' ⟨rfl, rfl⟩) | (go_at_call 58; (with_reducible refine (within_any _ _ _ _).mono ?_); rintro e w' ⟨rfl, rfl⟩))
          all_goals first
            | (exfalso; omega)
            | (go_ret; exact ⟨by rw [EB.out]; try rfl, (HF.out.alloc _).below⟩)
        cases z4 : withinB f0 fin ((s.bytes.length : Int) - W)
        · have z5 : True := trivial
          have EB : Hid (secB s many = false) := by show _ = _; rw [HE.out, HR.out]; simp [fixB, HW.out, z4]
          clear HE HR HW z5 z0
          go_wp2_with (first | (go_at_call 81; (with_reducible refine (hwf _).mono ?_); rintro e w' ⟨rfl, rfl⟩) | (go_at_call 82; (with_reducible refine (isAdd_any _ _).mono ?_); rintro e w' ⟨rfl, rfl⟩) | (go_at_call 58; (with_reducible refine (within_any _ _ _ _).mono ?_); rintro e w' ⟨rfl, rfl⟩))
          all_goals first
            | (exfalso; omega)
            | (go_ret; exact ⟨by rw [EB.out]; try rfl, (HF.out.alloc _).below⟩)
        have hh := (withinB_iff _ _ _).1 z4
        have EG : Hid (secB s many = fixesB many s.bytes.length (f0 + W) (s.fix.drop (k + 1))) := by
          show _ = _; rw [HE.out, HR.out]; simp [fixB, HW.out, z0, z3, z4, show 0 ≤ f2 by omega, show f2 < many by omega]
        obtain ⟨hh1, hh2⟩ := hh
        clear HE HR HW z0
        go_wp2_with (first | (go_at_call 81; (with_reducible refine (hwf _).mono ?_); rintro e w' ⟨rfl, rfl⟩) | (go_at_call 82; (with_reducible refine (isAdd_any _ _).mono ?_); rintro e w' ⟨rfl, rfl⟩) | (go_at_call 58; (with_reducible refine (within_any _ _ _ _).mono ?_); rintro e w' ⟨rfl, rfl⟩))
        go_roundw
        case rel => exact ⟨k + 1, f0 + W, by omega, by go_num, by go_num, by omega, by omega, EG, HB.out.alloc _, HF.out.alloc _⟩
        case measure => simp [intOf]; try omega
      · obtain rfl : k = s.fix.length := by omega
        have EG : Hid (secB s many = true) := by show _ = _; rw [HE.out, List.drop_length]; rfl
        go_wp2_with fail
        go_ret
        exact ⟨by rw [EG.out]; try rfl, HF.out.below⟩
end Go.Proofs.Ytkefbhidfbnipaa
