/- Fixups: lists of them, copied and compared. -/
import Derived.Test.YthccjimckjecjaaBytes
import Derived.StillTailTactics
namespace Go.Proofs.Ythccjimckjecjaa
open Go.ChangeShapes Go.WideShapes Go.ChangeAt Go.RowKit Go.Joins
set_option linter.unusedSimpArgs false
set_option linter.unusedVariables false
set_option maxRecDepth 100000

theorem owns_mono {w : World} {base base' : Nat} {e : TypeId} {size : Nat} {v : Value} {n : Nat} {xs : List Value} (h : w.ownsRow base e size v n xs) (hb : base' ≤ base) : w.ownsRow base' e size v n xs := by
  refine ⟨h.1, ?_⟩
  rcases h.2 with h2 | ⟨g, cap, cur, hv, hg, r⟩
  · exact .inl h2
  · exact .inr ⟨g, cap, cur, hv, Nat.le_trans hb hg, r⟩
theorem Blk.newAt (w : World) (c : Array Value) (t : TypeId) (g : Nat) (hg : g = w.heap.size) : Blk (w.alloc (.cells c t)) g c t := by
  subst hg; exact Blk.new w c t
/-- A fixup: At, Kind, To, Add. -/
abbrev FixD := Int × Int × Int × Int
@[reducible] def fixV (f : FixD) : Value := .agg #[.int .i64 f.1, .int .i64 f.2.1, .int .i64 f.2.2.1, .int .i64 f.2.2.2]
def fixCells : List FixD → List Value
  | [] => []
  | f :: r => .int .i64 f.1 :: .int .i64 f.2.1 :: .int .i64 f.2.2.1 :: .int .i64 f.2.2.2 :: fixCells r
theorem fixCells_length : ∀ l, (fixCells l).length = l.length * 4
  | [] => rfl
  | f :: r => by simp only [fixCells, List.length_cons, fixCells_length r]; omega
theorem fixCells_append : ∀ l k, fixCells (l ++ k) = fixCells l ++ fixCells k
  | [], _ => rfl
  | f :: r, k => by simp [fixCells, fixCells_append r k]
theorem fixCells_one : ∀ l, ∀ u ∈ fixCells l, u.oneCell' = true
  | [], u, h => by cases h
  | f :: r, u, h => by
    simp only [fixCells, List.mem_cons] at h
    rcases h with rfl | rfl | rfl | rfl | h
    · rfl
    · rfl
    · rfl
    · rfl
    · exact fixCells_one r u h
theorem fixCells_get (l : List FixD) (j : Nat) (hj : j < l.length) :
    (fixCells l)[j * 4]? = some (.int .i64 l[j].1) ∧ (fixCells l)[j * 4 + 1]? = some (.int .i64 l[j].2.1) ∧ (fixCells l)[j * 4 + 2]? = some (.int .i64 l[j].2.2.1) ∧ (fixCells l)[j * 4 + 3]? = some (.int .i64 l[j].2.2.2) := by
  have e : l = l.take j ++ (l[j] :: l.drop (j + 1)) := by rw [← List.drop_eq_getElem_cons hj, List.take_append_drop]
  have hl : (fixCells (l.take j)).length = j * 4 := by rw [fixCells_length, List.length_take]; congr 1; omega
  have e2 : fixCells l = fixCells (l.take j) ++ (.int .i64 l[j].1 :: .int .i64 l[j].2.1 :: .int .i64 l[j].2.2.1 :: .int .i64 l[j].2.2.2 :: fixCells (l.drop (j + 1))) := by
    have := congrArg fixCells e
    rw [fixCells_append] at this
    exact this
  rw [e2]
  refine ⟨?_, ?_, ?_, ?_⟩
  · rw [List.getElem?_append_right (by omega), hl, Nat.sub_self]; rfl
  · rw [List.getElem?_append_right (by omega), hl, show j * 4 + 1 - j * 4 = 1 by omega]; rfl
  · rw [List.getElem?_append_right (by omega), hl, show j * 4 + 2 - j * 4 = 2 by omega]; rfl
  · rw [List.getElem?_append_right (by omega), hl, show j * 4 + 3 - j * 4 = 3 by omega]; rfl

/-- A slice of fixups. -/
def FixAt (w : World) (v : Value) (l : List FixD) : Prop := Reads w 4 v l.length (fixCells l)
theorem FixAt.below {w w' : World} {v : Value} {l : List FixD} {B : Nat} (h : FixAt w v l) (hB : w.heap.size ≤ B) (hb : Below B w w') : FixAt w' v l := Reads.below h hB hb
theorem FixAt.form {w : World} {v : Value} {l : List FixD} (h : FixAt w v l) :
    ∃ (a : Option Addr) (cap : Nat), v = .slice a l.length cap ∧ l.length ≤ cap ∧ cap ≤ maxLen ∧ (a = none → cap = 0) ∧
      (0 < l.length → ∃ b off, a = some ⟨b, off, none⟩ ∧ ∀ j (hj : j < l.length), w.cell? ⟨b, off + j * 4, none⟩ = some (.int .i64 l[j].1) ∧ w.cell? ⟨b, off + j * 4 + 1, none⟩ = some (.int .i64 l[j].2.1) ∧
        w.cell? ⟨b, off + j * 4 + 2, none⟩ = some (.int .i64 l[j].2.2.1) ∧ w.cell? ⟨b, off + j * 4 + 3, none⟩ = some (.int .i64 l[j].2.2.2)) := by
  obtain ⟨_, a, cap, rfl, h2, h3, h4, h5⟩ := h
  refine ⟨a, cap, rfl, h2, h3, h4, fun hn => ?_⟩
  obtain ⟨b, off, rfl, hc⟩ := h5 hn
  refine ⟨b, off, rfl, fun j hj => ?_⟩
  obtain ⟨g0, g1, g2, g3⟩ := fixCells_get l j hj
  exact ⟨hc _ _ g0, by have := hc _ _ g1; rw [← Nat.add_assoc] at this; exact this, by have := hc _ _ g2; rw [← Nat.add_assoc] at this; exact this, by have := hc _ _ g3; rw [← Nat.add_assoc] at this; exact this⟩
/-- Fixups that the call owns. -/
def OwnF (w : World) (base : Nat) (v : Value) (l : List FixD) : Prop := w.ownsRow base 80 4 v l.length (fixCells l)
theorem OwnF.reads {w : World} {base : Nat} {v : Value} {l : List FixD} (h : OwnF w base v l) : FixAt w v l := reads_of_owns h
theorem info_fix : (Try.prog.info? 80).map (fun i => (i.zero, i.size, i.bytes)) = some (some (.agg #[.int .i64 0, .int .i64 0, .int .i64 0, .int .i64 0]), 4, 32) := by kernel_rfl
theorem toList_made4 (z : Value) (n : Nat) : (madeCells #[z, z, z, z] n).toList = List.replicate n z := by
  apply List.ext_getElem
  · simp [madeCells]
  · intro i h1 h2
    have hm : i % 4 = 0 ∨ i % 4 = 1 ∨ i % 4 = 2 ∨ i % 4 = 3 := by omega
    rcases hm with e | e | e | e <;> simp [madeCells, e]
theorem set_four (A : List Value) (z a b c d : Value) (n m k : Nat) (hA : A.length = n) (hk : k = 4 * (m + 1)) :
    ((((A ++ List.replicate k z).set n a).set (n + 1) b).set (n + 2) c).set (n + 3) d = A ++ a :: b :: c :: d :: List.replicate (4 * m) z := by
  subst hA hk
  rw [show 4 * (m + 1) = 4 * m + 1 + 1 + 1 + 1 by omega]
  simp only [List.replicate_succ]
  rw [List.set_append, if_neg (by omega), Nat.sub_self, List.set_cons_zero]
  rw [List.set_append, if_neg (by omega), show A.length + 1 - A.length = 1 by omega, List.set_cons_succ, List.set_cons_zero]
  rw [List.set_append, if_neg (by omega), show A.length + 2 - A.length = 2 by omega, List.set_cons_succ, List.set_cons_succ, List.set_cons_zero]
  rw [List.set_append, if_neg (by omega), show A.length + 3 - A.length = 3 by omega, List.set_cons_succ, List.set_cons_succ, List.set_cons_succ, List.set_cons_zero]

set_option maxHeartbeats 800000 in
theorem toFixup_any (f : FixD) (w : World) :
    Calls Try.prog 179 #[fixV f] w fun e w' => e = .returned (fixV f) ∧ Below w.heap.size w w' := by
  go_enter Try.func179, Try.ntmps179
  go_wp2
  refine bodyPost_ret (v := fixV f) (by simp [results, Try.results179, go_sem]) rfl ⟨rfl, ?_⟩
  repeat first | exact Below.refl _ _ | (refine Below.setCell ?_ (by first | (simp; done) | (simp; omega)) _) | (refine Below.alloc ?_ (by first | (simp; done) | (simp; omega)) _)

/-- What a function ends in that hands back fixups of its own. -/
def RetF (w : World) (l : List FixD) (e : Ending) (w' : World) : Prop := ∃ r, e = .returned r ∧ OwnF w' w.heap.size r l ∧ Below w.heap.size w w'
set_option maxHeartbeats 1000000 in
theorem toFixupS_any (w : World) (v : Value) (l : List FixD) (h : FixAt w v l) (hl : l.length ≤ 1073741824) :
    Calls Try.prog 167 #[v] w (RetF w l) := by
  obtain ⟨a, cap, rfl, hcap, hmax, hnone, hcell⟩ := h.form
  obtain ⟨i0, hi, hz0, hz1, hz2⟩ := info_parts info_fix
  have HH := Lib.hid hcell
  clear h hcell hnone
  go_enter Try.func167, Try.ntmps167
  go_wp2_with (at_make; refine wpList_make_full _ rfl _ _ 67 rfl w.heap.size 80 i0 _ 4 Try.underlying67 hi hz0 hz1 _ _ _ _ l.length rfl rfl rfl rfl ?c1 ?c2 ?c3 ?_)
  case c1 => rw [hz2]; omega
  case c2 => unfold maxLen; omega
  case c3 => exact Nat.le_refl _
  intro w1 hown hgr
  have F1 := (From.start w).grown hgr (fun k h => by cases h)
  have HO1 : Hid (w1.ownsRow w.heap.size 80 4 (.slice (some ⟨w.heap.size, 0, none⟩) l.length l.length) l.length (fixCells (l.take 0) ++ List.replicate (4 * (l.length - 0)) (Value.int .i64 0))) := Lib.hid (by
    have := hown
    rw [toList_made4] at this
    simpa [fixCells, Nat.mul_comm] using this)
  clear hgr hown
  go_wp2_with fail
  go_loopw [4] (fun i wr => ∃ k : Nat, k ≤ l.length ∧ i = .int .i64 k ∧
      Hid (wr.ownsRow w.heap.size 80 4 (.slice (some ⟨w.heap.size, 0, none⟩) l.length l.length) l.length (fixCells (l.take k) ++ List.replicate (4 * (l.length - k)) (Value.int .i64 0))) ∧ Hid (From w.heap.size w wr)) (fun i _ => l.length - (intOf i).toNat)
  case atStart => exact ⟨0, Nat.zero_le _, rfl, HO1, F1⟩
  case round =>
    clear HO1 F1
    obtain ⟨k, hk, rfl, HO, HF⟩ := hrel
    by_cases hlt : k < l.length
    · obtain ⟨b, off, rfl, hc⟩ := HH.out (by omega)
      obtain ⟨c0, c1, c2, c3⟩ := hc k hlt
      have hb : b < w.heap.size := World.block_lt_of_cell? w _ c0
      have g0 : wr.cell? ⟨b, off + k * 4, none⟩ = some (.int .i64 l[k].1) := (HF.out.below.cell (p := ⟨b, off + k * 4, none⟩) hb).trans c0
      have g1 : wr.cell? ⟨b, off + k * 4 + 1, none⟩ = some (.int .i64 l[k].2.1) := (HF.out.below.cell (p := ⟨b, off + k * 4 + 1, none⟩) hb).trans c1
      have g2 : wr.cell? ⟨b, off + k * 4 + 2, none⟩ = some (.int .i64 l[k].2.2.1) := (HF.out.below.cell (p := ⟨b, off + k * 4 + 2, none⟩) hb).trans c2
      have g3 : wr.cell? ⟨b, off + k * 4 + 3, none⟩ = some (.int .i64 l[k].2.2.2) := (HF.out.below.cell (p := ⟨b, off + k * 4 + 3, none⟩) hb).trans c3
      clear hc c0 c1 c2 c3
      go_wp2_with fail
      refine (toFixup_any l[k] _).mono ?_
      rintro e w2 ⟨rfl, h2⟩
      have HF2 := Lib.hid (HF.out.call h2)
      have hown2 := owns_call HO.out h2
      have HO2 := Lib.hid hown2
      have hcells : ∀ j, j < 4 → ∃ u, w2.cell? ⟨w.heap.size, k * 4 + j, none⟩ = some u := fun j hj =>
        ⟨_, (hown2.cellAt (k * 4 + j) (by omega)).trans (List.getElem?_eq_getElem (by rw [hown2.1]; omega))⟩
      obtain ⟨u0, d0⟩ := hcells 0 (by omega)
      rw [Nat.add_zero] at d0
      obtain ⟨u1, d1⟩ := hcells 1 (by omega)
      obtain ⟨u2, d2⟩ := hcells 2 (by omega)
      obtain ⟨u3, d3⟩ := hcells 3 (by omega)
      have f0 := hown2.frozenAt (k * 4)
      have f1 := hown2.frozenAt (k * 4 + 1)
      have f2 := hown2.frozenAt (k * 4 + 2)
      have f3 := hown2.frozenAt (k * 4 + 3)
      clear g0 g1 g2 g3 HF HO h2 hown2 hcells
      go_wp2_with fail
      go_roundw
      case rel =>
        refine ⟨k + 1, by omega, by go_num, ?_, ?_⟩
        · show World.ownsRow _ _ _ _ _ _ _
          have h4 := ((((HO2.out.stored (k * 4) (.int .i64 l[k].1)).1.stored (k * 4 + 1) (.int .i64 l[k].2.1)).1.stored (k * 4 + 2) (.int .i64 l[k].2.2.1)).1.stored (k * 4 + 3) (.int .i64 l[k].2.2.2)).1
          rw [set_four _ _ _ _ _ _ (k * 4) (l.length - (k + 1)) _ (by rw [fixCells_length, List.length_take]; congr 1; omega) (by omega)] at h4
          rw [List.take_succ_eq_append_getElem hlt, fixCells_append, List.append_assoc]
          exact h4
        · exact ((((HF2.out.setCell (Nat.le_refl _) _).setCell (Nat.le_refl _) _).setCell (Nat.le_refl _) _).setCell (Nat.le_refl _) _)
      case measure => simp [intOf]; try omega
    · obtain rfl : k = l.length := by omega
      go_wp2_with fail
      go_ret
      refine ⟨_, rfl, ?_, HF.out.below⟩
      have := HO.out
      rw [Nat.sub_self, List.take_length] at this
      simpa [OwnF] using this
set_option maxHeartbeats 800000 in
theorem eqFixup_same (f : FixD) (w : World) :
    Calls Try.prog 180 #[fixV f, fixV f] w fun e w' => e = .returned (.bool true) ∧ Below w.heap.size w w' := by
  go_enter Try.func180, Try.ntmps180
  go_wp2
  go_ret
  exact ⟨rfl, (((From.start w).alloc _).alloc _).below⟩

set_option maxHeartbeats 1000000 in
theorem eqFixupS_same (w : World) (v1 v2 : Value) (l : List FixD) (h1 : FixAt w v1 l) (h2 : FixAt w v2 l) :
    Calls Try.prog 169 #[v1, v2] w fun e w' => e = .returned (.bool true) ∧ Below w.heap.size w w' := by
  obtain ⟨a1, cap1, rfl, hcap1, hmax1, hnone1, hcell1⟩ := h1.form
  obtain ⟨a2, cap2, rfl, hcap2, hmax2, hnone2, hcell2⟩ := h2.form
  have H1 := Lib.hid hcell1
  have H2 := Lib.hid hcell2
  clear h1 h2 hcell1 hcell2 hnone1 hnone2
  unfold maxLen at hmax1 hmax2
  go_enter Try.func169, Try.ntmps169
  go_wp2_with fail
  go_loopw [5] (fun i wr => ∃ k : Nat, k ≤ l.length ∧ i = .int .i64 k ∧ Hid (From w.heap.size w wr)) (fun i _ => l.length - (intOf i).toNat)
  case atStart => exact ⟨0, Nat.zero_le _, rfl, From.start w⟩
  case round =>
    obtain ⟨k, hk, rfl, HF⟩ := hrel
    by_cases hlt : k < l.length
    · obtain ⟨b1, off1, rfl, hc1⟩ := H1.out (by omega)
      obtain ⟨b2, off2, rfl, hc2⟩ := H2.out (by omega)
      obtain ⟨c0, c1, c2, c3⟩ := hc1 k hlt
      obtain ⟨e0, e1, e2, e3⟩ := hc2 k hlt
      have hb1 : b1 < w.heap.size := World.block_lt_of_cell? w _ c0
      have hb2 : b2 < w.heap.size := World.block_lt_of_cell? w _ e0
      have g0 : wr.cell? ⟨b1, off1 + k * 4, none⟩ = some (.int .i64 l[k].1) := (HF.out.below.cell (p := ⟨b1, off1 + k * 4, none⟩) hb1).trans c0
      have g1 : wr.cell? ⟨b1, off1 + k * 4 + 1, none⟩ = some (.int .i64 l[k].2.1) := (HF.out.below.cell (p := ⟨b1, off1 + k * 4 + 1, none⟩) hb1).trans c1
      have g2 : wr.cell? ⟨b1, off1 + k * 4 + 2, none⟩ = some (.int .i64 l[k].2.2.1) := (HF.out.below.cell (p := ⟨b1, off1 + k * 4 + 2, none⟩) hb1).trans c2
      have g3 : wr.cell? ⟨b1, off1 + k * 4 + 3, none⟩ = some (.int .i64 l[k].2.2.2) := (HF.out.below.cell (p := ⟨b1, off1 + k * 4 + 3, none⟩) hb1).trans c3
      have d0 : wr.cell? ⟨b2, off2 + k * 4, none⟩ = some (.int .i64 l[k].1) := (HF.out.below.cell (p := ⟨b2, off2 + k * 4, none⟩) hb2).trans e0
      have d1 : wr.cell? ⟨b2, off2 + k * 4 + 1, none⟩ = some (.int .i64 l[k].2.1) := (HF.out.below.cell (p := ⟨b2, off2 + k * 4 + 1, none⟩) hb2).trans e1
      have d2 : wr.cell? ⟨b2, off2 + k * 4 + 2, none⟩ = some (.int .i64 l[k].2.2.1) := (HF.out.below.cell (p := ⟨b2, off2 + k * 4 + 2, none⟩) hb2).trans e2
      have d3 : wr.cell? ⟨b2, off2 + k * 4 + 3, none⟩ = some (.int .i64 l[k].2.2.2) := (HF.out.below.cell (p := ⟨b2, off2 + k * 4 + 3, none⟩) hb2).trans e3
      have i1 : (k : Int) < (l.length : Int) := by omega
      have i3 : (0 : Int) ≤ (k : Int) := by omega
      clear hc1 hc2 c0 c1 c2 c3 e0 e1 e2 e3
      go_wp2_with fail
      go_still_tail 8, (by kernel_rfl)
      change wpList _ _ _ _ _ wr.drew
      have HFd := Lib.hid HF.out.drew
      clear g0 g1 g2 g3 d0 d1 d2 d3 HF
      generalize wr.drew = w2 at HFd ⊢
      go_wp2_with fail
      refine (eqFixup_same l[k] w2).mono ?_
      rintro e w3 ⟨rfl, h3⟩
      have HF3 := Lib.hid (HFd.out.call h3)
      clear h3 HFd
      go_wp2_with fail
      go_roundw
      case rel => exact ⟨k + 1, by omega, by go_num, HF3⟩
      case measure => simp [intOf]; try omega
    · obtain rfl : k = l.length := by omega
      go_wp2_with fail
      go_ret
      exact ⟨rfl, HF.out.below⟩
end Go.Proofs.Ythccjimckjecjaa
