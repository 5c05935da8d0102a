/- Marks written over what a call owns: bytes, fixups, symbols, sections, objects. -/
import Derived.Test.YtecpdhjangojiaaGreatDoorMarkS
import Derived.Test.YtecpdhjangojiaaGreatDoorObjX
namespace Go.Proofs.YtecpdhjangojiaaGreatDoor
open Go.ChangeShapes Go.WideShapes Go.ChangeAt Go.RowKit Go.Joins
set_option linter.unusedSimpArgs false
set_option linter.unusedVariables false
set_option maxRecDepth 100000
/-- Only the blocks that are listed may change. -/
structure Other (bs : List Nat) (w w' : World) : Prop where
  os : w'.os = w.os
  tape : w'.tape = w.tape
  output : w'.output = w.output
  size : w.heap.size ≤ w'.heap.size
  block : ∀ g, g < w.heap.size → g ∉ bs → w'.heap[g]? = w.heap[g]?
theorem Other.refl (bs : List Nat) (w : World) : Other bs w w := ⟨rfl, rfl, rfl, Nat.le_refl _, fun _ _ _ => rfl⟩
theorem Other.trans {bs : List Nat} {a b c : World} (h : Other bs a b) (k : Other bs b c) : Other bs a c :=
  ⟨k.os.trans h.os, k.tape.trans h.tape, k.output.trans h.output, Nat.le_trans h.size k.size, fun g hg hn => (k.block g (Nat.lt_of_lt_of_le hg h.size) hn).trans (h.block g hg hn)⟩
theorem Other.mono {bs cs : List Nat} {w w' : World} (h : Other bs w w') (hm : ∀ g ∈ bs, g ∈ cs) : Other cs w w' := ⟨h.os, h.tape, h.output, h.size, fun g hg hn => h.block g hg fun hb => hn (hm g hb)⟩
theorem Other.grown {bs : List Nat} {w w' : World} {row : Option Nat} (h : w.grownBy w' row) (hr : ∀ k, row = some k → k ∈ bs) : Other bs w w' :=
  ⟨h.os, h.tape, h.output, h.size, fun g hg hn => h.block g hg fun e => hn (hr g e.symm)⟩
theorem Other.below {bs : List Nat} {w w' : World} (h : Below w.heap.size w w') : Other bs w w' := ⟨h.os, h.tape, h.output, h.size, fun g hg _ => h.block g hg⟩
theorem Other.setCell {bs : List Nat} {w : World} {p : Addr} (hp : p.block ∈ bs) (u : Value) : Other bs w (w.setCell p u) :=
  ⟨rfl, rfl, rfl, by simp [World.setCell], fun g hg hn => Below.heap_setCell w p u g (fun e => hn (by rw [e]; exact hp))⟩
theorem From.other {B : Nat} {a w w' : World} {bs : List Nat} (h : From B a w) (ho : Other bs w w') (hB : ∀ g ∈ bs, B ≤ g) : From B a w' :=
  h.trans ⟨ho.os, ho.tape, ho.output, ho.size, fun g hg => ho.block g (Nat.lt_of_lt_of_le hg h.le) fun hb => by have := hB g hb; omega⟩
theorem owns_other {w w' : World} {base : Nat} {bs : List Nat} {e : TypeId} {size : Nat} {v : Value} {n : Nat} {xs : List Value} (h : w.ownsRow base e size v n xs) (ho : Other bs w w') (hd : ∀ k, v.ownBlock = some k → k ∉ bs) : w'.ownsRow base e size v n xs := by
  refine ⟨h.1, ?_⟩
  rcases h.2 with h2 | ⟨g, cap, cur, hv, hg, hh, r⟩
  · exact .inl h2
  · exact .inr ⟨g, cap, cur, hv, hg, (ho.block g (Array.getElem?_eq_some_iff.1 hh).1 (hd g (by rw [hv]; rfl))).trans hh, r⟩
theorem grown_set {w w1 : World} {g o : Nat} (h : w.grownBy w1 (some g)) (u : Value) : w.grownBy (w1.setCell ⟨g, o, none⟩ u) (some g) :=
  h.trans ⟨rfl, rfl, rfl, by simp [World.setCell], fun i _ hi => Below.heap_setCell w1 _ _ i (fun e => hi (by rw [e]))⟩
theorem grown_call {w w1 w2 : World} {row : Option Nat} (h : w.grownBy w1 row) (h2 : Below w1.heap.size w1 w2) : w.grownBy w2 row := h.trans ⟨h2.os, h2.tape, h2.output, h2.size, fun i hi _ => h2.block i hi⟩
theorem grown_none (w : World) (row : Option Nat) : w.grownBy w row := ⟨rfl, rfl, rfl, Nat.le_refl _, fun _ _ _ => rfl⟩
/-- A list of rows of as many cells each: one cell is changed. -/
theorem flat_set {α : Type} (f : α → List Value) (K : Nat) (hf : ∀ x, (f x).length = K) (D R : List α) (x x' : α) (j : Nat) (u : Value) (hj : j < K) (hx : f x' = (f x).set j u) :
    ((D ++ x :: R).flatMap f).set (D.length * K + j) u = (D ++ x' :: R).flatMap f := by
  rw [List.flatMap_append, List.flatMap_cons, List.flatMap_append, List.flatMap_cons, List.set_append_right _ _ (by rw [flat_length _ _ hf]; omega), flat_length _ _ hf, show D.length * K + j - D.length * K = j by omega, List.set_append_left _ _ (by rw [hf]; exact hj), hx]
theorem flat_at {α : Type} (f : α → List Value) (K : Nat) (hf : ∀ x, (f x).length = K) (D R : List α) (x : α) (j : Nat) (hj : j < K) :
    ((D ++ x :: R).flatMap f)[D.length * K + j]? = (f x)[j]? := by
  rw [List.flatMap_append, List.flatMap_cons, List.getElem?_append_right (by rw [flat_length _ _ hf]; omega), flat_length _ _ hf, show D.length * K + j - D.length * K = j by omega, List.getElem?_append_left (by rw [hf]; exact hj)]
set_option maxHeartbeats 1000000 in
theorem markByteS_own (w : World) (base : Nat) (v : Value) (l : List UInt8) (h : OwnB w base v l) (k : Nat) (hk : k ≤ 1073741824) (hl : l.length ≤ 1073741824) :
    Calls Tryz.prog 65 #[v, .int .i64 k] w fun e w' => e = .returned (.int .i64 ((k : Int) + (l.length : Int))) ∧ OwnB w' base v (marks k l.length) ∧ w.grownBy w' v.ownBlock := by
  rcases Nat.eq_zero_or_pos l.length with h0 | hpos
  · obtain rfl : l = [] := List.eq_nil_of_length_eq_zero h0
    obtain ⟨a, cap, rfl⟩ := owns_form h
    have HO := Lib.hid h
    clear h
    go_enter Tryz.func65, Tryz.ntmps65
    go_wp2_with fail
    go_loop [1, 5] (fun q i => q = .int .i64 k ∧ i = .int .i64 0) (fun _ _ => 0)
    case atStart => exact ⟨rfl, rfl⟩
    case round =>
      obtain ⟨rfl, rfl⟩ := hrel
      go_wp2_with fail
      go_ret
      exact ⟨by simp, HO.out, grown_none _ _⟩
  · have hform : ∃ g cap, v = .slice (some ⟨g, 0, none⟩) l.length cap ∧ base ≤ g := by
      rcases h.2 with ⟨rfl, h2⟩ | ⟨g, cap, cur, hv, hb, _⟩
      · omega
      · exact ⟨g, cap, hv, hb⟩
    obtain ⟨g, cap, rfl, hg⟩ := hform
    have HO0 : Hid (w.ownsRow base 5 1 (.slice (some ⟨g, 0, none⟩) l.length cap) l.length (bvs (marks k 0 ++ l.drop 0))) := Lib.hid (by simpa [marks, OwnB] using h)
    clear h
    go_enter Tryz.func65, Tryz.ntmps65
    go_wp2_with fail
    go_loopw [1, 5] (fun q i wr => ∃ j : Nat, j ≤ l.length ∧ i = .int .i64 j ∧ q = .int .i64 ((k : Int) + (j : Int)) ∧
      Hid (wr.ownsRow base 5 1 (.slice (some ⟨g, 0, none⟩) l.length cap) l.length (bvs (marks k j ++ l.drop j))) ∧ Hid (w.grownBy wr (some g))) (fun _ i _ => l.length - (intOf i).toNat)
    case atStart => exact ⟨0, Nat.zero_le _, rfl, by simp, HO0, grown_none _ _⟩
    case round =>
      obtain ⟨j, hj, rfl, rfl, HO, HF⟩ := hrel
      by_cases hlt : j < l.length
      · have hd := HO.out.cellAt j (by omega)
        have hf := HO.out.frozenAt j
        have hd' : ∃ u, wr.cell? ⟨g, j, none⟩ = some u := ⟨_, hd.trans (List.getElem?_eq_getElem (by rw [HO.out.1]; omega))⟩
        obtain ⟨u0, hd'⟩ := hd'
        clear hd
        go_wp2_with fail
        go_roundw
        case rel =>
          refine ⟨j + 1, by omega, by go_num, by go_num, ?_, grown_set HF.out _⟩
          show World.ownsRow _ _ _ _ _ _ _
          rw [← marks_step k l j hlt]
          exact (HO.out.stored j _).1
        case measure => simp [intOf]; try omega
      · obtain rfl : j = l.length := by omega
        go_wp2_with fail
        go_ret
        refine ⟨rfl, ?_, HF.out⟩
        have := HO.out
        rw [List.drop_length, List.append_nil] at this
        unfold OwnB
        rw [marks_length]
        exact this
/-- Fixups that mark. -/
def marksF (k : Nat) : Nat → List FixD
  | 0 => []
  | n + 1 => ((k : Int), ((k : Int) + 1), ((k : Int) + 1 + 1), ((k : Int) + 1 + 1 + 1)) :: marksF (k + 4) n
theorem marksF_length : ∀ (n k : Nat), (marksF k n).length = n
  | 0, k => rfl
  | n + 1, k => by simp [marksF, marksF_length n (k + 4)]
@[reducible] def fixL (f : FixD) : List Value := [.int .i64 f.1, .int .i64 f.2.1, .int .i64 f.2.2.1, .int .i64 f.2.2.2]
theorem fixL_length (f : FixD) : (fixL f).length = 4 := rfl
theorem fixCells_flat : ∀ l : List FixD, fixCells l = l.flatMap fixL
  | [] => rfl
  | f :: r => by rw [List.flatMap_cons, ← fixCells_flat r]; rfl
theorem fix_four (D R : List FixD) (x : FixD) (a b c d : Int) :
    (((((D ++ x :: R).flatMap fixL).set (D.length * 4) (.int .i64 a)).set (D.length * 4 + 1) (.int .i64 b)).set (D.length * 4 + 2) (.int .i64 c)).set (D.length * 4 + 3) (.int .i64 d) = (D ++ (a, b, c, d) :: R).flatMap fixL := by
  obtain ⟨x0, x1, x2, x3⟩ := x
  have e0 : ((D ++ (x0, x1, x2, x3) :: R).flatMap fixL).set (D.length * 4 + 0) (.int .i64 a) = (D ++ (a, x1, x2, x3) :: R).flatMap fixL := flat_set fixL 4 fixL_length D R _ _ 0 _ (by decide) rfl
  have e1 : ((D ++ (a, x1, x2, x3) :: R).flatMap fixL).set (D.length * 4 + 1) (.int .i64 b) = (D ++ (a, b, x2, x3) :: R).flatMap fixL := flat_set fixL 4 fixL_length D R _ _ 1 _ (by decide) rfl
  have e2 : ((D ++ (a, b, x2, x3) :: R).flatMap fixL).set (D.length * 4 + 2) (.int .i64 c) = (D ++ (a, b, c, x3) :: R).flatMap fixL := flat_set fixL 4 fixL_length D R _ _ 2 _ (by decide) rfl
  have e3 : ((D ++ (a, b, c, x3) :: R).flatMap fixL).set (D.length * 4 + 3) (.int .i64 d) = (D ++ (a, b, c, d) :: R).flatMap fixL := flat_set fixL 4 fixL_length D R _ _ 3 _ (by decide) rfl
  rw [Nat.add_zero] at e0
  rw [e0, e1, e2, e3]
set_option maxHeartbeats 2000000 in
theorem markFixupS_any (w : World) (base : Nat) (v : Value) (l : List FixD) (h : OwnF w base v l) (k : Nat) (hk : k ≤ 1073741824) (hl : l.length ≤ 1073741824) :
    Calls Tryz.prog 66 #[v, .int .i64 k] w fun e w' => e = .returned (.int .i64 ((k : Int) + 4 * (l.length : Int))) ∧ OwnF w' base v (marksF k l.length) ∧ w.grownBy w' v.ownBlock := by
  rcases Nat.eq_zero_or_pos l.length with h0 | hpos
  · obtain rfl : l = [] := List.eq_nil_of_length_eq_zero h0
    obtain ⟨a, cap, rfl⟩ := owns_form h
    have HO := Lib.hid h
    clear h
    go_enter Tryz.func66, Tryz.ntmps66
    go_wp2_with fail
    go_loop [1, 5] (fun q i => q = .int .i64 k ∧ i = .int .i64 0) (fun _ _ => 0)
    case atStart => exact ⟨rfl, rfl⟩
    case round =>
      obtain ⟨rfl, rfl⟩ := hrel
      go_wp2_with fail
      go_ret
      exact ⟨by simp, HO.out, grown_none _ _⟩
  · have hform : ∃ g cap, v = .slice (some ⟨g, 0, none⟩) l.length cap ∧ base ≤ g := by
      rcases h.2 with ⟨rfl, h2⟩ | ⟨g, cap, cur, hv, hb, _⟩
      · omega
      · exact ⟨g, cap, hv, hb⟩
    obtain ⟨g, cap, rfl, hg⟩ := hform
    have HO0 : Hid (w.ownsRow base 56 4 (.slice (some ⟨g, 0, none⟩) l.length cap) l.length (([] ++ l).flatMap fixL)) := Lib.hid (by rw [List.nil_append, ← fixCells_flat]; exact h)
    clear h
    go_enter Tryz.func66, Tryz.ntmps66
    go_wp2_with fail
    go_loopw [1, 5] (fun q i wr => ∃ (D R : List FixD), D.length + R.length = l.length ∧ i = .int .i64 D.length ∧ q = .int .i64 ((k : Int) + 4 * (D.length : Int)) ∧ Hid (marksF k l.length = D ++ marksF (k + 4 * D.length) R.length) ∧
      Hid (wr.ownsRow base 56 4 (.slice (some ⟨g, 0, none⟩) l.length cap) l.length ((D ++ R).flatMap fixL)) ∧ Hid (w.grownBy wr (some g))) (fun _ i _ => l.length - (intOf i).toNat)
    case atStart => exact ⟨[], l, by simp, rfl, by simp, by show _ = _; simp, HO0, grown_none _ _⟩
    case round =>
      obtain ⟨D, R, hDR, rfl, rfl, HM, HO, HF⟩ := hrel
      cases R with
      | cons x R' =>
        have hlt : D.length < l.length := by rw [← hDR, List.length_cons]; omega
        have hx : ∀ j, j < 4 → ∃ u, wr.cell? ⟨g, D.length * 4 + j, none⟩ = some u := fun j hj => by
          have h1 := HO.out.cellAt (D.length * 4 + j) (by omega)
          rw [flat_at fixL 4 fixL_length _ _ _ _ hj, List.getElem?_eq_getElem (by rw [fixL_length]; exact hj)] at h1
          exact ⟨_, h1⟩
        obtain ⟨u0, d0⟩ := hx 0 (by omega)
        rw [Nat.add_zero] at d0
        obtain ⟨u1, d1⟩ := hx 1 (by omega)
        obtain ⟨u2, d2⟩ := hx 2 (by omega)
        obtain ⟨u3, d3⟩ := hx 3 (by omega)
        have f0 := HO.out.frozenAt (D.length * 4)
        have f1 := HO.out.frozenAt (D.length * 4 + 1)
        have f2 := HO.out.frozenAt (D.length * 4 + 2)
        have f3 := HO.out.frozenAt (D.length * 4 + 3)
        have hlen : (R'.length : Nat) + 1 = (x :: R').length := by simp
        obtain ⟨dn, hdn⟩ : ∃ dn, D.length = dn := ⟨_, rfl⟩
        rw [hdn] at hlt d0 d1 d2 d3 f0 f1 f2 f3 ⊢
        have HD := Lib.hid hdn
        have HDR := Lib.hid hDR
        clear hx hDR hdn hlen
        go_wp2_with fail
        go_roundw
        case rel =>
          refine ⟨D ++ [((k : Int) + 4 * (D.length : Int), (k : Int) + 4 * (D.length : Int) + 1, (k : Int) + 4 * (D.length : Int) + 1 + 1, (k : Int) + 4 * (D.length : Int) + 1 + 1 + 1)], R', ?_, ?_, ?_, ?_, ?_, ?_⟩
          · have := HDR.out; simp at this ⊢; omega
          · rw [List.length_append, HD.out]; go_num
          · rw [List.length_append, HD.out]; go_num
          · show _ = _
            rw [HM.out, List.length_cons, marksF, List.length_append, List.append_assoc, List.singleton_append, List.length_singleton, show k + 4 * (D.length + 1) = k + 4 * D.length + 4 by omega]
            simp only [Int.natCast_add, Int.natCast_mul, Int.cast_ofNat_Int]
          · show World.ownsRow _ _ _ _ _ _ _
            obtain rfl := HD.out
            have h4 := ((((HO.out.stored (D.length * 4) (.int .i64 ((k : Int) + 4 * (D.length : Int)))).1.stored (D.length * 4 + 1) (.int .i64 ((k : Int) + 4 * (D.length : Int) + 1))).1.stored (D.length * 4 + 2) (.int .i64 ((k : Int) + 4 * (D.length : Int) + 1 + 1))).1.stored (D.length * 4 + 3) (.int .i64 ((k : Int) + 4 * (D.length : Int) + 1 + 1 + 1))).1
            rw [fix_four] at h4
            rw [List.append_assoc]
            exact h4
          · exact grown_set (grown_set (grown_set (grown_set HF.out _) _) _) _
        case measure => simp [intOf]; try omega
      | nil =>
        have hdl : D.length = l.length := by simpa using hDR
        rw [hdl]
        go_wp2_with fail
        go_ret
        refine ⟨rfl, ?_, HF.out⟩
        have h1 := HM.out
        have h2 := HO.out
        rw [List.append_nil] at h2
        simp [marksF] at h1
        unfold OwnF
        rw [marksF_length, h1, fixCells_flat]
        exact h2
/-- Symbols that mark. -/
def marksY (k : Nat) : Nat → List SymD
  | 0 => []
  | n + 1 => ⟨markB k, (k : Int) + 1, (k : Int) + 1 + 1, (k : Int) + 1 + 1 + 1⟩ :: marksY (k + 4) n
theorem marksY_length : ∀ (n k : Nat), (marksY k n).length = n
  | 0, k => rfl
  | n + 1, k => by simp [marksY, marksY_length n (k + 4)]
theorem sym_four (D R : List SymD) (x : SymD) (a : ByteArray) (b c d : Int) :
    (((((D ++ x :: R).flatMap symL).set (D.length * 4) (.string a)).set (D.length * 4 + 1) (.int .i64 b)).set (D.length * 4 + 2) (.int .i64 c)).set (D.length * 4 + 3) (.int .i64 d) = (D ++ (⟨a, b, c, d⟩ : SymD) :: R).flatMap symL := by
  obtain ⟨x0, x1, x2, x3⟩ := x
  have e0 : ((D ++ (⟨x0, x1, x2, x3⟩ : SymD) :: R).flatMap symL).set (D.length * 4 + 0) (.string a) = (D ++ (⟨a, x1, x2, x3⟩ : SymD) :: R).flatMap symL := flat_set symL 4 symL_length D R _ _ 0 _ (by decide) rfl
  have e1 : ((D ++ (⟨a, x1, x2, x3⟩ : SymD) :: R).flatMap symL).set (D.length * 4 + 1) (.int .i64 b) = (D ++ (⟨a, b, x2, x3⟩ : SymD) :: R).flatMap symL := flat_set symL 4 symL_length D R _ _ 1 _ (by decide) rfl
  have e2 : ((D ++ (⟨a, b, x2, x3⟩ : SymD) :: R).flatMap symL).set (D.length * 4 + 2) (.int .i64 c) = (D ++ (⟨a, b, c, x3⟩ : SymD) :: R).flatMap symL := flat_set symL 4 symL_length D R _ _ 2 _ (by decide) rfl
  have e3 : ((D ++ (⟨a, b, c, x3⟩ : SymD) :: R).flatMap symL).set (D.length * 4 + 3) (.int .i64 d) = (D ++ (⟨a, b, c, d⟩ : SymD) :: R).flatMap symL := flat_set symL 4 symL_length D R _ _ 3 _ (by decide) rfl
  rw [Nat.add_zero] at e0
  rw [e0, e1, e2, e3]
set_option maxHeartbeats 2000000 in
theorem markSymbolS_any (w : World) (base : Nat) (v : Value) (l : List SymD) (h : OwnSyms w base v l) (k : Nat) (hk : k ≤ 536870912) (hl : l.length ≤ 67108864) :
    Calls Tryz.prog 41 #[v, .int .i64 k] w fun e w' => e = .returned (.int .i64 ((k : Int) + 4 * (l.length : Int))) ∧ OwnSyms w' base v (marksY k l.length) ∧ w.grownBy w' v.ownBlock := by
  rcases Nat.eq_zero_or_pos l.length with h0 | hpos
  · obtain rfl : l = [] := List.eq_nil_of_length_eq_zero h0
    obtain ⟨a, cap, rfl⟩ := owns_form h
    have HO := Lib.hid h
    clear h
    go_enter Tryz.func41, Tryz.ntmps41
    go_wp2_with fail
    go_loop [1, 5] (fun q i => q = .int .i64 k ∧ i = .int .i64 0) (fun _ _ => 0)
    case atStart => exact ⟨rfl, rfl⟩
    case round =>
      obtain ⟨rfl, rfl⟩ := hrel
      go_wp2_with fail
      go_ret
      exact ⟨by simp, HO.out, grown_none _ _⟩
  · have hform : ∃ g cap, v = .slice (some ⟨g, 0, none⟩) l.length cap ∧ base ≤ g := by
      rcases h.2 with ⟨rfl, h2⟩ | ⟨g, cap, cur, hv, hb, _⟩
      · omega
      · exact ⟨g, cap, hv, hb⟩
    obtain ⟨g, cap, rfl, hg⟩ := hform
    have HO0 : Hid (w.ownsRow base 58 4 (.slice (some ⟨g, 0, none⟩) l.length cap) l.length (([] ++ l).flatMap symL)) := Lib.hid (by rw [List.nil_append]; exact h)
    clear h
    go_enter Tryz.func41, Tryz.ntmps41
    go_wp2_with fail
    go_loopw [1, 5] (fun q i wr => ∃ (D R : List SymD), D.length + R.length = l.length ∧ i = .int .i64 D.length ∧ q = .int .i64 ((k : Int) + 4 * (D.length : Int)) ∧ Hid (marksY k l.length = D ++ marksY (k + 4 * D.length) R.length) ∧
      Hid (wr.ownsRow base 58 4 (.slice (some ⟨g, 0, none⟩) l.length cap) l.length ((D ++ R).flatMap symL)) ∧ Hid (w.grownBy wr (some g))) (fun _ i _ => l.length - (intOf i).toNat)
    case atStart => exact ⟨[], l, by simp, rfl, by simp, by show _ = _; simp, HO0, grown_none _ _⟩
    case round =>
      obtain ⟨D, R, hDR, rfl, rfl, HM, HO, HF⟩ := hrel
      cases R with
      | cons x R' =>
        have hlt : D.length < l.length := by rw [← hDR, List.length_cons]; omega
        obtain ⟨dn, hdn⟩ : ∃ dn, D.length = dn := ⟨_, rfl⟩
        have HD := Lib.hid hdn
        have HDR := Lib.hid hDR
        rw [hdn] at hlt ⊢
        clear hdn hDR
        go_wp2_with fail
        have q1 := markText_any wr (k + 4 * dn) (by omega)
        rw [show (((k + 4 * dn : Nat)) : Int) = (k : Int) + 4 * (dn : Int) by omega] at q1
        refine q1.mono ?_
        rintro e w2 ⟨rfl, h2⟩
        have HO2 := Lib.hid (owns_call HO.out h2)
        have HF2 := Lib.hid (grown_call HF.out h2)
        have hx : ∀ j, j < 4 → ∃ u, w2.cell? ⟨g, dn * 4 + j, none⟩ = some u := fun j hj => by
          obtain rfl := HD.out
          have h1 := HO2.out.cellAt (D.length * 4 + j) (by omega)
          rw [flat_at symL 4 symL_length _ _ _ _ hj, List.getElem?_eq_getElem (by rw [symL_length]; exact hj)] at h1
          exact ⟨_, h1⟩
        obtain ⟨u0, d0⟩ := hx 0 (by omega)
        rw [Nat.add_zero] at d0
        obtain ⟨u1, d1⟩ := hx 1 (by omega)
        obtain ⟨u2, d2⟩ := hx 2 (by omega)
        obtain ⟨u3, d3⟩ := hx 3 (by omega)
        have f0 := HO2.out.frozenAt (dn * 4)
        have f1 := HO2.out.frozenAt (dn * 4 + 1)
        have f2 := HO2.out.frozenAt (dn * 4 + 2)
        have f3 := HO2.out.frozenAt (dn * 4 + 3)
        clear hx HO HF h2 q1
        go_wp2_with fail
        go_roundw
        case rel =>
          refine ⟨D ++ [⟨markB (k + 4 * D.length), (k : Int) + 4 * (D.length : Int) + 1, (k : Int) + 4 * (D.length : Int) + 1 + 1, (k : Int) + 4 * (D.length : Int) + 1 + 1 + 1⟩], R', ?_, ?_, ?_, ?_, ?_, ?_⟩
          · have := HDR.out; simp at this ⊢; omega
          · rw [List.length_append, HD.out]; go_num
          · rw [List.length_append, HD.out]; go_num
          · show _ = _
            rw [HM.out, List.length_cons, marksY, List.length_append, List.append_assoc, List.singleton_append, List.length_singleton, show k + 4 * (D.length + 1) = k + 4 * D.length + 4 by omega]
            simp only [Int.natCast_add, Int.natCast_mul, Int.cast_ofNat_Int]
          · show World.ownsRow _ _ _ _ _ _ _
            obtain rfl := HD.out
            have h4 := ((((HO2.out.stored (D.length * 4) (.string (markB (k + 4 * D.length)))).1.stored (D.length * 4 + 1) (.int .i64 ((k : Int) + 4 * (D.length : Int) + 1))).1.stored (D.length * 4 + 2) (.int .i64 ((k : Int) + 4 * (D.length : Int) + 1 + 1))).1.stored (D.length * 4 + 3) (.int .i64 ((k : Int) + 4 * (D.length : Int) + 1 + 1 + 1))).1
            rw [sym_four] at h4
            rw [List.append_assoc]
            exact h4
          · exact grown_set (grown_set (grown_set (grown_set HF2.out _) _) _) _
        case measure => simp [intOf]; try omega
      | nil =>
        have hdl : D.length = l.length := by simpa using hDR
        rw [hdl]
        go_wp2_with fail
        go_ret
        refine ⟨rfl, ?_, HF.out⟩
        have h1 := HM.out
        have h2 := HO.out
        rw [List.append_nil] at h2
        simp [marksY] at h1
        unfold OwnSyms
        rw [marksY_length, h1]
        exact h2
/-- Sections that mark. -/
def secStep (s : SecD) : Nat := 4 + s.bytes.length + 4 * s.fix.length
def secSteps : List SecD → Nat
  | [] => 0
  | s :: r => secStep s + secSteps r
def markSecD (k : Nat) (s : SecD) : SecD := ⟨markB k, (k : Int) + 1, (k : Int) + 1 + 1, marks (k + 3) s.bytes.length, ((k + 3 + s.bytes.length : Nat) : Int), marksF (k + 3 + s.bytes.length + 1) s.fix.length⟩
def markSecsD : Nat → List SecD → List SecD
  | _, [] => []
  | k, s :: r => markSecD k s :: markSecsD (k + secStep s) r
def markE : Nat → List (SecD × Value × Value) → List (SecD × Value × Value)
  | _, [] => []
  | k, x :: r => (markSecD k x.1, x.2) :: markE (k + secStep x.1) r
theorem markE_fst : ∀ (ls : List (SecD × Value × Value)) (k : Nat), (markE k ls).map (·.1) = markSecsD k (ls.map (·.1))
  | [], k => rfl
  | x :: r, k => by simp [markE, markSecsD, markE_fst r]
theorem markE_length : ∀ (ls : List (SecD × Value × Value)) (k : Nat), (markE k ls).length = ls.length
  | [], k => rfl
  | x :: r, k => by simp [markE, markE_length r]
theorem markE_blks : ∀ (ls : List (SecD × Value × Value)) (k : Nat), blksOf (markE k ls) = blksOf ls
  | [], k => rfl
  | x :: r, k => by have := markE_blks r (k + secStep x.1); simp only [blksOf, markE, List.flatMap_cons] at this ⊢; rw [this]
theorem nodup_parts {V D B F R : List Nat} (h : (V ++ (D ++ ((B ++ F) ++ R))).Nodup) :
    (∀ k ∈ B, k ∉ V ∧ k ∉ D ∧ k ∉ F ∧ k ∉ R) ∧ (∀ k ∈ F, k ∉ V ∧ k ∉ D ∧ k ∉ B ∧ k ∉ R) ∧ (∀ k ∈ V, k ∉ D ∧ k ∉ B ∧ k ∉ F ∧ k ∉ R) := by
  simp only [List.nodup_append, List.mem_append] at h
  refine ⟨fun k hk => ?_, fun k hk => ?_, fun k hk => ?_⟩ <;> grind
theorem blks_mid (D R : List (SecD × Value × Value)) (x : SecD × Value × Value) : blksOf (D ++ x :: R) = blksOf D ++ ((x.2.1.ownBlock.toList ++ x.2.2.ownBlock.toList) ++ blksOf R) := by
  simp [blksOf]
theorem blks_in {ls : List (SecD × Value × Value)} {y : SecD × Value × Value} (hy : y ∈ ls) {k : Nat} (hk : y.2.1.ownBlock = some k ∨ y.2.2.ownBlock = some k) : k ∈ blksOf ls := by
  refine List.mem_flatMap.2 ⟨y, hy, ?_⟩
  rw [List.mem_append, Option.mem_toList, Option.mem_toList]
  exact hk
/-- One section is another: what it keeps in its row has changed, or one of its parts. -/
theorem OwnSecs.swap {w w' : World} {base : Nat} {v : Value} {D R : List (SecD × Value × Value)} {x x' : SecD × Value × Value} (h : OwnSecs w base v (D ++ x :: R)) (h2 : x'.2 = x.2)
    {bs : List Nat} (ho : Other bs w w') (hD : ∀ k ∈ blksOf D, k ∉ bs) (hR : ∀ k ∈ blksOf R, k ∉ bs)
    (hrow : w'.ownsRow base 52 6 v (D ++ x :: R).length ((D ++ x' :: R).flatMap secL)) (hb : OwnB w' base x.2.1 x'.1.bytes) (hf : OwnF w' base x.2.2 x'.1.fix) : OwnSecs w' base v (D ++ x' :: R) := by
  refine ⟨by have := hrow; rw [List.length_append, List.length_cons] at this ⊢; exact this, fun y hy => ?_, ?_⟩
  · rcases List.mem_append.1 hy with hy | hy
    · have := h.each y (List.mem_append_left _ hy)
      exact ⟨owns_other this.1 ho fun k hk => hD k (blks_in hy (.inl hk)), owns_other this.2 ho fun k hk => hD k (blks_in hy (.inr hk))⟩
    · rcases List.mem_cons.1 hy with rfl | hy
      · rw [h2]; exact ⟨hb, hf⟩
      · have := h.each y (List.mem_append_right _ (List.mem_cons_of_mem _ hy))
        exact ⟨owns_other this.1 ho fun k hk => hR k (blks_in hy (.inl hk)), owns_other this.2 ho fun k hk => hR k (blks_in hy (.inr hk))⟩
  · have := h.nodup
    rw [blks_mid] at this ⊢
    rw [h2]
    exact this
theorem OwnSecs.parts {w : World} {base : Nat} {v : Value} {D R : List (SecD × Value × Value)} {x : SecD × Value × Value} (h : OwnSecs w base v (D ++ x :: R)) :
    (∀ k ∈ x.2.1.ownBlock.toList, k ∉ v.ownBlock.toList ∧ k ∉ blksOf D ∧ k ∉ x.2.2.ownBlock.toList ∧ k ∉ blksOf R) ∧ (∀ k ∈ x.2.2.ownBlock.toList, k ∉ v.ownBlock.toList ∧ k ∉ blksOf D ∧ k ∉ x.2.1.ownBlock.toList ∧ k ∉ blksOf R) ∧
      (∀ k ∈ v.ownBlock.toList, k ∉ blksOf D ∧ k ∉ x.2.1.ownBlock.toList ∧ k ∉ x.2.2.ownBlock.toList ∧ k ∉ blksOf R) := by
  have := h.nodup
  rw [blks_mid] at this
  exact nodup_parts this
/-- A cell of the row of one section is written. -/
theorem OwnSecs.put {w : World} {base g n cap : Nat} {D R : List (SecD × Value × Value)} {x : SecD × Value × Value} (h : OwnSecs w base (.slice (some ⟨g, 0, none⟩) n cap) (D ++ x :: R)) (hn : n = (D ++ x :: R).length) (x' : SecD × Value × Value) (j : Nat) (u : Value) (hj : j < 6)
    (hx : secL x' = (secL x).set j u) (h2 : x'.2 = x.2) (hb : x'.1.bytes = x.1.bytes) (hf : x'.1.fix = x.1.fix) : OwnSecs (w.setCell ⟨g, D.length * 6 + j, none⟩ u) base (.slice (some ⟨g, 0, none⟩) n cap) (D ++ x' :: R) := by
  subst hn
  obtain ⟨p1, p2, p3⟩ := h.parts
  have hg : ∀ k, k ∈ (Value.slice (some ⟨g, 0, none⟩) (D ++ x :: R).length cap).ownBlock.toList ↔ k = g := fun k => by simp [Value.ownBlock, eq_comm]
  have ho : Other [g] w (w.setCell ⟨g, D.length * 6 + j, none⟩ u) := Other.setCell (by simp) u
  have p4 := p3 g ((hg g).2 rfl)
  have hm := h.each x (by simp)
  refine h.swap h2 ho (fun k hk e => ?_) (fun k hk e => ?_) ?_ ?_ ?_
  · obtain rfl := List.mem_singleton.1 e; exact p4.1 hk
  · obtain rfl := List.mem_singleton.1 e; exact p4.2.2.2 hk
  · rw [← flat_set secL 6 secL_length D R x x' j u hj hx]
    exact (h.row.stored (D.length * 6 + j) u).1
  · rw [hb]; exact owns_other hm.1 ho fun k hk e => by obtain rfl := List.mem_singleton.1 e; exact p4.2.1 (by simpa using hk)
  · rw [hf]; exact owns_other hm.2 ho fun k hk e => by obtain rfl := List.mem_singleton.1 e; exact p4.2.2.1 (by simpa using hk)
/-- The bytes of one section are written over. -/
theorem OwnSecs.bytes {w w' : World} {base : Nat} {v : Value} {D R : List (SecD × Value × Value)} {x : SecD × Value × Value} (h : OwnSecs w base v (D ++ x :: R)) (b : List UInt8) (hl : b.length = x.1.bytes.length)
    (hg : w.grownBy w' x.2.1.ownBlock) (hb : OwnB w' base x.2.1 b) : OwnSecs w' base v (D ++ ({ x.1 with bytes := b }, x.2) :: R) := by
  obtain ⟨p1, p2, p3⟩ := h.parts
  have ho : Other x.2.1.ownBlock.toList w w' := Other.grown hg fun k hk => by simpa using hk
  have hm := h.each x (by simp)
  refine h.swap rfl ho (fun k hk e => (p1 k e).2.1 hk) (fun k hk e => (p1 k e).2.2.2 hk) ?_ hb ?_
  · have h1 := owns_other h.row ho fun k hk e => (p1 k e).1 (by simpa using hk)
    have e : (D ++ ({ x.1 with bytes := b }, x.2) :: R).flatMap secL = (D ++ x :: R).flatMap secL := by simp
    rw [e]; exact h1
  · exact owns_other hm.2 ho fun k hk e => (p1 k e).2.2.1 (by simpa using hk)
/-- The fixups of one section are written over. -/
theorem OwnSecs.fixups {w w' : World} {base : Nat} {v : Value} {D R : List (SecD × Value × Value)} {x : SecD × Value × Value} (h : OwnSecs w base v (D ++ x :: R)) (f : List FixD)
    (hg : w.grownBy w' x.2.2.ownBlock) (hf : OwnF w' base x.2.2 f) : OwnSecs w' base v (D ++ ({ x.1 with fix := f }, x.2) :: R) := by
  obtain ⟨p1, p2, p3⟩ := h.parts
  have ho : Other x.2.2.ownBlock.toList w w' := Other.grown hg fun k hk => by simpa using hk
  have hm := h.each x (by simp)
  refine h.swap rfl ho (fun k hk e => (p2 k e).2.1 hk) (fun k hk e => (p2 k e).2.2.2 hk) ?_ ?_ hf
  · have h1 := owns_other h.row ho fun k hk e => (p2 k e).1 (by simpa using hk)
    have e : (D ++ ({ x.1 with fix := f }, x.2) :: R).flatMap secL = (D ++ x :: R).flatMap secL := by simp
    rw [e]; exact h1
  · exact owns_other hm.1 ho fun k hk e => (p2 k e).2.2.1 (by simpa using hk)
theorem OwnSecs.cell {w : World} {base g n cap : Nat} {D R : List (SecD × Value × Value)} {x : SecD × Value × Value} (h : OwnSecs w base (.slice (some ⟨g, 0, none⟩) n cap) (D ++ x :: R)) (hn : n = (D ++ x :: R).length) (j : Nat) (u : Value) (hu : (secL x)[j]? = some u) :
    w.cell? ⟨g, D.length * 6 + j, none⟩ = some u := by
  subst hn
  have hj : j < 6 := by have := (List.getElem?_eq_some_iff.1 hu).1; rw [secL_length] at this; exact this
  have h1 := h.row.cellAt (D.length * 6 + j) (by rw [List.length_append, List.length_cons]; omega)
  rw [flat_at secL 6 secL_length _ _ _ _ hj, hu] at h1
  exact h1
theorem steps_len : ∀ l : List SecD, 4 * l.length ≤ secSteps l
  | [] => Nat.le_refl _
  | s :: r => by have := steps_len r; unfold secSteps secStep; rw [List.length_cons]; omega
set_option maxHeartbeats 4000000 in
theorem markSectionS_any (w : World) (base : Nat) (v : Value) (ls : List (SecD × Value × Value)) (h : OwnSecs w base v ls) (k : Nat) (hk : k + secSteps (ls.map (·.1)) ≤ 536870912) :
    Calls Tryz.prog 40 #[v, .int .i64 k] w fun e w' => e = .returned (.int .i64 ((k + secSteps (ls.map (·.1)) : Nat) : Int)) ∧ OwnSecs w' base v (markE k ls) ∧ Other (v.ownBlock.toList ++ blksOf ls) w w' := by
  rcases Nat.eq_zero_or_pos ls.length with h0 | hpos
  · obtain rfl : ls = [] := List.eq_nil_of_length_eq_zero h0
    obtain ⟨a, cap, rfl⟩ := owns_form h.row
    have HO := Lib.hid h
    clear h
    go_enter Tryz.func40, Tryz.ntmps40
    go_wp2_with fail
    go_loop [1, 5] (fun q i => q = .int .i64 k ∧ i = .int .i64 0) (fun _ _ => 0)
    case atStart => exact ⟨rfl, rfl⟩
    case round =>
      obtain ⟨rfl, rfl⟩ := hrel
      go_wp2_with fail
      go_ret
      exact ⟨by simp [secSteps], HO.out, Other.refl _ _⟩
  · have hform : ∃ g cap, v = .slice (some ⟨g, 0, none⟩) ls.length cap ∧ base ≤ g := by
      rcases h.row.2 with ⟨rfl, h2⟩ | ⟨g, cap, cur, hv, hb, _⟩
      · omega
      · exact ⟨g, cap, hv, hb⟩
    obtain ⟨g, cap, rfl, hg⟩ := hform
    have HO0 := Lib.hid h
    clear h
    have hgb : g ∈ (Value.slice (some ⟨g, 0, none⟩) ls.length cap).ownBlock.toList ++ blksOf ls := List.mem_append_left _ (by simp [Value.ownBlock])
    generalize hBS : (Value.slice (some ⟨g, 0, none⟩) ls.length cap).ownBlock.toList ++ blksOf ls = BS at *
    have HBS : Hid (∀ k ∈ blksOf ls, k ∈ BS) := fun k hk => by rw [← hBS]; exact List.mem_append_right _ hk
    clear hBS
    have HGB := Lib.hid hgb
    clear hgb
    have hNb : ls.length ≤ 536870912 := by have := steps_len (ls.map (·.1)); rw [List.length_map] at this; omega
    obtain ⟨K, hK⟩ : ∃ K, k + secSteps (ls.map (·.1)) = K := ⟨_, rfl⟩
    rw [hK] at hk ⊢
    obtain ⟨N, hN⟩ : ∃ N, ls.length = N := ⟨_, rfl⟩
    rw [hN] at HO0 hpos hNb ⊢
    have HN := Lib.hid hN
    have HK := Lib.hid hK
    clear hN hK
    go_enter Tryz.func40, Tryz.ntmps40
    go_wp2_with fail
    go_loopw [1, 5] (fun q i wr => ∃ (D R : List (SecD × Value × Value)) (kk : Nat), D.length + R.length = N ∧ i = .int .i64 D.length ∧ q = .int .i64 kk ∧ kk + secSteps (R.map (·.1)) = K ∧ Hid (markE k ls = D ++ markE kk R) ∧ Hid (blksOf (D ++ R) = blksOf ls) ∧
      Hid (OwnSecs wr base (.slice (some ⟨g, 0, none⟩) N cap) (D ++ R)) ∧ Hid (Other BS w wr)) (fun _ i _ => N - (intOf i).toNat)
    case atStart => exact ⟨[], ls, k, by rw [HN.out]; simp, rfl, rfl, HK.out, (by show _ = _; simp), (by show _ = _; simp), HO0, Other.refl _ _⟩
    case round =>
      obtain ⟨D, R, kk, hDR, rfl, rfl, hKK, HM, HBl, HO, HF⟩ := hrel
      cases R with
      | cons x R' =>
        have hlt : D.length < N := by rw [← hDR, List.length_cons]; omega
        have hstep : kk + secStep x.1 + secSteps (R'.map (·.1)) = K := by rw [← hKK]; simp [secSteps]; omega
        have hNl : Hid (N = (D ++ x :: R').length) := by show _ = _; rw [List.length_append]; exact hDR.symm
        have hst : secStep x.1 = 4 + x.1.bytes.length + 4 * x.1.fix.length := rfl
        obtain ⟨dn, hdn⟩ : ∃ dn, D.length = dn := ⟨_, rfl⟩
        have HD := Lib.hid hdn
        have HDR := Lib.hid hDR
        have HST := Lib.hid hstep
        have hkk : kk + 4 + x.1.bytes.length + 4 * x.1.fix.length ≤ 536870912 := by omega
        rw [hdn] at hlt ⊢
        clear hdn hDR hKK hst hstep
        go_wp2_with fail
        refine (markText_any wr kk (by omega)).mono ?_
        rintro e w2 ⟨rfl, h2⟩
        have HO2 := Lib.hid (HO.out.call h2)
        have HF2 : Hid (Other BS w w2) := HF.out.trans (Other.below h2)
        obtain ⟨⟨nm0, kd0, al0, bs0, sz0, fx0⟩, vb, vf⟩ := x
        obtain ⟨va, vc, hvb⟩ := owns_form (HO2.out.each _ (by simp : ((⟨nm0, kd0, al0, bs0, sz0, fx0⟩, vb, vf) : SecD × Value × Value) ∈ D ++ (⟨nm0, kd0, al0, bs0, sz0, fx0⟩, vb, vf) :: R')).1
        obtain ⟨vd, ve, hvf⟩ := owns_form (HO2.out.each _ (by simp : ((⟨nm0, kd0, al0, bs0, sz0, fx0⟩, vb, vf) : SecD × Value × Value) ∈ D ++ (⟨nm0, kd0, al0, bs0, sz0, fx0⟩, vb, vf) :: R')).2
        simp only at hvb hvf hkk
        have HVB := Lib.hid hvb
        have HVF := Lib.hid hvf
        have hcell : ∀ j u, (secL ((⟨nm0, kd0, al0, bs0, sz0, fx0⟩, vb, vf) : SecD × Value × Value))[j]? = some u → w2.cell? ⟨g, dn * 6 + j, none⟩ = some u := fun j u hu => by
          obtain rfl := HD.out
          exact HO2.out.cell hNl.out j u hu
        have d0 := hcell 0 _ rfl
        rw [Nat.add_zero] at d0
        have d1 := hcell 1 _ rfl
        have d2 := hcell 2 _ rfl
        have d3 := hcell 3 _ rfl
        have d4 := hcell 4 _ rfl
        have d5 := hcell 5 _ rfl
        simp only at d0 d1 d2 d3 d4 d5
        have fz : ∀ o, w2.frozen? ⟨g, o, none⟩ = false := fun o => by have := HO2.out.row; rw [← hNl.out] at this; exact this.frozenAt o
        have f0 := fz (dn * 6)
        have f1 := fz (dn * 6 + 1)
        have f2 := fz (dn * 6 + 2)
        have f4 := fz (dn * 6 + 4)
        clear hcell fz HO HF h2 hvb hvf
        go_wp2_with fail
        have hN3 : ∀ y : SecD × Value × Value, N = (D ++ y :: R').length := fun y => by rw [hNl.out, List.length_append, List.length_append]; rfl
        have HN3 := Lib.hid hN3
        have HO3 : Hid (OwnSecs (((w2.setCell ⟨g, dn * 6, none⟩ (.string (markB kk))).setCell ⟨g, dn * 6 + 1, none⟩ (.int .i64 ((kk : Int) + 1))).setCell ⟨g, dn * 6 + 2, none⟩ (.int .i64 ((kk : Int) + 1 + 1))) base (.slice (some ⟨g, 0, none⟩) N cap) (D ++ (⟨markB kk, (kk : Int) + 1, (kk : Int) + 1 + 1, bs0, sz0, fx0⟩, vb, vf) :: R')) := by
          obtain rfl := HD.out
          exact ((HO2.out.put hNl.out (⟨markB kk, kd0, al0, bs0, sz0, fx0⟩, vb, vf) 0 _ (by decide) rfl rfl rfl rfl).put (hN3 _) (⟨markB kk, (kk : Int) + 1, al0, bs0, sz0, fx0⟩, vb, vf) 1 _ (by decide) rfl rfl rfl rfl).put (hN3 _) (⟨markB kk, (kk : Int) + 1, (kk : Int) + 1 + 1, bs0, sz0, fx0⟩, vb, vf) 2 _ (by decide) rfl rfl rfl rfl
        have HF3 : Hid (Other BS w (((w2.setCell ⟨g, dn * 6, none⟩ (.string (markB kk))).setCell ⟨g, dn * 6 + 1, none⟩ (.int .i64 ((kk : Int) + 1))).setCell ⟨g, dn * 6 + 2, none⟩ (.int .i64 ((kk : Int) + 1 + 1)))) :=
          ((HF2.out.trans (Other.setCell HGB.out _)).trans (Other.setCell HGB.out _)).trans (Other.setCell HGB.out _)
        generalize hw3 : (((w2.setCell ⟨g, dn * 6, none⟩ (.string (markB kk))).setCell ⟨g, dn * 6 + 1, none⟩ (.int .i64 ((kk : Int) + 1))).setCell ⟨g, dn * 6 + 2, none⟩ (.int .i64 ((kk : Int) + 1 + 1))) = w3 at HO3 HF3 ⊢
        clear hw3 d0 d1 d2 d3 d4 d5 f0 f1 f2 f4 HO2 HF2 hN3
        have HMem : Hid (∀ (s : SecD) (q : Nat), (vb.ownBlock = some q ∨ vf.ownBlock = some q) → q ∈ BS) := fun s q hq => HBS.out q (by
          rw [← HBl.out]; exact blks_in (y := (⟨nm0, kd0, al0, bs0, sz0, fx0⟩, vb, vf)) (by simp) hq)
        have q1 := markByteS_own w3 base vb bs0 (HO3.out.each (⟨markB kk, (kk : Int) + 1, (kk : Int) + 1 + 1, bs0, sz0, fx0⟩, vb, vf) (by simp)).1 (kk + 3) (by omega) (by omega)
        rw [show ((kk + 3 : Nat) : Int) = (kk : Int) + 1 + 1 + 1 by omega, show (kk : Int) + 1 + 1 + 1 + (bs0.length : Int) = ((kk + 3 + bs0.length : Nat) : Int) by omega] at q1
        refine q1.mono ?_
        clear q1
        rintro e w4 ⟨rfl, ob, gb⟩
        have HO4 : Hid (OwnSecs w4 base (.slice (some ⟨g, 0, none⟩) N cap) (D ++ (⟨markB kk, (kk : Int) + 1, (kk : Int) + 1 + 1, marks (kk + 3) bs0.length, sz0, fx0⟩, vb, vf) :: R')) := HO3.out.bytes _ (marks_length _ _) gb ob
        have HF4 : Hid (Other BS w w4) := HF3.out.trans (Other.grown gb fun q hq => HMem.out ⟨nm0, kd0, al0, bs0, sz0, fx0⟩ q (.inl hq))
        obtain ⟨M, hM⟩ : ∃ M, kk + 3 + bs0.length = M := ⟨_, rfl⟩
        rw [hM]
        have HMM := Lib.hid hM
        have hMk : M + 1 + 4 * fx0.length ≤ 536870912 := by omega
        have hcell : ∀ j u, (secL ((⟨markB kk, (kk : Int) + 1, (kk : Int) + 1 + 1, marks (kk + 3) bs0.length, sz0, fx0⟩, vb, vf) : SecD × Value × Value))[j]? = some u → w4.cell? ⟨g, dn * 6 + j, none⟩ = some u := fun j u hu => by
          obtain rfl := HD.out
          exact HO4.out.cell (HN3.out _) j u hu
        have d4 := hcell 4 _ rfl
        have d5 := hcell 5 _ rfl
        simp only at d4 d5
        have fz : ∀ o, w4.frozen? ⟨g, o, none⟩ = false := fun o => by have := HO4.out.row; rw [← HN3.out _] at this; exact this.frozenAt o
        have f4 := fz (dn * 6 + 4)
        clear hcell fz HO3 HF3 ob gb hM
        go_wp2_with fail
        have HO5 : Hid (OwnSecs (w4.setCell ⟨g, dn * 6 + 4, none⟩ (.int .i64 (M : Int))) base (.slice (some ⟨g, 0, none⟩) N cap) (D ++ (⟨markB kk, (kk : Int) + 1, (kk : Int) + 1 + 1, marks (kk + 3) bs0.length, (M : Int), fx0⟩, vb, vf) :: R')) := by
          obtain rfl := HD.out
          exact HO4.out.put (HN3.out _) (⟨markB kk, (kk : Int) + 1, (kk : Int) + 1 + 1, marks (kk + 3) bs0.length, (M : Int), fx0⟩, vb, vf) 4 _ (by decide) rfl rfl rfl rfl
        have HF5 : Hid (Other BS w (w4.setCell ⟨g, dn * 6 + 4, none⟩ (.int .i64 (M : Int)))) := HF4.out.trans (Other.setCell HGB.out _)
        generalize hw5 : w4.setCell ⟨g, dn * 6 + 4, none⟩ (.int .i64 (M : Int)) = w5 at HO5 HF5 ⊢
        clear hw5 d4 d5 f4 HO4 HF4
        have q2 := markFixupS_any w5 base vf fx0 (HO5.out.each (⟨markB kk, (kk : Int) + 1, (kk : Int) + 1 + 1, marks (kk + 3) bs0.length, (M : Int), fx0⟩, vb, vf) (by simp)).2 (M + 1) (by omega) (by omega)
        rw [show ((M + 1 : Nat) : Int) = (M : Int) + 1 by omega, show (M : Int) + 1 + 4 * (fx0.length : Int) = ((M + 1 + 4 * fx0.length : Nat) : Int) by omega] at q2
        refine q2.mono ?_
        clear q2
        rintro e w6 ⟨rfl, of, gf⟩
        have HO6 : Hid (OwnSecs w6 base (.slice (some ⟨g, 0, none⟩) N cap) (D ++ (⟨markB kk, (kk : Int) + 1, (kk : Int) + 1 + 1, marks (kk + 3) bs0.length, (M : Int), marksF (M + 1) fx0.length⟩, vb, vf) :: R')) := HO5.out.fixups _ gf of
        have HF6 : Hid (Other BS w w6) := HF5.out.trans (Other.grown gf fun q hq => HMem.out ⟨nm0, kd0, al0, bs0, sz0, fx0⟩ q (.inr hq))
        clear HO5 HF5 of gf
        go_wp2_with fail
        go_roundw
        case rel =>
          have hM := HMM.out
          subst hM
          have hs : kk + secStep ⟨nm0, kd0, al0, bs0, sz0, fx0⟩ = kk + 3 + bs0.length + 1 + 4 * fx0.length := by unfold secStep; simp only; omega
          refine ⟨D ++ [(markSecD kk ⟨nm0, kd0, al0, bs0, sz0, fx0⟩, vb, vf)], R', kk + 3 + bs0.length + 1 + 4 * fx0.length, ?_, ?_, rfl, ?_, ?_, ?_, ?_, HF6⟩
          · have := HDR.out; simp at this ⊢; omega
          · rw [List.length_append, HD.out]; go_num
          · rw [← hs]; exact HST.out
          · show _ = _
            rw [HM.out, ← hs, List.append_assoc]; rfl
          · show _ = _
            rw [← HBl.out, List.append_assoc]; simp [blksOf]
          · show OwnSecs _ _ _ _
            rw [List.append_assoc]
            exact HO6.out
        case measure => simp [intOf]; try omega
      | nil =>
        obtain rfl : kk = K := by simpa [secSteps] using hKK
        have hdl : D.length = N := by simpa using hDR
        rw [hdl]
        go_wp2_with fail
        go_ret
        refine ⟨rfl, ?_, HF.out⟩
        have h2 := HO.out
        rw [List.append_nil] at h2
        have h1 := HM.out
        rw [markE, List.append_nil] at h1
        rw [h1]
        exact h2
/-- An object of the call's own, and the blocks that it lies in. -/
def OwnObjB (w : World) (base : Nat) (bs : List Nat) (v : Value) (o : ObjD) : Prop := ∃ vs vy ls, v = .agg #[vs, vy] ∧ o.secs = ls.map (·.1) ∧ OwnSecs w base vs ls ∧ OwnSyms w base vy o.syms ∧
  (∀ k, vy.ownBlock = some k → k ∉ vs.ownBlock.toList ++ blksOf ls) ∧ bs = (vs.ownBlock.toList ++ blksOf ls) ++ vy.ownBlock.toList
theorem OwnObj.blocks {w : World} {base : Nat} {v : Value} {o : ObjD} (h : OwnObj w base v o) : ∃ bs, OwnObjB w base bs v o := by
  obtain ⟨vs, vy, ls, h1, h2, h3, h4, h5⟩ := h
  exact ⟨_, vs, vy, ls, h1, h2, h3, h4, h5, rfl⟩
theorem OwnObjB.obj {w : World} {base : Nat} {bs : List Nat} {v : Value} {o : ObjD} (h : OwnObjB w base bs v o) : OwnObj w base v o := by
  obtain ⟨vs, vy, ls, h1, h2, h3, h4, h5, -⟩ := h
  exact ⟨vs, vy, ls, h1, h2, h3, h4, h5⟩
theorem OwnObjB.lt {w : World} {base : Nat} {bs : List Nat} {v : Value} {o : ObjD} (h : OwnObjB w base bs v o) : ∀ k ∈ bs, base ≤ k ∧ k < w.heap.size := by
  obtain ⟨vs, vy, ls, h1, h2, h3, h4, h5, rfl⟩ := h
  intro k hk
  rcases List.mem_append.1 hk with hk | hk
  · exact h3.lt k hk
  · exact World.ownsRow.lt h4 k (by simpa using hk)
theorem OwnSecs.other {w w' : World} {base : Nat} {cs : List Nat} {v : Value} {ls : List (SecD × Value × Value)} (h : OwnSecs w base v ls) (ho : Other cs w w') (hd : ∀ k ∈ v.ownBlock.toList ++ blksOf ls, k ∉ cs) : OwnSecs w' base v ls :=
  ⟨owns_other h.row ho fun k hk => hd k (List.mem_append_left _ (by simpa using hk)), fun y hy => ⟨owns_other (h.each y hy).1 ho fun k hk => hd k (List.mem_append_right _ (blks_in hy (.inl hk))), owns_other (h.each y hy).2 ho fun k hk => hd k (List.mem_append_right _ (blks_in hy (.inr hk)))⟩, h.nodup⟩
theorem OwnObjB.other {w w' : World} {base : Nat} {bs cs : List Nat} {v : Value} {o : ObjD} (h : OwnObjB w base bs v o) (ho : Other cs w w') (hd : ∀ k ∈ bs, k ∉ cs) : OwnObjB w' base bs v o := by
  obtain ⟨vs, vy, ls, h1, h2, h3, h4, h5, rfl⟩ := h
  exact ⟨vs, vy, ls, h1, h2, h3.other ho fun k hk => hd k (List.mem_append_left _ hk), owns_other h4 ho fun k hk => hd k (List.mem_append_right _ (by simpa using hk)), h5, rfl⟩
theorem OwnObjB.call {w w' : World} {base : Nat} {bs : List Nat} {v : Value} {o : ObjD} (h : OwnObjB w base bs v o) (hb : Below w.heap.size w w') : OwnObjB w' base bs v o :=
  h.other (Other.below (bs := []) hb) fun k hk => by simp
theorem OwnObjB.agg {w : World} {base : Nat} {bs : List Nat} {v : Value} {o : ObjD} (h : OwnObjB w base bs v o) : ∃ sa sc ya yc, v = .agg #[.slice sa o.secs.length sc, .slice ya o.syms.length yc] := by
  obtain ⟨vs, vy, ls, rfl, h2, h3, h4, h5, rfl⟩ := h
  obtain ⟨sa, sc, rfl⟩ := owns_form h3.row
  obtain ⟨ya, yc, rfl⟩ := owns_form h4
  exact ⟨sa, sc, ya, yc, by rw [h2, List.length_map]⟩
theorem Blk.otherB {w w' : World} {g : Nat} {c : Array Value} {t : TypeId} {cs : List Nat} (h : Blk w g c t) (ho : Other cs w w') (hd : g ∉ cs) : Blk w' g c t := (ho.block g h.lt hd).trans h
def markObjD (k : Nat) (o : ObjD) : ObjD := ⟨markSecsD k o.secs, marksY (k + secSteps o.secs) o.syms.length⟩
def objSteps (o : ObjD) : Nat := secSteps o.secs + 4 * o.syms.length
set_option maxHeartbeats 2000000 in
theorem markObject_any (w : World) (base : Nat) (bs : List Nat) (v : Value) (o : ObjD) (h : OwnObjB w base bs v o) (k : Nat) (hk : k + objSteps o ≤ 268435456) :
    Calls Tryz.prog 17 #[v, .int .i64 k] w fun e w' => e = .returned (.int .i64 ((k + objSteps o : Nat) : Int)) ∧ OwnObjB w' base bs v (markObjD k o) ∧ Other bs w w' := by
  have hlt := h.lt
  obtain ⟨vs, vy, ls, rfl, hs, hS, hY, hd, hbs⟩ := h
  obtain ⟨osecs, osyms⟩ := o
  simp only at hs hY
  subst hs
  obtain ⟨sa, sc, rfl⟩ := owns_form hS.row
  obtain ⟨ya, yc, rfl⟩ := owns_form hY
  have e1 : objSteps ⟨ls.map (·.1), osyms⟩ = secSteps (ls.map (·.1)) + 4 * osyms.length := rfl
  rw [e1] at hk ⊢
  clear e1
  have HLt := Lib.hid hlt
  have HS := Lib.hid hS
  have HY := Lib.hid hY
  have HD := Lib.hid hd
  have HBS := Lib.hid hbs
  obtain ⟨n1, hn1⟩ : ∃ n1, ls.length = n1 := ⟨_, rfl⟩
  obtain ⟨n2, hn2⟩ : ∃ n2, osyms.length = n2 := ⟨_, rfl⟩
  have HN1 := Lib.hid hn1
  have HN2 := Lib.hid hn2
  rw [hn1] at HS HD HBS ⊢
  rw [hn2] at HY HD HBS hk ⊢
  clear hlt hS hY hd hbs hn1 hn2
  obtain ⟨t1, ht1⟩ : ∃ t1, secSteps (ls.map (·.1)) = t1 := ⟨_, rfl⟩
  have HT1 := Lib.hid ht1
  rw [ht1] at hk ⊢
  clear ht1
  go_enter Tryz.func17, Tryz.ntmps17
  go_wp2_with fail
  have HF1 := Lib.hid ((From.start w).alloc (.cells #[.slice sa n1 sc, .slice ya n2 yc] 28))
  have hb1 := Blk.new w #[.slice sa n1 sc, .slice ya n2 yc] 28
  have HB1 := Lib.hid hb1
  clear hb1
  generalize hw1 : w.alloc (.cells #[.slice sa n1 sc, .slice ya n2 yc] 28) = w1 at HF1 HB1 ⊢
  clear hw1
  have q1 := markSectionS_any w1 base (.slice sa n1 sc) ls (HS.out.call HF1.out.below) k (by rw [HT1.out]; omega)
  rw [HT1.out] at q1
  refine q1.mono ?_
  clear q1
  rintro e w2 ⟨rfl, o2, g2⟩
  have HB2 : Hid (Blk w2 w.heap.size #[.slice sa n1 sc, .slice ya n2 yc] 28) := HB1.out.otherB g2 fun hm => by
    have := (HLt.out w.heap.size (by rw [HBS.out]; exact List.mem_append_left _ hm)).2; omega
  have HY2 : Hid (OwnSyms w2 base (.slice ya n2 yc) osyms) := owns_other (owns_call HY.out HF1.out.below) g2 fun q hq => HD.out q hq
  have HO2 := Lib.hid o2
  have HG2 : Hid (Other bs w w2) := (Other.below HF1.out.below).trans (g2.mono fun q hq => by rw [HBS.out]; exact List.mem_append_left _ hq)
  have c2 := HB2.out.cell
  clear o2 g2 HF1 HB1
  go_wp2_with fail
  have q2 := markSymbolS_any w2 base (.slice ya n2 yc) osyms HY2.out (k + t1) (by omega) (by rw [HN2.out]; omega)
  rw [HN2.out, show ((k + t1 : Nat) : Int) + 4 * (n2 : Int) = ((k + (t1 + 4 * n2) : Nat) : Int) by omega] at q2
  try rw [show ((k + t1 : Nat) : Int) = (k : Int) + (t1 : Int) by omega] at q2
  refine q2.mono ?_
  clear q2
  rintro e w3 ⟨rfl, o3, g3⟩
  have ho3 : Other (Value.slice ya n2 yc).ownBlock.toList w2 w3 := Other.grown g3 fun q hq => by simpa using hq
  have HG3 : Hid (Other bs w w3) := HG2.out.trans (ho3.mono fun q hq => by rw [HBS.out]; exact List.mem_append_right _ hq)
  have HO3 : Hid (OwnSecs w3 base (.slice sa n1 sc) (markE k ls)) := HO2.out.other ho3 fun q hq e => HD.out q (by simpa using e) (by rw [markE_blks] at hq; exact hq)
  have HY3 := Lib.hid o3
  clear o3 g3 ho3 HO2 HG2 c2
  go_wp2_with fail
  go_ret
  refine ⟨by first | rfl | (congr 3; omega), ⟨_, _, markE k ls, rfl, (markE_fst ls k).symm, HO3.out, ?_, ?_, ?_⟩, HG3.out⟩
  · show OwnSyms _ _ _ (marksY (k + secSteps (ls.map (·.1))) osyms.length)
    rw [HT1.out, HN2.out]; exact HY3.out
  · rw [markE_blks]; exact HD.out
  · rw [markE_blks]; exact HBS.out
end Go.Proofs.YtecpdhjangojiaaGreatDoor
