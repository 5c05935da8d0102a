/- Headers read from bytes. The reference's function that reads headers from bytes. Headers read from bytes: one contract for all bytes; headers compared. -/
import Derived.Test.YtkefbhidfbnipaaBytes
import Derived.Test.YtkefbhidfbnipaaInv
import Derived.StillTailTactics
import Derived.IntWalk
import Derived.Deep.RegionHeld3
import Derived.Deep.RegionLaw
import Derived.BigQuiet
import Derived.Deep.QuietTactic
namespace Go.Proofs.Ytkefbhidfbnipaa
/-! GetHead -/
open Go.ChangeShapes Go.WideShapes Go.ChangeAt Go.RowKit Go.Joins
set_option linter.unusedSimpArgs false
set_option linter.unusedVariables false
set_option maxRecDepth 100000
/-- The header at the beginning of bytes. -/
def getHeadB (l : List UInt8) (a b c d : Int) : Bool := headerB a b c d && eqB (putHead a b c d) (l.take 10)
def headOf (ok : Bool) (a b c d : Int) : Value := if ok then headerV a b c d else headerV 0 0 0 0
set_option maxHeartbeats 1000000 in
theorem i_GetHeader_short (w : World) (v : Value) (l : List UInt8) (h : BytesAt w v l) (hl : l.length < 10) :
    Calls Try.prog 37 #[v] w fun e w' => e = .returned (.tuple #[headerV 0 0 0 0, .bool false]) ∧ Below w.heap.size w w' := by
  obtain ⟨a, cap, rfl, hcap, hmax, hnone, hcell⟩ := h.form
  clear h hnone hcell
  unfold maxLen at hmax
  have e1 : (l.length : Int) < 10 := by omega
  go_enter Try.func37, Try.ntmps37
  go_wp2_with fail
  refine bodyPost_ret (v := .tuple #[headerV 0 0 0 0, .bool false]) (by simp [results, Try.results37, go_sem]) rfl ⟨rfl, ((From.start w).alloc _).below⟩
set_option maxHeartbeats 1000000 in
theorem i_GetHeader (w : World) (v : Value) (l : List UInt8) (h : BytesAt w v l) (hl : 10 ≤ l.length) (x4 x5 x6 : UInt8) (g4 : l[4]? = some x4) (g5 : l[5]? = some x5) (g6 : l[6]? = some x6) (N : Int) (gN : getNum l 7 2 = N) :
    Calls Try.prog 37 #[v] w fun e w' => e = .returned (.tuple #[headOf (getHeadB l x4.toNat x5.toNat x6.toNat N) x4.toNat x5.toNat x6.toNat N, .bool (getHeadB l x4.toNat x5.toNat x6.toNat N)]) ∧ Below w.heap.size w w' := by
  obtain ⟨a, cap, rfl, hcap, hmax, hnone, hcell⟩ := h.form
  have e1 : ¬ (l.length : Int) < 10 := by omega
  obtain ⟨b, off, rfl, hc⟩ := hcell (by omega)
  have c4 := hc 4 (by omega)
  have c5 := hc 5 (by omega)
  have c6 := hc 6 (by omega)
  have hb : b < w.heap.size := World.block_lt_of_cell? w _ c4
  have H := Lib.hid h
  have htake : ∀ u, From w.heap.size w u → BytesAt u (.slice (some ⟨b, off, none⟩) 10 cap) (l.take 10) := by
    intro u hu
    have hl10 : (l.take 10).length = 10 := by rw [List.length_take]; omega
    unfold BytesAt
    rw [hl10]
    refine ⟨by rw [bvs_length, hl10], _, cap, rfl, by omega, hmax, fun h => (by cases h), fun hn => ⟨b, off, rfl, fun j x hx => ?_⟩⟩
    have hj : j < 10 := by
      have := (List.getElem?_eq_some_iff.1 hx).1
      rw [bvs_length, hl10] at this; exact this
    have hcj := hc j (by omega)
    have hbj : b < w.heap.size := World.block_lt_of_cell? w _ hcj
    rw [(hu.below.cell (p := ⟨b, off + j, none⟩) hbj).trans hcj]
    simp only [bvs, List.getElem?_map, List.getElem?_take, hj, if_true, List.getElem?_eq_getElem (show j < l.length by omega), Option.map_some] at hx
    exact hx
  have hcap10 : (10 : Int) ≤ (cap : Int) := by omega
  clear hc hcell hnone h
  rw [List.getElem?_eq_getElem (by omega)] at g4 g5 g6
  simp only [Option.some.injEq] at g4 g5 g6
  rw [g4] at c4
  rw [g5] at c5
  rw [g6] at c6
  clear g4 g5 g6
  have hnum : ∀ wx, From w.heap.size w wx → Calls Try.prog 70 #[.slice (some ⟨b, off, none⟩) l.length cap, .int .i64 7, .int .i64 2] wx fun e w' => e = .returned (.int .i64 N) ∧ wx = w' := by
    intro wx hx; rw [← gN]; exact i_GetNumber wx _ l (H.out.below (Nat.le_refl _) hx.below) 7 2
  clear gN
  unfold maxLen at hmax
  have v4 : IntKind.i64.wrap (x4.toNat : Int) = (x4.toNat : Int) := IntWalk.i64_in _ (by have := u8_lt x4; omega)
  have v5 : IntKind.i64.wrap (x5.toNat : Int) = (x5.toNat : Int) := IntWalk.i64_in _ (by have := u8_lt x5; omega)
  have v6 : IntKind.i64.wrap (x6.toNat : Int) = (x6.toNat : Int) := IntWalk.i64_in _ (by have := u8_lt x6; omega)
  have i1 : (4 : Int) < (l.length : Int) := by omega
  have i2 : (5 : Int) < (l.length : Int) := by omega
  have i3 : (6 : Int) < (l.length : Int) := by omega
  have keepS : ∀ u, From w.heap.size w u → u.cell? ⟨b, off + 4, none⟩ = some (.int .u8 (x4.toNat : Int)) ∧ u.cell? ⟨b, off + 5, none⟩ = some (.int .u8 (x5.toNat : Int)) ∧ u.cell? ⟨b, off + 6, none⟩ = some (.int .u8 (x6.toNat : Int)) ∧ From w.heap.size w u :=
    fun u hu => ⟨(hu.below.cell (p := ⟨b, off + 4, none⟩) hb).trans c4, (hu.below.cell (p := ⟨b, off + 5, none⟩) hb).trans c5, (hu.below.cell (p := ⟨b, off + 6, none⟩) hb).trans c6, hu⟩
  go_enter Try.func37, Try.ntmps37
  go_wp2_with fail
  have first := keepS _ ((From.start w).alloc (.cells #[.int .i64 0, .int .i64 0, .int .i64 0, .int .i64 0] 49))
  go_region_held3 (fun u => u.cell? ⟨b, off + 4, none⟩ = some (.int .u8 (x4.toNat : Int)) ∧ u.cell? ⟨b, off + 5, none⟩ = some (.int .u8 (x5.toNat : Int)) ∧ u.cell? ⟨b, off + 6, none⟩ = some (.int .u8 (x6.toNat : Int)) ∧ From w.heap.size w u)
    (first | assumption | exact keepS _ (by repeat' first | exact From.start w | refine From.drew ?_ | refine From.alloc ?_ _))
    (first | (go_at_call 70; refine (hnum _ (‹_ ∧ _ ∧ _ ∧ From _ _ _›).2.2.2).mono ?_; rintro e w6 ⟨rfl, rfl⟩))
  all_goals
    have HF := Lib.hid (From.drew (((From.start w).alloc (.cells #[.int .i64 0, .int .i64 0, .int .i64 0, .int .i64 0] 49)).alloc (.cells #[.int .i64 (x4.toNat : Int), .int .i64 (x5.toNat : Int), .int .i64 (x6.toNat : Int), .int .i64 N] 49)))
    have HB := Lib.hid ((Blk.newAt (w.alloc (.cells #[.int .i64 0, .int .i64 0, .int .i64 0, .int .i64 0] 49)) #[.int .i64 (x4.toNat : Int), .int .i64 (x5.toNat : Int), .int .i64 (x6.toNat : Int), .int .i64 N] 49 (w.heap.size + 1) (by simp)).call (Below.drew (Below.refl _ _)))
    have HB0 := Lib.hid (((Blk.newAt w #[.int .i64 0, .int .i64 0, .int .i64 0, .int .i64 0] 49 w.heap.size rfl).alloc (.cells #[.int .i64 (x4.toNat : Int), .int .i64 (x5.toNat : Int), .int .i64 (x6.toNat : Int), .int .i64 N] 49)).call (Below.drew (Below.refl _ _)))
    clear keepS first hnum
    generalize World.drew _ = W at *
    have keepT : ∀ u, From W.heap.size W u → (∀ o, u.cell? ⟨w.heap.size + 1, o, none⟩ = #[Value.int .i64 (x4.toNat : Int), .int .i64 (x5.toNat : Int), .int .i64 (x6.toNat : Int), .int .i64 N][o]?) ∧ From W.heap.size W u :=
      fun u hu => ⟨(HB.out.call hu.below).cell, hu⟩
    have first := keepT _ (From.start W)
    clear c4 c5 c6 v4 v5 v6
    go_wp2_with fail
    cases hv : headerB (x4.toNat : Int) (x5.toNat : Int) (x6.toNat : Int) N
    · have E : Hid (getHeadB l x4.toNat x5.toNat x6.toNat N = false) := by show _ = _; simp [getHeadB, hv]
      clear first
      let f : Nat → Value := fun i => match i with
        | 0 => headerV x4.toNat x5.toNat x6.toNat N
        | 1 => .bool false
        | 2 => .bool true
        | 3 => .bool true
        | 10 => .bool true
        | _ => undef
      refine wp_region_go (fun i v _ => v = f i) (fun _ u => From W.heap.size W u) (fun _ _ => True) [[], [0], [1], [2], [3], [3, 4], [3], [3, 6], [3, 5, 7], [3, 8], [3, 9]] (by kernel_rfl) (by kernel_rfl) (by kernel_rfl) (by kernel_rfl) (From.drew (From.start W)) (fun _ _ _ _ h _ => h) ?ho ?hq
      case ho =>
        refine ⟨?_, ?_, ?_, ?_, ?_, ?_, ?_, ?_, ?_, ?_, ?_, trivial⟩
        · intro n a u K hfr _ hS hv' hK
          have e4 : a.tmps.getD 4 undef = .pointer (some ⟨w.heap.size + 1, 0, none⟩) := hfr 4 (not_dst (by kernel_rfl))
          have c := (keepT u hS).1
          refine owe_run rfl (wp_val ?_ (hK _ _ hS trivial (fun _ => rfl)))
          go_simp
          rfl
        · intro n a u K hfr _ hS hv' hK
          have h0 : a.tmps.getD 24 undef = headerV x4.toNat x5.toNat x6.toNat N := hv'.1
          refine owe_run rfl (wp_fn rfl (args1 h0) (enter_fn Try.func57 (by kernel_rfl) rfl _ _) ((i_HeaderValid _ _ _ _ u).mono ?_))
          rw [hv]
          rintro e u1 ⟨rfl, k1⟩
          exact ⟨_, rfl, hK _ _ (hS.call k1) trivial (fun _ => rfl)⟩
        · intro n a u K hfr _ hS hv' hK
          have h0 : a.tmps.getD 25 undef = f (25 - 24) := hv'.1
          simp only [f, Nat.reduceSub] at h0
          refine owe_run rfl (wp_val ?_ (hK _ _ hS trivial (fun _ => rfl)))
          go_simp
          rfl
        · intro n a u K hfr _ hS hv' hK
          have h0 : a.tmps.getD 26 undef = f (26 - 24) := hv'.1
          simp only [f, Nat.reduceSub] at h0
          refine owe_run rfl (wp_val ?_ (hK _ _ hS trivial (fun _ => rfl)))
          go_simp
          rfl
        · intro n a u K hfr _ hS hv' hK
          have h3 : a.tmps.getD 27 undef = .bool true := hv'.1
          exact owe_skip rfl (yielded_at rfl h3) (by decide) (hK _ _ hS trivial (fun _ => rfl))
        · intro n a u K hfr _ hS hv' hK
          have h3 : a.tmps.getD 27 undef = .bool true := hv'.1
          exact owe_skip rfl (yielded_at rfl h3) (by decide) (hK _ _ hS trivial (fun _ => rfl))
        · intro n a u K hfr _ hS hv' hK
          have h3 : a.tmps.getD 27 undef = .bool true := hv'.1
          exact owe_skip rfl (yielded_at rfl h3) (by decide) (hK _ _ hS trivial (fun _ => rfl))
        · intro n a u K hfr _ hS hv' hK
          have h3 : a.tmps.getD 27 undef = .bool true := hv'.1
          exact owe_skip rfl (yielded_at rfl h3) (by decide) (hK _ _ hS trivial (fun _ => rfl))
        · intro n a u K hfr _ hS hv' hK
          have h3 : a.tmps.getD 27 undef = .bool true := hv'.1
          exact owe_skip rfl (yielded_at rfl h3) (by decide) (hK _ _ hS trivial (fun _ => rfl))
        · intro n a u K hfr _ hS hv' hK
          have h3 : a.tmps.getD 27 undef = .bool true := hv'.1
          exact owe_skip rfl (yielded_at rfl h3) (by decide) (hK _ _ hS trivial (fun _ => rfl))
        · intro n a u K hfr _ hS hv' hK
          have h3 : a.tmps.getD 27 undef = .bool true := hv'.1
          refine owe_run rfl (wp_val ?_ (hK _ _ hS trivial (fun _ => rfl)))
          go_simp
          rfl
      case hq =>
        intro g u hS hV
        obtain ⟨e0, e1, e2, e3, e4, e5, e6, e7, e8, e9, e10, -⟩ := hV
        simp only [List.map, putG, e0, e1, e2, e3, e4, e5, e6, e7, e8, e9, e10, f, List.setIfInBounds_toArray, List.set_cons_zero, List.set_cons_succ]
        have HFu := Lib.hid (HF.out.trans (hS.below.mono HF.out.le))
        have cu := (keepT u hS).1
        have b0 := HB0.out.call hS.below
        have c0 := b0.cell
        have f0 := b0.frozen
        have z0 := b0.lt
        clear keepT e0 e1 e2 e3 e4 e5 e6 e7 e8 e9 e10 b0 hS
        go_wp2_with fail
        refine bodyPost_ret (v := .tuple #[headerV 0 0 0 0, .bool false]) (by simp [results, Try.results37, go_sem, c0, z0]) rfl ⟨by rw [E.out]; rfl, ?_⟩
        exact ((((HFu.out.setCell (Nat.le_refl _) _).setCell (Nat.le_refl _) _).setCell (Nat.le_refl _) _).setCell (Nat.le_refl _) _).below
    · have E : Hid (getHeadB l x4.toNat x5.toNat x6.toNat N = eqB (putHead x4.toNat x5.toNat x6.toNat N) (l.take 10)) := by show _ = _; simp [getHeadB, hv]
      obtain ⟨B, hB⟩ : ∃ B, eqB (putHead x4.toNat x5.toNat x6.toNat N) (l.take 10) = B := ⟨_, rfl⟩
      clear first
      let f : Nat → Value := fun i => match i with
        | 0 => headerV x4.toNat x5.toNat x6.toNat N
        | 1 => .bool true
        | 2 => .bool false
        | 3 => .bool false
        | 4 => headerV x4.toNat x5.toNat x6.toNat N
        | 6 => .slice (some ⟨b, off, none⟩) l.length cap
        | 7 => .slice (some ⟨b, off, none⟩) 10 cap
        | 8 => .bool B
        | 9 => .bool (!B)
        | 10 => .bool (!B)
        | _ => undef
      refine wp_region_go (fun i v u => if i = 5 then BytesAt u v (putHead x4.toNat x5.toNat x6.toNat N) else v = f i) (fun _ u => From W.heap.size W u) (fun u u' => Below u.heap.size u u') [[], [0], [1], [2], [3], [3, 4], [3], [3, 6], [3, 5, 7], [3, 8], [3, 9]] (by kernel_rfl) (by kernel_rfl) (by kernel_rfl) (by kernel_rfl) (From.drew (From.start W)) ?hV ?ho ?hq
      case hV =>
        intro i v u u' h hr
        by_cases h5 : i = 5
        · rw [if_pos h5] at h ⊢; exact h.below (Nat.le_refl _) hr
        · rw [if_neg h5] at h ⊢; exact h
      case ho =>
        have hload : ∀ (a : Act) (u : World), From W.heap.size W u → a.tmps.getD 4 undef = .pointer (some ⟨w.heap.size + 1, 0, none⟩) → True := fun _ _ _ _ => trivial
        refine ⟨?_, ?_, ?_, ?_, ?_, ?_, ?_, ?_, ?_, ?_, ?_, trivial⟩
        · intro n a u K hfr _ hS hv' hK
          have e4 : a.tmps.getD 4 undef = .pointer (some ⟨w.heap.size + 1, 0, none⟩) := hfr 4 (not_dst (by kernel_rfl))
          have c := (keepT u hS).1
          refine owe_run rfl (wp_val ?_ (hK _ _ hS (Below.refl _ _) (fun _ => rfl)))
          go_simp
          rfl
        · intro n a u K hfr _ hS hv' hK
          have h0 : a.tmps.getD 24 undef = headerV x4.toNat x5.toNat x6.toNat N := hv'.1
          refine owe_run rfl (wp_fn rfl (args1 h0) (enter_fn Try.func57 (by kernel_rfl) rfl _ _) ((i_HeaderValid _ _ _ _ u).mono ?_))
          rw [hv]
          rintro e u1 ⟨rfl, k1⟩
          exact ⟨_, rfl, hK _ _ (hS.call k1) k1 (fun _ => rfl)⟩
        · intro n a u K hfr _ hS hv' hK
          have h0 : a.tmps.getD 25 undef = .bool true := hv'.1
          refine owe_run rfl (wp_val ?_ (hK _ _ hS (Below.refl _ _) (fun _ => rfl)))
          go_simp
          rfl
        · intro n a u K hfr _ hS hv' hK
          have h0 : a.tmps.getD 26 undef = .bool false := hv'.1
          refine owe_run rfl (wp_val ?_ (hK _ _ hS (Below.refl _ _) (fun _ => rfl)))
          go_simp
          rfl
        · intro n a u K hfr _ hS hv' hK
          have h3 : a.tmps.getD 27 undef = .bool false := hv'.1
          have e4 : a.tmps.getD 4 undef = .pointer (some ⟨w.heap.size + 1, 0, none⟩) := hfr 4 (not_dst (by kernel_rfl))
          have c := (keepT u hS).1
          refine owe_want rfl (yielded_at rfl h3) (wp_val ?_ (hK _ _ hS (Below.refl _ _) (fun _ => rfl)))
          go_simp
          rfl
        · intro n a u K hfr _ hS hv' hK
          have h3 : a.tmps.getD 27 undef = .bool false := hv'.1
          have h0 : a.tmps.getD 28 undef = headerV x4.toNat x5.toNat x6.toNat N := hv'.2.1
          refine owe_want rfl (yielded_at rfl h3) (wp_fn rfl (args1 h0) (enter_fn Try.func22 (by kernel_rfl) rfl _ _) ((i_PutHeader u _ _ _ _).mono ?_))
          rintro e u1 ⟨r, rfl, o1, k1⟩
          exact ⟨_, rfl, hK _ _ (hS.call k1) k1 (fun _ => o1.reads)⟩
        · intro n a u K hfr _ hS hv' hK
          have h3 : a.tmps.getD 27 undef = .bool false := hv'.1
          have e0 : a.tmps.getD 0 undef = .slice (some ⟨b, off, none⟩) l.length cap := hfr 0 (not_dst (by kernel_rfl))
          refine owe_want rfl (yielded_at rfl h3) (wp_val ?_ (hK _ _ hS (Below.refl _ _) (fun _ => rfl)))
          go_simp
          rfl
        · intro n a u K hfr _ hS hv' hK
          have h3 : a.tmps.getD 27 undef = .bool false := hv'.1
          have h6 : a.tmps.getD 30 undef = .slice (some ⟨b, off, none⟩) l.length cap := hv'.2.1
          refine owe_want rfl (yielded_at rfl h3) (wp_val ?_ (hK _ _ hS (Below.refl _ _) (fun _ => rfl)))
          go_simp
          rfl
        · intro n a u K hfr _ hS hv' hK
          have h3 : a.tmps.getD 27 undef = .bool false := hv'.1
          have h5 : BytesAt u (a.tmps.getD 29 undef) (putHead x4.toNat x5.toNat x6.toNat N) := hv'.2.1
          have h7 : a.tmps.getD 31 undef = .slice (some ⟨b, off, none⟩) 10 cap := hv'.2.2.1
          refine owe_want rfl (yielded_at rfl h3) (wp_fn rfl (args2 rfl h7) (enter_fn Try.func41 (by kernel_rfl) rfl _ _) ((bytesEqual_any u _ _ _ _ h5 (htake u (HF.out.trans (hS.below.mono HF.out.le)))).mono ?_))
          rw [hB]
          rintro e u1 ⟨rfl, rfl⟩
          exact ⟨_, rfl, hK _ _ hS (Below.refl _ _) (fun _ => rfl)⟩
        · intro n a u K hfr _ hS hv' hK
          have h3 : a.tmps.getD 27 undef = .bool false := hv'.1
          have h8 : a.tmps.getD 32 undef = .bool B := hv'.2.1
          refine owe_want rfl (yielded_at rfl h3) (wp_val ?_ (hK _ _ hS (Below.refl _ _) (fun _ => rfl)))
          go_simp
          rfl
        · intro n a u K hfr _ hS hv' hK
          have h3 : a.tmps.getD 27 undef = .bool false := hv'.1
          have h9 : a.tmps.getD 33 undef = .bool (!B) := hv'.2.1
          refine owe_run rfl (wp_val ?_ (hK _ _ hS (Below.refl _ _) (fun _ => rfl)))
          go_simp
          rfl
      case hq =>
        intro g u hS hV
        obtain ⟨e0, e1, e2, e3, e4, -, e6, e7, e8, e9, e10, -⟩ := hV
        simp only [List.map, putG, List.setIfInBounds_toArray, List.set_cons_zero, List.set_cons_succ]
        have g0 : g 0 = headerV x4.toNat x5.toNat x6.toNat N := e0
        have g1 : g 1 = .bool true := e1
        have g2 : g 2 = .bool false := e2
        have g3 : g 3 = .bool false := e3
        have g8 : g 8 = .bool B := e8
        have g9 : g 9 = .bool (!B) := e9
        have g10 : g 10 = .bool (!B) := e10
        have g4 : g 4 = headerV x4.toNat x5.toNat x6.toNat N := e4
        clear e0 e1 e2 e3 e4 e6 e7 e8 e9 e10
        simp only [Nat.reduceAdd, g0, g1, g2, g3, g4, g8, g9, g10]
        have HFu := Lib.hid (HF.out.trans (hS.below.mono HF.out.le))
        have cu := (keepT u hS).1
        have b0 := HB0.out.call hS.below
        have c0 := b0.cell
        have f0 := b0.frozen
        have z0 := b0.lt
        rw [hB] at E
        clear keepT b0 hS g0 g1 g2 g3 g4 g8 g9 g10 hB
        cases B
        · go_wp2_with fail
          refine bodyPost_ret (v := .tuple #[headerV 0 0 0 0, .bool false]) (by simp [results, Try.results37, go_sem, c0, z0]) rfl ⟨by rw [E.out]; rfl, ?_⟩
          exact ((((HFu.out.setCell (Nat.le_refl _) _).setCell (Nat.le_refl _) _).setCell (Nat.le_refl _) _).setCell (Nat.le_refl _) _).below
        · go_wp2_with fail
          refine bodyPost_ret (v := .tuple #[headerV x4.toNat x5.toNat x6.toNat N, .bool true]) (by simp [results, Try.results37, go_sem, c0, z0]) rfl ⟨by rw [E.out]; rfl, ?_⟩
          exact ((((HFu.out.setCell (Nat.le_refl _) _).setCell (Nat.le_refl _) _).setCell (Nat.le_refl _) _).setCell (Nat.le_refl _) _).below
/-! GetHeadS -/
open Go.ChangeShapes Go.WideShapes Go.ChangeAt Go.RowKit Go.Joins
set_option linter.unusedSimpArgs false
set_option linter.unusedVariables false
set_option maxRecDepth 100000
/-! GetHeadA -/
open Go.ChangeShapes Go.WideShapes Go.ChangeAt Go.RowKit Go.Joins
set_option linter.unusedSimpArgs false
set_option linter.unusedVariables false
set_option maxRecDepth 100000
/-- The header at the beginning of bytes. -/
def getHead (l : List UInt8) : Option (Int × Int × Int × Int) :=
  if 10 ≤ l.length ∧ getHeadB l (l.getD 4 0).toNat (l.getD 5 0).toNat (l.getD 6 0).toNat (getNum l 7 2) = true then some ((l.getD 4 0).toNat, (l.getD 5 0).toNat, (l.getD 6 0).toNat, getNum l 7 2) else none
def headOpt : Option (Int × Int × Int × Int) → Value
  | some (a, b, c, d) => headerV a b c d
  | none => headerV 0 0 0 0
/-- How a header is handed back. -/
def RetHead (w : World) (o : Option (Int × Int × Int × Int)) (e : Ending) (w' : World) : Prop := e = .returned (.tuple #[headOpt o, .bool o.isSome]) ∧ Below w.heap.size w w'
theorem i_GetHeader_all (w : World) (v : Value) (l : List UInt8) (h : BytesAt w v l) : Calls Try.prog 37 #[v] w (RetHead w (getHead l)) := by
  by_cases hl : 10 ≤ l.length
  · have hg : ∀ i, i < l.length → l[i]? = some (l.getD i 0) := fun i hi => by simp [List.getD, List.getElem?_eq_getElem hi]
    have := i_GetHeader w v l h hl _ _ _ (hg 4 (by omega)) (hg 5 (by omega)) (hg 6 (by omega)) _ rfl
    refine this.mono fun e w' ⟨h1, h2⟩ => ⟨?_, h2⟩
    by_cases hb : getHeadB l (l.getD 4 0).toNat (l.getD 5 0).toNat (l.getD 6 0).toNat (getNum l 7 2) = true
    · have e : getHead l = some (((l.getD 4 0).toNat : Int), ((l.getD 5 0).toNat : Int), ((l.getD 6 0).toNat : Int), getNum l 7 2) := by unfold getHead; rw [if_pos ⟨hl, hb⟩]
      rw [h1, e, hb]; rfl
    · have hb' : getHeadB l (l.getD 4 0).toNat (l.getD 5 0).toNat (l.getD 6 0).toNat (getNum l 7 2) = false := by simpa using hb
      have e : getHead l = none := by unfold getHead; rw [if_neg (fun h => hb h.2)]
      rw [h1, e, hb']; rfl
  · refine (i_GetHeader_short w v l h (by omega)).mono fun e w' ⟨h1, h2⟩ => ⟨?_, h2⟩
    have e : getHead l = none := by unfold getHead; rw [if_neg (fun h => hl h.1)]
    rw [h1, e]; rfl
theorem getHead_some {l : List UInt8} {a b c d : Int} (h : getHead l = some (a, b, c, d)) : 10 ≤ l.length ∧ headerB a b c d = true ∧ putHead a b c d = l.take 10 := by
  unfold getHead at h
  split at h
  · rename_i hc
    simp only [Option.some.injEq, Prod.mk.injEq] at h
    obtain ⟨rfl, rfl, rfl, rfl⟩ := h
    refine ⟨hc.1, ?_⟩
    have h2 := hc.2
    unfold getHeadB at h2
    rw [Bool.and_eq_true] at h2
    exact ⟨h2.1, by simpa [eqB] using h2.2⟩
  · cases h
theorem getHead_put {a b c d : Int} (h : headerB a b c d = true) (r : List UInt8) : getHead (putHead a b c d ++ r) = some (a, b, c, d) ∧ (putHead a b c d).length = 10 := by
  have hh := h
  simp only [headerB, Bool.and_eq_true] at hh
  obtain ⟨⟨⟨q1, q2⟩, q3⟩, q4⟩ := hh
  have q1 := (withinB_iff _ _ _).1 q1
  have q2 := (withinB_iff _ _ _).1 q2
  have q3 := (withinB_iff _ _ _).1 q3
  have q4 := (withinB_iff _ _ _).1 q4
  obtain ⟨A, rfl⟩ := Int.eq_ofNat_of_zero_le q1.1
  obtain ⟨B, rfl⟩ := Int.eq_ofNat_of_zero_le q2.1
  obtain ⟨C, rfl⟩ := Int.eq_ofNat_of_zero_le q3.1
  obtain ⟨D, rfl⟩ := Int.eq_ofNat_of_zero_le (show 0 ≤ d by omega)
  have e : putHead A B C D = [111, 98, 106, 1, UInt8.ofNat A, UInt8.ofNat B, UInt8.ofNat C, UInt8.ofNat (D % 256), UInt8.ofNat (D / 256 % 256), 0] := by
    unfold putHead
    rw [if_pos h]
    simp [leBytes]
  have f : ∀ n : Nat, n ≤ 255 → ((UInt8.ofNat n).toNat : Int) = n := fun n hn => by rw [UInt8.toNat_ofNat']; omega
  have hlen : (putHead A B C D).length = 10 := by rw [e]; rfl
  refine ⟨?_, hlen⟩
  have g4 : (putHead (A : Int) B C D ++ r).getD 4 0 = UInt8.ofNat A := by rw [e]; rfl
  have g5 : (putHead (A : Int) B C D ++ r).getD 5 0 = UInt8.ofNat B := by rw [e]; rfl
  have g6 : (putHead (A : Int) B C D ++ r).getD 6 0 = UInt8.ofNat C := by rw [e]; rfl
  have gn : getNum (putHead (A : Int) B C D ++ r) 7 2 = D := by
    rw [getNum_of (wide := 2) rfl ((withinB_iff _ _ _).2 ⟨by decide, by rw [List.length_append, hlen]; omega⟩), e]
    show leNum [UInt8.ofNat (D % 256), UInt8.ofNat (D / 256 % 256)] = D
    simp only [leNum]
    rw [f _ (by omega), f _ (by omega)]
    omega
  unfold getHead
  rw [g4, g5, g6, gn, f A (by omega), f B (by omega), f C (by omega), if_pos]
  refine ⟨by rw [List.length_append]; omega, ?_⟩
  unfold getHeadB
  rw [h, List.take_append_of_le_length (by omega), List.take_of_length_le (by omega), eqB_self]
  rfl
end Go.Proofs.Ytkefbhidfbnipaa
