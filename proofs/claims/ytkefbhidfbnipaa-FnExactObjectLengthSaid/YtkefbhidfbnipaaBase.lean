/- The contracts of the functions on whole numbers: ranges, alignment, widths, signed numbers. Slices that read as lists, slices that the call itself owns, the law of append for any source, and the frame of a law's statement. Slices of texts. Small aids for walks: regions that draw their order, walked once in the order of the text. The head of the translation, read word by word; the closed facts that every statement's frame asks. -/
import Derived.Test.YtkefbhidfbnipaaRows
import Derived.WalkKit
import Derived.WalkSpells
import Derived.WalkLawsBesides
import Derived.BigGuardPart
import Derived.Lib.Hide
import Derived.ProofKit
import Derived.OpenShut
import Derived.Lib.SmallJoins
import Derived.Deep.AppendSrc
import Derived.Carry
import Derived.Deep.QuietTactic
import Derived.BigQuiet
import Derived.IntWalk
namespace Go.Proofs.Ytkefbhidfbnipaa
/-! Num -/
open Go.RowKit
set_option linter.unusedSimpArgs false
set_option linter.unusedVariables false
set_option maxRecDepth 100000

/-- Whether a number lies in a range. -/
def withinB (n lo hi : Int) : Bool := decide (lo ≤ n) && decide (n ≤ hi)
theorem withinB_iff (n lo hi : Int) : withinB n lo hi = true ↔ lo ≤ n ∧ n ≤ hi := by simp [withinB]
theorem withinB_not (n lo hi : Int) : withinB n lo hi = false ↔ ¬ (lo ≤ n ∧ n ≤ hi) := by rw [← withinB_iff]; simp

/-- 256 to the power of a width in 1..4. -/
def pow256 (wide : Int) : Int := if wide = 1 then 256 else if wide = 2 then 65536 else if wide = 3 then 16777216 else 4294967296
/-- Whether a width and a number are fit for bytes. -/
def numB (n wide : Int) : Bool := withinB wide 1 4 && withinB n 0 (pow256 wide - 1)
def signedOf (n wide : Int) : Int := if numB n wide then (if pow256 wide / 2 ≤ n then n - pow256 wide else n) else 0
theorem wide_four {wide : Int} (h : withinB wide 1 4 = true) : wide = 1 ∨ wide = 2 ∨ wide = 3 ∨ wide = 4 := by
  have := (withinB_iff _ _ _).1 h; omega

set_option maxHeartbeats 400000 in
theorem within_any (n lo hi : Int) (w : World) :
    Calls Try.prog 58 #[.int .i64 n, .int .i64 lo, .int .i64 hi] w fun e w' => e = .returned (.bool (withinB n lo hi)) ∧ w = w' := by
  unfold withinB
  by_cases h1 : lo ≤ n
  · go_enter Try.func58, Try.ntmps58
    go_wp2
    go_ret
    exact ⟨by simp [h1], rfl⟩
  · go_enter Try.func58, Try.ntmps58
    go_wp2
    go_ret
    exact ⟨by have : ¬ lo ≤ n := by omega
              simp [this], rfl⟩

set_option maxHeartbeats 400000 in
theorem l1In_any (n lo hi : Int) (w : World) :
    Calls Try.prog 63 #[.int .i64 n, .int .i64 lo, .int .i64 hi] w fun e w' => e = .returned (.bool (withinB n lo hi)) ∧ w = w' := by
  unfold withinB
  by_cases h1 : lo ≤ n
  · go_enter Try.func63, Try.ntmps63
    go_wp2
    go_ret
    exact ⟨by simp [h1], rfl⟩
  · go_enter Try.func63, Try.ntmps63
    go_wp2
    go_ret
    exact ⟨by have : ¬ lo ≤ n := by omega
              simp [this], rfl⟩

/-- Whether a number is one of which places can be multiples. -/
def alignB (n : Int) : Bool := n == 1 || n == 2 || n == 4 || n == 8
theorem alignB_iff (n : Int) : alignB n = true ↔ n = 1 ∨ n = 2 ∨ n = 4 ∨ n = 8 := by simp [alignB]; omega

/-- The least multiple that is at least a number. -/
def alignUp (n to : Int) : Int := if alignB to && withinB n 0 1000000 then (n + to - 1) / to * to else -1

set_option maxHeartbeats 400000 in
theorem isAlign_any (n : Int) (w : World) :
    Calls Try.prog 68 #[.int .i64 n] w fun e w' => e = .returned (.bool (alignB n)) ∧ w = w' := by
  unfold alignB
  by_cases h1 : n = 1
  · subst h1
    go_enter Try.func68, Try.ntmps68
    go_wp2
    go_ret
    exact ⟨rfl, rfl⟩
  by_cases h2 : n = 2
  · subst h2
    go_enter Try.func68, Try.ntmps68
    go_wp2
    go_ret
    exact ⟨rfl, rfl⟩
  by_cases h3 : n = 4
  · subst h3
    go_enter Try.func68, Try.ntmps68
    go_wp2
    go_ret
    exact ⟨rfl, rfl⟩
  · have e1 : (n == 1) = false := by simpa using h1
    have e2 : (n == 2) = false := by simpa using h2
    have e3 : (n == 4) = false := by simpa using h3
    go_enter Try.func68, Try.ntmps68
    go_wp2
    go_ret
    exact ⟨by simp [e1, e2, e3], rfl⟩

set_option maxHeartbeats 400000 in
theorem aligned_any (n to : Int) (w : World) (h0 : 0 ≤ n) (h1 : n ≤ 1000000) (h2 : 1 ≤ to) (h3 : to ≤ 8) :
    Calls Try.prog 69 #[.int .i64 n, .int .i64 to] w fun e w' => e = .returned (.int .i64 ((n + to - 1) / to * to)) ∧ w = w' := by
  have hd : 0 ≤ (n + to - 1) / to := Int.ediv_nonneg (by omega) (by omega)
  have hm : (n + to - 1) / to * to ≤ n + to - 1 := Int.ediv_mul_le _ (by omega)
  have hn : 0 ≤ (n + to - 1) / to * to := Int.mul_nonneg hd (by omega)
  have hd2 : (n + to - 1) / to ≤ 2000000 := by
    refine Int.le_trans ?_ (show n + to - 1 ≤ 2000000 by omega)
    exact Int.ediv_le_self _ (by omega)
  go_enter Try.func69, Try.ntmps69
  go_wp2
  go_ret
  refine ⟨?_, rfl⟩
  congr 2

set_option maxHeartbeats 400000 in
theorem alignUp_any (n to : Int) (w : World) :
    Calls Try.prog 36 #[.int .i64 n, .int .i64 to] w fun e w' => e = .returned (.int .i64 (alignUp n to)) ∧ w = w' := by
  unfold alignUp
  cases ha : alignB to
  · go_enter Try.func36, Try.ntmps36
    go_wp2_with (first
      | (go_at_call 68; refine (isAlign_any _ _).mono ?_; rintro e w' ⟨rfl, rfl⟩))
    go_ret
    exact ⟨by simp, rfl⟩
  cases hw : withinB n 0 1000000
  · go_enter Try.func36, Try.ntmps36
    go_wp2_with (first
      | (go_at_call 58; refine (within_any _ _ _ _).mono ?_; rintro e w' ⟨rfl, rfl⟩)
      | (go_at_call 68; refine (isAlign_any _ _).mono ?_; rintro e w' ⟨rfl, rfl⟩))
    go_ret
    exact ⟨by simp, rfl⟩
  · have h1 := (alignB_iff _).1 ha
    have h2 := (withinB_iff _ _ _).1 hw
    have H1 := Lib.hid h1
    have H2 := Lib.hid h2
    clear h1 h2
    go_enter Try.func36, Try.ntmps36
    go_wp2_with (first
      | (go_at_call 58; refine (within_any _ _ _ _).mono ?_; rintro e w' ⟨rfl, rfl⟩)
      | (go_at_call 68; refine (isAlign_any _ _).mono ?_; rintro e w' ⟨rfl, rfl⟩)
      | (go_at_call 69; refine (aligned_any _ _ _ (by have := H2.out; omega) (by have := H2.out; omega) (by have := H1.out; omega) (by have := H1.out; omega)).mono ?_; rintro e w' ⟨rfl, rfl⟩))
    go_ret
    exact ⟨by simp, rfl⟩

set_option maxHeartbeats 400000 in
theorem sAlignUp_any (n to : Int) (w : World) :
    Calls Try.prog 66 #[.int .i64 n, .int .i64 to] w fun e w' => e = .returned (.int .i64 (alignUp n to)) ∧ w = w' := by
  cases hw : withinB n 0 1000000
  · go_enter Try.func66, Try.ntmps66
    go_wp2_with (first | (go_at_call 63; (with_reducible refine (l1In_any _ _ _ _).mono ?_); rintro e w' ⟨rfl, rfl⟩))
    go_ret
    exact ⟨by simp [alignUp, *], rfl⟩
  · cases ha : alignB to
    · have h0 : ¬ (to = 1 ∨ to = 2 ∨ to = 4 ∨ to = 8) := by rw [← alignB_iff, ha]; simp
      have e1 : (to != 1) = true := by simp; omega
      have e2 : (to != 2) = true := by simp; omega
      have e3 : (to != 4) = true := by simp; omega
      have e4 : (to != 8) = true := by simp; omega
      clear h0
      go_enter Try.func66, Try.ntmps66
      go_wp2_with (first | (go_at_call 63; (with_reducible refine (l1In_any _ _ _ _).mono ?_); rintro e w' ⟨rfl, rfl⟩))
      go_ret
      exact ⟨by simp [alignUp, *], rfl⟩
    · have h0 := (alignB_iff _).1 ha
      have h1 := (withinB_iff _ _ _).1 hw
      obtain ⟨h1, h2⟩ := h1
      rcases h0 with rfl | rfl | rfl | rfl
      all_goals
        go_enter Try.func66, Try.ntmps66
        go_wp2_with (first | (go_at_call 63; (with_reducible refine (l1In_any _ _ _ _).mono ?_); rintro e w' ⟨rfl, rfl⟩))
        go_ret
        exact ⟨by simp [alignUp, *], rfl⟩


def p256 (k : Nat) : Int := if k = 0 then 1 else if k = 1 then 256 else if k = 2 then 65536 else if k = 3 then 16777216 else 4294967296
theorem p256_pow {k : Nat} {wide : Int} (h : withinB wide 1 4 = true) (hk : (k : Int) = wide) : p256 k = pow256 wide := by
  rcases wide_four h with rfl | rfl | rfl | rfl
  · obtain rfl : k = 1 := by omega
    rfl
  · obtain rfl : k = 2 := by omega
    rfl
  · obtain rfl : k = 3 := by omega
    rfl
  · obtain rfl : k = 4 := by omega
    rfl

set_option maxHeartbeats 800000 in
theorem l1Power_any (wide : Int) (w : World) (hw : withinB wide 1 4 = true) :
    Calls Try.prog 64 #[.int .i64 wide] w fun e w' => e = .returned (.int .i64 (pow256 wide)) ∧ w = w' := by
  have h4 := (withinB_iff _ _ _).1 hw
  obtain ⟨h4, h5⟩ := h4
  have HW := Lib.hid hw
  clear hw
  go_enter Try.func64, Try.ntmps64
  go_wp2_with fail
  go_loop [3, 4] (fun n i => ∃ k : Nat, (k : Int) ≤ wide ∧ i = .int .i64 k ∧ n = .int .i64 (p256 k)) (fun _ i => (wide - intOf i).toNat)
  case atStart => exact ⟨0, by omega, rfl, rfl⟩
  case round =>
    obtain ⟨k, hk, rfl, rfl⟩ := hrel
    by_cases hlt : (k : Int) < wide
    · have h : k = 0 ∨ k = 1 ∨ k = 2 ∨ k = 3 := by omega
      rcases h with rfl | rfl | rfl | rfl
      · have e : p256 0 = 1 := rfl
        go_wp2_with fail
        go_round
        case rel => exact ⟨0 + 1, by omega, rfl, rfl⟩
        case measure => simp [intOf]; omega
      · have e : p256 1 = 256 := rfl
        go_wp2_with fail
        go_round
        case rel => exact ⟨1 + 1, by omega, rfl, rfl⟩
        case measure => simp [intOf]; omega
      · have e : p256 2 = 65536 := rfl
        go_wp2_with fail
        go_round
        case rel => exact ⟨2 + 1, by omega, rfl, rfl⟩
        case measure => simp [intOf]; omega
      · have e : p256 3 = 16777216 := rfl
        go_wp2_with fail
        go_round
        case rel => exact ⟨3 + 1, by omega, rfl, rfl⟩
        case measure => simp [intOf]; omega
    · have E : Hid (p256 k = pow256 wide) := p256_pow HW.out (by omega)
      go_wp2_with fail
      go_ret
      exact ⟨by rw [← E.out]; rfl, rfl⟩

/-! Base -/
open Go.ChangeShapes Go.WideShapes Go.ChangeAt Go.RowKit Go.Joins
set_option linter.unusedSimpArgs false
set_option linter.unusedVariables false
set_option maxRecDepth 100000

theorem own_knob : ownKnob Try.prog.godebug = none := by kernel_rfl
theorem laid_out : laidOutB Try.prog = true := by kernel_rfl

/-- Behind a call that has left the old blocks alone: all old cells and marks read as before. -/
theorem bcell {W w1 : World} {B : Nat} (hb : Below B W w1) : (∀ b o, b < B → w1.cell? ⟨b, o, none⟩ = W.cell? ⟨b, o, none⟩) ∧ (∀ b o, b < B → w1.frozen? ⟨b, o, none⟩ = W.frozen? ⟨b, o, none⟩) :=
  ⟨fun b o h => hb.cell (p := ⟨b, o, none⟩) h, fun b o h => hb.frozen (p := ⟨b, o, none⟩) h⟩

/-- A block of cells, none of them frozen. -/
def Blk (w : World) (g : Nat) (c : Array Value) (t : TypeId) : Prop := w.heap[g]? = some (.cells c t (0, 0))
theorem Blk.new (w : World) (c : Array Value) (t : TypeId) : Blk (w.alloc (.cells c t)) w.heap.size c t := heap_alloc_new w _
theorem Blk.lt {w : World} {g : Nat} {c : Array Value} {t : TypeId} (h : Blk w g c t) : g < w.heap.size := (Array.getElem?_eq_some_iff.1 h).1
theorem Blk.below {w w1 : World} {g B : Nat} {c : Array Value} {t : TypeId} (h : Blk w g c t) (hb : Below B w w1) (hg : g < B) : Blk w1 g c t := (hb.block g hg).trans h
theorem Blk.call {w w1 : World} {g : Nat} {c : Array Value} {t : TypeId} (h : Blk w g c t) (hb : Below w.heap.size w w1) : Blk w1 g c t := h.below hb h.lt
theorem Blk.alloc {w : World} {g : Nat} {c : Array Value} {t : TypeId} (h : Blk w g c t) (o : Obj) : Blk (w.alloc o) g c t := (Below.heap_alloc w o g h.lt).trans h
theorem Blk.drew {w : World} {g : Nat} {c : Array Value} {t : TypeId} (h : Blk w g c t) : Blk w.drew g c t := h
theorem Blk.drewN {w : World} {g : Nat} {c : Array Value} {t : TypeId} (h : Blk w g c t) (n : Nat) : Blk (w.drewN n) g c t := h
theorem Blk.other {w : World} {g : Nat} {c : Array Value} {t : TypeId} (h : Blk w g c t) {p : Addr} (hp : p.block ≠ g) (u : Value) : Blk (w.setCell p u) g c t := (Below.heap_setCell w p u g (Ne.symm hp)).trans h
theorem Blk.cell {w : World} {g : Nat} {c : Array Value} {t : TypeId} (h : Blk w g c t) : ∀ o, w.cell? ⟨g, o, none⟩ = c[o]? := fun o => cell_of_row w g o c t (0, 0) h
theorem Blk.frozen {w : World} {g : Nat} {c : Array Value} {t : TypeId} (h : Blk w g c t) : ∀ o, w.frozen? ⟨g, o, none⟩ = false := fun o => by
  have h' : w.heap[g]? = some (.cells c t (0, 0)) := h
  simp [World.frozen?, h']
theorem Blk.grown {w w1 : World} {g : Nat} {c : Array Value} {t : TypeId} {row : Option Nat} (h : Blk w g c t) (hg : w.grownBy w1 row) (hne : some g ≠ row) : Blk w1 g c t := (hg.block g h.lt hne).trans h
theorem Blk.set {w : World} {g o : Nat} {c : Array Value} {t : TypeId} (h : Blk w g c t) (u : Value) : Blk (w.setCell ⟨g, o, none⟩ u) g (c.setIfInBounds o u) t := by
  have h' : w.heap[g]? = some (.cells c t (0, 0)) := h
  show (w.setCell ⟨g, o, none⟩ u).heap[g]? = _
  simp [World.setCell, Array.getElem?_modify, h']

/-- From a world on: below B nothing has turned, and the heap reaches B. -/
structure From (B : Nat) (a w : World) : Prop where
  below : Below B a w
  le : B ≤ w.heap.size
theorem From.start (w : World) : From w.heap.size w w := ⟨Below.refl _ _, Nat.le_refl _⟩
theorem From.alloc {B : Nat} {a w : World} (h : From B a w) (o : Obj) : From B a (w.alloc o) := ⟨h.below.alloc h.le o, by have := h.le; simp; omega⟩
theorem From.drew {B : Nat} {a w : World} (h : From B a w) : From B a w.drew := ⟨h.below.drew, h.le⟩
theorem From.drewN {B : Nat} {a w : World} (h : From B a w) (n : Nat) : From B a (w.drewN n) := ⟨⟨h.below.os, h.below.tape, h.below.output, h.below.size, h.below.block⟩, h.le⟩
theorem From.call {B : Nat} {a w w1 : World} (h : From B a w) (hb : Below w.heap.size w w1) : From B a w1 := ⟨h.below.trans (hb.mono h.le), Nat.le_trans h.le hb.size⟩
theorem From.trans {B : Nat} {a w w1 : World} (h : From B a w) (hb : Below B w w1) : From B a w1 := ⟨h.below.trans hb, Nat.le_trans h.le hb.size⟩
theorem From.setCell {B : Nat} {a w : World} (h : From B a w) {p : Addr} (hp : B ≤ p.block) (u : Value) : From B a (w.setCell p u) := ⟨h.below.setCell hp u, by have := h.le; simpa [World.setCell] using this⟩
theorem From.grown {B : Nat} {a w w1 : World} {row : Option Nat} (h : From B a w) (hg : w.grownBy w1 row) (hr : ∀ k, row = some k → B ≤ k) : From B a w1 := ⟨h.below.grown hg h.le hr, Nat.le_trans h.le hg.size⟩

/-- The cells of bytes. -/
def bvs (l : List UInt8) : List Value := l.map fun c => Value.int .u8 (c.toNat : Int)
theorem bvs_length (l : List UInt8) : (bvs l).length = l.length := by simp [bvs]
theorem bvs_append (l k : List UInt8) : bvs (l ++ k) = bvs l ++ bvs k := by simp [bvs]
theorem bvs_one (l : List UInt8) : ∀ u ∈ bvs l, u.oneCell' = true := by
  intro u hu; obtain ⟨_, _, rfl⟩ := List.mem_map.1 hu; rfl

/-- A value reads, in a world, as a slice of n elements with these cells. -/
def Reads (w : World) (size : Nat) (v : Value) (n : Nat) (xs : List Value) : Prop :=
  xs.length = n * size ∧ ∃ (a : Option Addr) (cap : Nat), v = .slice a n cap ∧ n ≤ cap ∧ cap ≤ maxLen ∧
    (a = none → cap = 0) ∧
    (0 < n → ∃ b off, a = some ⟨b, off, none⟩ ∧ ∀ j u, xs[j]? = some u → w.cell? ⟨b, off + j, none⟩ = some u)

theorem Reads.len {w : World} {size : Nat} {v : Value} {n : Nat} {xs : List Value} (h : Reads w size v n xs) : n ≤ maxLen := by
  obtain ⟨_, a, cap, _, h1, h2, _⟩ := h; omega
theorem Reads.nil (w : World) (size : Nat) : Reads w size (.slice none 0 0) 0 [] := ⟨by simp, none, 0, rfl, Nat.le_refl _, Nat.zero_le _, fun _ => rfl, fun h => by omega⟩

/-- What reads, reads on where the old blocks are as they were. -/
theorem Reads.below {w w' : World} {size : Nat} {v : Value} {n : Nat} {xs : List Value} {B : Nat} (h : Reads w size v n xs) (hB : w.heap.size ≤ B) (hb : Below B w w') : Reads w' size v n xs := by
  obtain ⟨h1, a, cap, rfl, h2, h3, h4, h5⟩ := h
  refine ⟨h1, a, cap, rfl, h2, h3, h4, fun hn => ?_⟩
  obtain ⟨b, off, rfl, hc⟩ := h5 hn
  refine ⟨b, off, rfl, fun j u hu => ?_⟩
  have h0 := hc j u hu
  have hlt : b < w.heap.size := World.block_lt_of_cell? w _ h0
  rw [hb.cell (p := ⟨b, off + j, none⟩) (show b < B by omega)]
  exact h0

/-- What the call itself owns, reads. -/
theorem reads_of_owns {w : World} {base : Nat} {e : TypeId} {size : Nat} {v : Value} {n : Nat} {xs : List Value} (h : w.ownsRow base e size v n xs) : Reads w size v n xs := by
  obtain ⟨h1, h2⟩ := h
  refine ⟨h1, ?_⟩
  rcases h2 with ⟨rfl, rfl⟩ | ⟨g, cap, cur, rfl, hb, hg, hn, hm, hs, ht⟩
  · exact ⟨none, 0, rfl, Nat.le_refl _, Nat.zero_le _, fun _ => rfl, fun h => by omega⟩
  · refine ⟨some ⟨g, 0, none⟩, cap, rfl, hn, hm, fun h => (by cases h), fun _ => ⟨g, 0, rfl, fun j u hu => ?_⟩⟩
    rw [Nat.zero_add, cell_of_row w g j cur e (0, 0) hg]
    rw [← ht, List.getElem?_take] at hu
    split at hu
    · simpa using hu
    · cases hu

/-- A slice of bytes. -/
def BytesAt (w : World) (v : Value) (l : List UInt8) : Prop := Reads w 1 v l.length (bvs l)
theorem BytesAt.below {w w' : World} {v : Value} {l : List UInt8} {B : Nat} (h : BytesAt w v l) (hB : w.heap.size ≤ B) (hb : Below B w w') : BytesAt w' v l := Reads.below h hB hb

/-- For a walk: the value spelled out, the cells. -/
theorem BytesAt.form {w : World} {v : Value} {l : List UInt8} (h : BytesAt w v l) :
    ∃ (a : Option Addr) (cap : Nat), v = .slice a l.length cap ∧ l.length ≤ cap ∧ cap ≤ maxLen ∧ (a = none → cap = 0) ∧
      (0 < l.length → ∃ b off, a = some ⟨b, off, none⟩ ∧ ∀ j (hj : j < l.length), w.cell? ⟨b, off + j, none⟩ = some (.int .u8 (l[j].toNat : Int))) := by
  obtain ⟨_, a, cap, rfl, h2, h3, h4, h5⟩ := h
  refine ⟨a, cap, rfl, h2, h3, h4, fun hn => ?_⟩
  obtain ⟨b, off, rfl, hc⟩ := h5 hn
  exact ⟨b, off, rfl, fun j hj => hc j _ (by simp [bvs, hj])⟩

theorem BytesAt.mk {w : World} {b off cap : Nat} {l : List UInt8} (h1 : l.length ≤ cap) (h2 : cap ≤ maxLen)
    (hc : ∀ j (hj : j < l.length), w.cell? ⟨b, off + j, none⟩ = some (.int .u8 (l[j].toNat : Int))) : BytesAt w (.slice (some ⟨b, off, none⟩) l.length cap) l := by
  refine ⟨by simp [bvs], _, cap, rfl, h1, h2, (fun h => by cases h), fun _ => ⟨b, off, rfl, fun j u hu => ?_⟩⟩
  simp only [bvs, List.getElem?_map, Option.map_eq_some_iff] at hu
  obtain ⟨c, hc', rfl⟩ := hu
  obtain ⟨hj, rfl⟩ := List.getElem?_eq_some_iff.1 hc'
  exact hc j hj

/-- Bytes that the call owns. -/
def OwnB (w : World) (base : Nat) (v : Value) (l : List UInt8) : Prop := w.ownsRow base 5 1 v l.length (bvs l)
theorem OwnB.reads {w : World} {base : Nat} {v : Value} {l : List UInt8} (h : OwnB w base v l) : BytesAt w v l := reads_of_owns h

theorem owns_call {w w' : World} {base : Nat} {e : TypeId} {size : Nat} {v : Value} {n : Nat} {xs : List Value} (h : w.ownsRow base e size v n xs) (hb : Below w.heap.size w w') : w'.ownsRow base e size v n xs := by
  refine ⟨h.1, ?_⟩
  rcases h.2 with h2 | ⟨g, cap, cur, hv, hg, hh, r⟩
  · exact .inl h2
  · exact .inr ⟨g, cap, cur, hv, hg, (hb.block g (Array.getElem?_eq_some_iff.1 hh).1).trans hh, r⟩
theorem OwnB.call {w w' : World} {base : Nat} {v : Value} {l : List UInt8} (h : OwnB w base v l) (hb : Below w.heap.size w w') : OwnB w' base v l := owns_call h hb

theorem info_u8 : (Try.prog.info? 5).map (fun i => (i.zero, i.size, i.bytes)) = some (some (.int .u8 0), 1, 1) := by kernel_rfl

/-- An argument that is a slice of bytes. -/
theorem open_bytesAt {H : Type} {enc : TypeId × Value → H} {W : World} {base : Nat} {v : Value} {d : DataW H} {p : List MemPlace}
    (hval : Value.okWide Try.prog W .any base 22 v) (h : DataW.Trod enc Try.prog W 0 (fun _ => true) true 22 v d p) : ∃ l : List UInt8, BytesAt W v l := by
  obtain ⟨a1, len, cap, rfl⟩ := okWide_slice Try.underlying22 hval
  obtain ⟨fuel, hf⟩ := h
  rcases open_ints Try.underlying22 Try.underlying5 (by kernel_rfl) hf with ⟨hcs, hx⟩ | ⟨a, len', cap', zs, hcs, _, hl, hm, hz, hx, hcell, hwz⟩
  · simp [Value.cells] at hcs
    obtain ⟨rfl, rfl, rfl⟩ := hcs
    exact ⟨[], Reads.nil _ _⟩
  · simp [Value.cells] at hcs
    obtain ⟨rfl, rfl, rfl⟩ := hcs
    simp only [if_true] at hz
    have hlen : ((zs.take len).map fun n => UInt8.ofNat n.toNat).length = len := by simp; omega
    refine ⟨(zs.take len).map fun n => UInt8.ofNat n.toNat, ?_⟩
    unfold BytesAt
    rw [hlen]
    refine ⟨by rw [bvs_length, hlen]; simp, some a, cap, rfl, hl, hm, fun h => (by cases h), fun hn => ?_⟩
    obtain ⟨ab, ao, spot⟩ := a
    have hspot : spot = none := by simpa [Addr.add] using World.cell?_spot (hcell 0 (by omega))
    subst hspot
    refine ⟨ab, ao, rfl, fun j u hu => ?_⟩
    have hj : j < len := by
      have := (List.getElem?_eq_some_iff.1 hu).1
      rw [bvs_length, hlen] at this; exact this
    have hcj := hcell j (by omega)
    rw [Addr.add_lit] at hcj
    rw [hcj]
    have hb := range_u8 hwz j
    have e : zs.getD j 0 = zs[j]'(by omega) := by simp [List.getD, List.getElem?_eq_getElem (show j < zs.length by omega)]
    rw [List.getD_eq_getElem?_getD] at e
    rw [e] at hb
    rw [List.getD_eq_getElem?_getD, e]
    have hu' : u = .int .u8 ((UInt8.ofNat (zs[j]'(by omega)).toNat).toNat : Int) := by
      simp only [bvs, List.map_map, List.getElem?_map, List.getElem?_take, hj, if_true, List.getElem?_eq_getElem (show j < zs.length by omega), Option.map_some, Option.some.injEq] at hu
      exact hu.symm
    rw [hu']
    congr 2
    simp only [UInt8.toNat_ofNat']
    omega

/-- append onto a slice that the call owns, whatever the source yields. -/
theorem run_append_src {P : Program} (w : World) (t tx ty : TypeId) (base : Nat) (e : TypeId) (i : TypeInfo) (z : Value) (ht : P.underlying t = some (.slice e)) (hi : P.info? e = some i) (hz : i.zero = some z)
    (hzs : z.cells.size = i.size) (hsz : 0 < i.size) (v : Value) (n : Nat) (xs : List Value) (hown : w.ownsRow base e i.size v n xs)
    (vx : Value) (m : Nat) (news : List Value) (hsrc : Src P i.size tx vx m news w) (h63 : n + m ≤ maxLen) (hbytes : (n + m) * i.bytes ≤ 140737488355328) (hbase : base ≤ w.heap.size) :
    ∃ v' w', (Builtin.append_ #[t, tx] ty #[v, vx]).run P w = .ok v' w' ∧ w'.ownsRow base e i.size v' (n + m) (xs ++ news) ∧ w.grownBy w' v.ownBlock := by
  have hlen : (xs ++ news).length = (n + m) * i.size := by rw [List.length_append, hown.1, hsrc.newsLen, Nat.add_mul]
  have hsmall : n + m ≤ 9223372036854775807 := by simp only [maxLen] at h63; omega
  have grown : ∀ (old : Nat), old < n + m → ∀ (row : Option Nat),
      (w.drew.alloc (.cells ((xs ++ news).toArray ++ Builtin.zeroCells z.cells (grownCap w (n + m) old e - (n + m))) e)).ownsRow base e i.size
        (.slice (some ⟨w.heap.size, 0, none⟩) (n + m) (grownCap w (n + m) old e)) (n + m) (xs ++ news) ∧
      w.grownBy (w.drew.alloc (.cells ((xs ++ news).toArray ++ Builtin.zeroCells z.cells (grownCap w (n + m) old e - (n + m))) e)) row := by
    intro old ho' row
    have hge := grownCap_ge w (n + m) old e
    have hcm : grownCap w (n + m) old e ≤ maxLen := grownCap_le_maxLen w (n + m) old e h63
    refine ⟨⟨hlen, .inr ⟨w.heap.size, _, _, rfl, hbase, heap_alloc_new w.drew _, hge, hcm, ?_, ?_⟩⟩, ⟨rfl, rfl, rfl, by simp, fun k hk _ => Below.heap_alloc w.drew _ k hk⟩⟩
    · simp only [Array.size_append, List.size_toArray, size_zeroCells, hzs, hlen, ← Nat.add_mul]
      congr 1
      omega
    · simp only [Array.toList_append]
      rw [← hlen]
      exact List.take_left
  rcases hown.2 with ⟨hv, rfl⟩ | ⟨g, cap, cur, hv, hb, hg, hnc, hcm, hcs, htk⟩
  · rw [hv]
    obtain rfl : xs = [] := List.eq_nil_of_length_eq_zero (by simpa using hown.1)
    by_cases hm0 : m = 0
    · subst hm0
      obtain rfl : news = [] := List.eq_nil_of_length_eq_zero (by simpa using hsrc.newsLen)
      refine ⟨.slice none 0 0, w, ?_, World.ownsRow_nil w base e i.size, ⟨rfl, rfl, rfl, Nat.le_refl _, fun _ _ _ => rfl⟩⟩
      have hfc := hsrc.cells
      rcases hsrc.kind with ⟨e', hk⟩ | hk <;> simp [Builtin.append_, run_underlying ht, run_underlying hk, sizeOf, typeInfo, hi, hsrc.len, hfc]
    · have g0 := grown 0 (by omega) (Value.slice none 0 0).ownBlock
      simp only [Nat.zero_add] at g0 ⊢
      have hr := run_append_grow_src w t tx ty e i z ht hi hz none 0 0 [] (run_firstCells_none w.drew i.size 0 0 0) _ m news hsrc (by omega) (by omega) (by simpa using growslice_fits (show 0 < 0 + m by omega) hbytes)
      simp only [Nat.zero_add] at hr
      exact ⟨_, _, hr, g0.1, g0.2⟩
  · rw [hv]
    have hxl : xs.length = n * i.size := hown.1
    have hnl := hsrc.newsLen
    by_cases hroom : n + m ≤ cap
    · have hfit : n * i.size + news.length ≤ cur.size := by rw [hnl, hcs, ← Nat.add_mul]; exact Nat.mul_le_mul_right _ hroom
      have hst := run_storeCells_at P g (n * i.size) e news 0 cur w hg (by simpa using hfit) hsrc.one
      simp only [Nat.add_zero] at hst
      have hr : (Builtin.append_ #[t, tx] ty #[.slice (some ⟨g, 0, none⟩) n cap, vx]).run P w =
          .ok (.slice (some ⟨g, 0, none⟩) (n + m) cap) (w.setRow g (cur.toList.take (n * i.size) ++ news ++ cur.toList.drop (n * i.size + news.length)).toArray) := by
        rcases hsrc.kind with ⟨e', hk⟩ | hk <;> simp [Builtin.append_, run_underlying ht, run_underlying hk, sizeOf, typeInfo, hi, hsrc.len, hroom, hsrc.cells, Addr.add_lit, hst]
      refine ⟨_, _, hr, ⟨hlen, .inr ⟨g, cap, _, rfl, hb, setRow_heap w g cur _ e _ hg, hroom, hcm, ?_, ?_⟩⟩, ⟨rfl, rfl, rfl, by simp, fun k _ hk => setRow_other w g k _ (fun e => hk (by simp [Value.ownBlock, e]))⟩⟩
      · simp only [List.size_toArray, List.length_append, List.length_take, List.length_drop, Array.length_toList]
        omega
      · rw [htk, ← hlen]
        exact List.take_left
    · have holds : ∀ j u, xs[j]? = some u → w.cell? ((⟨g, 0, none⟩ : Addr).add j) = some u := by
        rw [hv] at hown
        exact hown.cells (g := g) rfl
      have hr := run_append_grow_src w t tx ty e i z ht hi hz (some ⟨g, 0, none⟩) n cap xs (run_firstCells_some w.drew i.size n ⟨g, 0, none⟩ n cap xs hxl (by simpa using holds)) _ m news hsrc (by omega) (by omega) (growslice_fits (by omega) hbytes)
      have hgr := grown cap (by omega) (Value.ownBlock (.slice (some ⟨g, 0, none⟩) n cap))
      exact ⟨_, _, hr, hgr.1, hgr.2⟩

/-- THE LAW OF append onto a slice that the call owns, whatever the source yields. -/
theorem wpList_append_src {P : Program} {w : World} {ops : Array Oper} {rest : List Oper} {o : Oper} {a : Act} {Q : Exit → Act → World → Prop} (hgd : o.guard = none) (s x : Operand) (t tx : TypeId)
    (ho : o.op = .call { callee := .builtin .append, args := #[s, x], argTypes := #[t, tx] })
    (base : Nat) (e : TypeId) (i : TypeInfo) (z : Value) (size bytes : Nat) (ht : P.underlying t = some (.slice e)) (hi : P.info? e = some i) (hz : i.zero = some z)
    (hsize : i.size = size) (hby : i.bytes = bytes) (hzs : z.cells.size = size) (hsz : 0 < size)
    (v : Value) (n : Nat) (xs : List Value) (hs : a.eval s = v) (hown : w.ownsRow base e size v n xs)
    (vx : Value) (m : Nat) (news : List Value) (hx : a.eval x = vx) (hsrc : Src P size tx vx m news w)
    (h63 : n + m ≤ maxLen) (hbytes : (n + m) * bytes ≤ 140737488355328) (hbase : base ≤ w.heap.size)
    (h : ∀ v' w', w'.ownsRow base e size v' (n + m) (xs ++ news) → w.grownBy w' v.ownBlock → wpList P ops Q rest (a.put o.dst v') w') : wpList P ops Q (o :: rest) a w := by
  subst hsize hby hs hx
  refine wpList_plain hgd fun K hK => ?_
  obtain ⟨v', w', hrun, h1, h2⟩ := run_append_src w t tx o.type base e i z ht hi hz hzs hsz _ n xs hown _ m news hsrc h63 hbytes hbase
  unfold Oper.wp
  simp [execOp, ho, resolve, invoke, builtin, hrun, Result.andThen]
  exact hK _ _ (h v' w' h1 h2)

/-- The same as one step of a region that draws its order. -/
theorem step_append_src {P : Program} {ops : Array Oper} {o : Oper} {a : Act} {w : World} {K : Act → World → Prop} {Q : Exit → Act → World → Prop} {E : Prop}
    (hgd : o.guard = none) (s x : Operand) (t tx : TypeId) (ho : o.op = .call { callee := .builtin .append, args := #[s, x], argTypes := #[t, tx] })
    (base : Nat) (e : TypeId) (i : TypeInfo) (z : Value) (size bytes : Nat) (ht : P.underlying t = some (.slice e)) (hi : P.info? e = some i) (hz : i.zero = some z)
    (hsize : i.size = size) (hby : i.bytes = bytes) (hzs : z.cells.size = size) (hsz : 0 < size)
    (v : Value) (n : Nat) (xs : List Value) (hs : a.eval s = v) (hown : w.ownsRow base e size v n xs)
    (vx : Value) (m : Nat) (news : List Value) (hx : a.eval x = vx) (hsrc : Src P size tx vx m news w)
    (h63 : n + m ≤ maxLen) (hbytes : (n + m) * bytes ≤ 140737488355328) (hbase : base ≤ w.heap.size)
    (h : ∀ v' w', w'.ownsRow base e size v' (n + m) (xs ++ news) → w.grownBy w' v.ownBlock → K (a.put o.dst v') w') : if Region.wanted o (yielded ops a.tmps) = true then Oper.wp P o a w K Q else E := by
  have hw : Region.wanted o (yielded ops a.tmps) = true := by simp [Region.wanted, hgd]
  rw [if_pos hw]
  subst hsize hby hs hx
  obtain ⟨v', w', hrun, h1, h2⟩ := run_append_src w t tx o.type base e i z ht hi hz hzs hsz _ n xs hown _ m news hsrc h63 hbytes hbase
  unfold Oper.wp
  simp [execOp, ho, resolve, invoke, builtin, hrun, Result.andThen]
  exact h v' w' h1 h2

/-- The source of an append of new cells. -/
theorem src_new {P : Program} {tx e' : TypeId} (hk : P.underlying tx = some (.slice e')) (w : World) (us : List Value) (size n c : Nat) (e : TypeId) (hl : us.length = n * size) (h1 : ∀ u ∈ us, u.oneCell' = true) :
    Src P size tx (.slice (some ⟨w.heap.size, 0, none⟩) n c) n us (w.alloc (.cells us.toArray e)) :=
  Src.ofSlice _ hk ⟨w.heap.size, 0, none⟩ n c us hl (fun j u hu => by
    rw [Addr.add_lit, Nat.zero_add, cell_of_row (w.alloc (.cells us.toArray e)) w.heap.size j us.toArray e (0, 0) (heap_alloc_new w _)]
    simpa using hu) h1
theorem src_blk {P : Program} {tx e' : TypeId} (hk : P.underlying tx = some (.slice e')) (w : World) (g : Nat) (us : List Value) (size n c : Nat) (e : TypeId) (hg : w.heap[g]? = some (.cells us.toArray e (0, 0))) (hl : us.length = n * size) (h1 : ∀ u ∈ us, u.oneCell' = true) :
    Src P size tx (.slice (some ⟨g, 0, none⟩) n c) n us w :=
  Src.ofSlice _ hk ⟨g, 0, none⟩ n c us hl (fun j u hu => by
    rw [Addr.add_lit, Nat.zero_add, cell_of_row w g j us.toArray e (0, 0) hg]
    simpa using hu) h1
/-- The source of an append of what reads. -/
theorem src_reads {P : Program} {tx e' : TypeId} (hk : P.underlying tx = some (.slice e')) {w : World} {size : Nat} {v : Value} {n : Nat} {xs : List Value} (h : Reads w size v n xs) (h1 : ∀ u ∈ xs, u.oneCell' = true) :
    Src P size tx v n xs w := by
  obtain ⟨hl, a, cap, rfl, h2, h3, h4, h5⟩ := h
  rcases Nat.eq_zero_or_pos n with rfl | hn
  · obtain rfl : xs = [] := List.eq_nil_of_length_eq_zero (by simpa using hl)
    cases a with
    | none => obtain rfl := h4 rfl; exact Src.ofNil w hk 0
    | some a => exact Src.ofSlice w hk a 0 cap [] hl (fun j u hu => by simp at hu) h1
  · obtain ⟨b, off, rfl, hc⟩ := h5 hn
    exact Src.ofSlice w hk ⟨b, off, none⟩ n cap xs hl (fun j u hu => by rw [Addr.add_lit]; exact hc j u hu) h1
/-- What is owned has the form of a slice. -/
theorem owns_form {w : World} {base : Nat} {e : TypeId} {size : Nat} {v : Value} {n : Nat} {xs : List Value} (h : w.ownsRow base e size v n xs) : ∃ a cap, v = .slice a n cap := by
  rcases h.2 with ⟨rfl, rfl⟩ | ⟨g, cap, cur, rfl, _⟩
  · exact ⟨none, 0, rfl⟩
  · exact ⟨_, cap, rfl⟩
theorem owns_block {w : World} {base : Nat} {e : TypeId} {size : Nat} {v : Value} {n : Nat} {xs : List Value} (h : w.ownsRow base e size v n xs) : ∀ k, v.ownBlock = some k → base ≤ k := fun k hk => (h.lt k hk).1
/-! StrB -/
open Go.ChangeShapes Go.WideShapes Go.ChangeAt Go.RowKit Go.Joins
set_option linter.unusedSimpArgs false
set_option linter.unusedVariables false
set_option maxRecDepth 100000

/-- The cells of texts. -/
def svs (l : List ByteArray) : List Value := l.map Value.string
theorem svs_length (l : List ByteArray) : (svs l).length = l.length := by simp [svs]
theorem svs_append (l k : List ByteArray) : svs (l ++ k) = svs l ++ svs k := by simp [svs]
theorem svs_one (l : List ByteArray) : ∀ u ∈ svs l, u.oneCell' = true := by
  intro u hu; obtain ⟨_, _, rfl⟩ := List.mem_map.1 hu; rfl
/-- A slice of texts. -/
def StrsAt (w : World) (v : Value) (l : List ByteArray) : Prop := Reads w 1 v l.length (svs l)
theorem StrsAt.below {w w' : World} {v : Value} {l : List ByteArray} {B : Nat} (h : StrsAt w v l) (hB : w.heap.size ≤ B) (hb : Below B w w') : StrsAt w' v l := Reads.below h hB hb
theorem StrsAt.form {w : World} {v : Value} {l : List ByteArray} (h : StrsAt w v l) :
    ∃ (a : Option Addr) (cap : Nat), v = .slice a l.length cap ∧ l.length ≤ cap ∧ cap ≤ maxLen ∧ (a = none → cap = 0) ∧
      (0 < l.length → ∃ b off, a = some ⟨b, off, none⟩ ∧ ∀ j (hj : j < l.length), w.cell? ⟨b, off + j, none⟩ = some (.string l[j])) := by
  obtain ⟨_, a, cap, rfl, h2, h3, h4, h5⟩ := h
  refine ⟨a, cap, rfl, h2, h3, h4, fun hn => ?_⟩
  obtain ⟨b, off, rfl, hc⟩ := h5 hn
  exact ⟨b, off, rfl, fun j hj => hc j _ (by simp [svs, hj])⟩
/-- Texts that the call owns. -/
def OwnS (w : World) (base : Nat) (v : Value) (l : List ByteArray) : Prop := w.ownsRow base 9 1 v l.length (svs l)
theorem OwnS.reads {w : World} {base : Nat} {v : Value} {l : List ByteArray} (h : OwnS w base v l) : StrsAt w v l := reads_of_owns h
theorem info_str : (Try.prog.info? 9).map (fun i => (i.zero, i.size, i.bytes)) = some (some (.string ⟨#[]⟩), 1, 16) := by kernel_rfl
theorem owns_snocS {w : World} {base : Nat} {v : Value} {l : List ByteArray} {s : ByteArray} (h : w.ownsRow base 9 1 v (l.length + 1) (svs l ++ [Value.string s])) : OwnS w base v (l ++ [s]) := by
  unfold OwnS
  rw [List.length_append, svs_append]
  exact h
/-! Kit -/
open Go.ChangeShapes Go.WideShapes Go.ChangeAt Go.RowKit Go.Joins
set_option linter.unusedSimpArgs false
set_option linter.unusedVariables false
set_option maxRecDepth 100000
/-- A callee that only computes, in a region that only reads. -/
theorem quiet_at {P : Program} {f : FuncId} {args : Array Value} {w : World} {n : Nat} {v : Value}
    (h : Calls P f args (w.drewN n) fun e w' => e = .returned v ∧ w.drewN n = w') : Calls P f args (w.drewN n) fun e w'' => e = .returned v ∧ ∃ m, w'' = w.drewN m :=
  h.mono fun _ _ ⟨he, hm⟩ => ⟨he, n, hm.symm⟩
/-- A world that has come of another by growth alone. -/
structure Grew (w0 : World) where
  w : World
  h : Below w0.heap.size w0 w
instance grewInhabited (w0 : World) : Inhabited (Grew w0) := ⟨⟨w0, Below.refl _ _⟩⟩
theorem Grew.cell {w0 : World} (p : Grew w0) {a : Addr} {v : Value} (h : w0.cell? a = some v) : p.w.cell? a = some v :=
  (p.h.cell (World.block_lt_of_cell? w0 a h)).trans h
theorem Grew.from {w0 : World} (p : Grew w0) : From w0.heap.size w0 p.w := ⟨p.h, p.h.size⟩
/-- **One walk in the order of the text serves every order**, where each operation yields the same value in every world that growth alone brings. -/
theorem wp_region_grew {P : Program} {id : Nat} {Q : Exit → Act → World → Prop} {a : Act} {w : World} {l : List Oper} (hm : P.follows .mixedOrders = true) (hB : Region.lexB .any l.toArray = true)
    (h : wpQuiet P l.toArray (fun w' => ∃ p : Grew w, w' = p.w) (fun a' => ∀ w', (∃ p : Grew w, w' = p.w) → Q .normal a' w') l a) : (Code.region id l.toArray true).wp P Q a w :=
  wp_region_quiet (C := fun w' => ∃ p : Grew w, w' = p.w) hm hB ⟨⟨w.drew, (From.start w).drew.below⟩, rfl⟩ (by simpa using h)
theorem grew_call {P : Program} {f : FuncId} {args : Array Value} {w0 : World} {p : Grew w0} {v : Value}
    (h : Calls P f args p.w fun e w' => e = .returned v ∧ Below p.w.heap.size p.w w') : Calls P f args p.w fun e w'' => e = .returned v ∧ ∃ q : Grew w0, w'' = q.w :=
  h.mono fun _ _ ⟨he, hb⟩ => ⟨he, ⟨_, p.h.trans (hb.mono p.h.size)⟩, rfl⟩
theorem grew_same {P : Program} {f : FuncId} {args : Array Value} {w0 : World} {p : Grew w0} {v : Value}
    (h : Calls P f args p.w fun e w' => e = .returned v ∧ p.w = w') : Calls P f args p.w fun e w'' => e = .returned v ∧ ∃ q : Grew w0, w'' = q.w :=
  h.mono fun _ _ ⟨he, hb⟩ => ⟨he, p, hb.symm⟩
/-- The first place at which something holds, -1 if there is none. -/
def findI {α : Type} (p : α → Bool) (l : List α) : Int := match l.findIdx? p with | some i => (i : Int) | none => -1
theorem findI_hit {α : Type} {p : α → Bool} {l : List α} {k : Nat} (hk : k < l.length) (h : p l[k] = true) (hb : ∀ x ∈ l.take k, p x = false) : findI p l = k := by
  unfold findI
  have : l.findIdx? p = some k := by
    rw [List.findIdx?_eq_some_iff_getElem]
    refine ⟨hk, h, fun j hj => ?_⟩
    have := hb l[j] (by rw [List.mem_take_iff_getElem]; exact ⟨j, by omega, rfl⟩)
    simp [this]
  rw [this]
theorem findI_miss {α : Type} {p : α → Bool} {l : List α} (hb : ∀ x ∈ l, p x = false) : findI p l = -1 := by
  unfold findI
  have : l.findIdx? p = none := by rw [List.findIdx?_eq_none_iff]; exact hb
  rw [this]
theorem findI_nonneg {α : Type} (p : α → Bool) (l : List α) : (0 ≤ findI p l) ↔ l.any p = true := by
  unfold findI
  split
  · rename_i i h
    obtain ⟨h1, h2, _⟩ := List.findIdx?_eq_some_iff_getElem.1 h
    simp only [List.any_eq_true]
    exact ⟨fun _ => ⟨_, List.getElem_mem h1, h2⟩, fun _ => by omega⟩
  · rename_i h
    rw [List.findIdx?_eq_none_iff] at h
    simp only [List.any_eq_true]
    constructor
    · intro h; omega
    · rintro ⟨x, hx, hp⟩; rw [h x hx] at hp; cases hp
theorem findI_range {α : Type} (p : α → Bool) (l : List α) : -1 ≤ findI p l ∧ findI p l < l.length := by
  unfold findI
  split
  · rename_i i h
    obtain ⟨h1, _, _⟩ := List.findIdx?_eq_some_iff_getElem.1 h
    omega
  · omega
theorem take_bad {α : Type} {p : α → Bool} {l : List α} {k : Nat} (hk : k < l.length) (hb : ∀ x ∈ l.take k, p x = false) (h : p l[k] = false) : ∀ x ∈ l.take (k + 1), p x = false := by
  intro x hx
  rw [List.take_succ_eq_append_getElem hk] at hx
  rcases List.mem_append.1 hx with hx | hx
  · exact hb x hx
  · obtain rfl := List.mem_singleton.1 hx; exact h
theorem take_good {α : Type} {p : α → Prop} {l : List α} {k : Nat} (hk : k < l.length) (hb : ∀ x ∈ l.take k, p x) (h : p l[k]) : ∀ x ∈ l.take (k + 1), p x := by
  intro x hx
  rw [List.take_succ_eq_append_getElem hk] at hx
  rcases List.mem_append.1 hx with hx | hx
  · exact hb x hx
  · obtain rfl := List.mem_singleton.1 hx; exact h
theorem owns_take {w : World} {base : Nat} {e : TypeId} {size : Nat} {a : Option Addr} {n cap : Nat} {xs : List Value} (h : w.ownsRow base e size (.slice a n cap) n xs) (m : Nat) (hm : m ≤ n) : w.ownsRow base e size (.slice a m cap) m (xs.take (m * size)) := by
  have h1 : (xs.take (m * size)).length = m * size := by
    rw [List.length_take, h.1]
    have : m * size ≤ n * size := Nat.mul_le_mul_right _ hm
    omega
  refine ⟨h1, ?_⟩
  rcases h.2 with ⟨hv, hx⟩ | ⟨g, cap', cur, hv, hb, hg, hn, hc, hs, ht⟩
  · simp only [Value.slice.injEq] at hv
    obtain ⟨rfl, rfl, rfl⟩ := hv
    left
    obtain rfl : m = 0 := by omega
    exact ⟨rfl, by simp⟩
  · simp only [Value.slice.injEq] at hv
    obtain ⟨rfl, _, rfl⟩ := hv
    right
    refine ⟨g, cap, cur, rfl, hb, hg, by omega, hc, hs, ?_⟩
    have : m * size ≤ n * size := Nat.mul_le_mul_right _ hm
    rw [← ht, List.take_take, Nat.min_eq_left this]
/-- append onto a slice that the call owns; and where the new slice lies. -/
theorem run_append_own {P : Program} (w : World) (t tx ty : TypeId) (base : Nat) (e : TypeId) (i : TypeInfo) (z : Value) (ht : P.underlying t = some (.slice e)) (hi : P.info? e = some i) (hz : i.zero = some z)
    (hzs : z.cells.size = i.size) (hsz : 0 < i.size) (v : Value) (n : Nat) (xs : List Value) (hown : w.ownsRow base e i.size v n xs)
    (vx : Value) (m : Nat) (news : List Value) (hsrc : Src P i.size tx vx m news w) (h63 : n + m ≤ maxLen) (hbytes : (n + m) * i.bytes ≤ 140737488355328) (hbase : base ≤ w.heap.size) :
    ∃ v' w', (Builtin.append_ #[t, tx] ty #[v, vx]).run P w = .ok v' w' ∧ w'.ownsRow base e i.size v' (n + m) (xs ++ news) ∧ w.grownBy w' v.ownBlock ∧ (v'.ownBlock = v.ownBlock ∨ v'.ownBlock = some w.heap.size) := by
  have hlen : (xs ++ news).length = (n + m) * i.size := by rw [List.length_append, hown.1, hsrc.newsLen, Nat.add_mul]
  have hsmall : n + m ≤ 9223372036854775807 := by simp only [maxLen] at h63; omega
  have grown : ∀ (old : Nat), old < n + m → ∀ (row : Option Nat),
      (w.drew.alloc (.cells ((xs ++ news).toArray ++ Builtin.zeroCells z.cells (grownCap w (n + m) old e - (n + m))) e)).ownsRow base e i.size
        (.slice (some ⟨w.heap.size, 0, none⟩) (n + m) (grownCap w (n + m) old e)) (n + m) (xs ++ news) ∧
      w.grownBy (w.drew.alloc (.cells ((xs ++ news).toArray ++ Builtin.zeroCells z.cells (grownCap w (n + m) old e - (n + m))) e)) row := by
    intro old ho' row
    have hge := grownCap_ge w (n + m) old e
    have hcm : grownCap w (n + m) old e ≤ maxLen := grownCap_le_maxLen w (n + m) old e h63
    refine ⟨⟨hlen, .inr ⟨w.heap.size, _, _, rfl, hbase, heap_alloc_new w.drew _, hge, hcm, ?_, ?_⟩⟩, ⟨rfl, rfl, rfl, by simp, fun k hk _ => Below.heap_alloc w.drew _ k hk⟩⟩
    · simp only [Array.size_append, List.size_toArray, size_zeroCells, hzs, hlen, ← Nat.add_mul]
      congr 1
      omega
    · simp only [Array.toList_append]
      rw [← hlen]
      exact List.take_left
  rcases hown.2 with ⟨hv, rfl⟩ | ⟨g, cap, cur, hv, hb, hg, hnc, hcm, hcs, htk⟩
  · rw [hv]
    obtain rfl : xs = [] := List.eq_nil_of_length_eq_zero (by simpa using hown.1)
    by_cases hm0 : m = 0
    · subst hm0
      obtain rfl : news = [] := List.eq_nil_of_length_eq_zero (by simpa using hsrc.newsLen)
      refine ⟨.slice none 0 0, w, ?_, World.ownsRow_nil w base e i.size, ⟨rfl, rfl, rfl, Nat.le_refl _, fun _ _ _ => rfl⟩, .inl rfl⟩
      have hfc := hsrc.cells
      rcases hsrc.kind with ⟨e', hk⟩ | hk <;> simp [Builtin.append_, run_underlying ht, run_underlying hk, sizeOf, typeInfo, hi, hsrc.len, hfc]
    · have g0 := grown 0 (by omega) (Value.slice none 0 0).ownBlock
      simp only [Nat.zero_add] at g0 ⊢
      have hr := run_append_grow_src w t tx ty e i z ht hi hz none 0 0 [] (run_firstCells_none w.drew i.size 0 0 0) _ m news hsrc (by omega) (by omega) (by simpa using growslice_fits (show 0 < 0 + m by omega) hbytes)
      simp only [Nat.zero_add] at hr
      exact ⟨_, _, hr, g0.1, g0.2, .inr rfl⟩
  · rw [hv]
    have hxl : xs.length = n * i.size := hown.1
    have hnl := hsrc.newsLen
    by_cases hroom : n + m ≤ cap
    · have hfit : n * i.size + news.length ≤ cur.size := by rw [hnl, hcs, ← Nat.add_mul]; exact Nat.mul_le_mul_right _ hroom
      have hst := run_storeCells_at P g (n * i.size) e news 0 cur w hg (by simpa using hfit) hsrc.one
      simp only [Nat.add_zero] at hst
      have hr : (Builtin.append_ #[t, tx] ty #[.slice (some ⟨g, 0, none⟩) n cap, vx]).run P w =
          .ok (.slice (some ⟨g, 0, none⟩) (n + m) cap) (w.setRow g (cur.toList.take (n * i.size) ++ news ++ cur.toList.drop (n * i.size + news.length)).toArray) := by
        rcases hsrc.kind with ⟨e', hk⟩ | hk <;> simp [Builtin.append_, run_underlying ht, run_underlying hk, sizeOf, typeInfo, hi, hsrc.len, hroom, hsrc.cells, Addr.add_lit, hst]
      refine ⟨_, _, hr, ⟨hlen, .inr ⟨g, cap, _, rfl, hb, setRow_heap w g cur _ e _ hg, hroom, hcm, ?_, ?_⟩⟩, ⟨rfl, rfl, rfl, by simp, fun k _ hk => setRow_other w g k _ (fun e => hk (by simp [Value.ownBlock, e]))⟩, .inl rfl⟩
      · simp only [List.size_toArray, List.length_append, List.length_take, List.length_drop, Array.length_toList]
        omega
      · rw [htk, ← hlen]
        exact List.take_left
    · have holds : ∀ j u, xs[j]? = some u → w.cell? ((⟨g, 0, none⟩ : Addr).add j) = some u := by
        rw [hv] at hown
        exact hown.cells (g := g) rfl
      have hr := run_append_grow_src w t tx ty e i z ht hi hz (some ⟨g, 0, none⟩) n cap xs (run_firstCells_some w.drew i.size n ⟨g, 0, none⟩ n cap xs hxl (by simpa using holds)) _ m news hsrc (by omega) (by omega) (growslice_fits (by omega) hbytes)
      have hgr := grown cap (by omega) (Value.ownBlock (.slice (some ⟨g, 0, none⟩) n cap))
      exact ⟨_, _, hr, hgr.1, hgr.2, .inr rfl⟩

theorem wpList_append_own {P : Program} {w : World} {ops : Array Oper} {rest : List Oper} {o : Oper} {a : Act} {Q : Exit → Act → World → Prop} (hgd : o.guard = none) (s x : Operand) (t tx : TypeId)
    (ho : o.op = .call { callee := .builtin .append, args := #[s, x], argTypes := #[t, tx] })
    (base : Nat) (e : TypeId) (i : TypeInfo) (z : Value) (size bytes : Nat) (ht : P.underlying t = some (.slice e)) (hi : P.info? e = some i) (hz : i.zero = some z)
    (hsize : i.size = size) (hby : i.bytes = bytes) (hzs : z.cells.size = size) (hsz : 0 < size)
    (v : Value) (n : Nat) (xs : List Value) (hs : a.eval s = v) (hown : w.ownsRow base e size v n xs)
    (vx : Value) (m : Nat) (news : List Value) (hx : a.eval x = vx) (hsrc : Src P size tx vx m news w)
    (h63 : n + m ≤ maxLen) (hbytes : (n + m) * bytes ≤ 140737488355328) (hbase : base ≤ w.heap.size)
    (h : ∀ v' w', w'.ownsRow base e size v' (n + m) (xs ++ news) → w.grownBy w' v.ownBlock → (v'.ownBlock = v.ownBlock ∨ v'.ownBlock = some w.heap.size) → wpList P ops Q rest (a.put o.dst v') w') : wpList P ops Q (o :: rest) a w := by
  subst hsize hby hs hx
  refine wpList_plain hgd fun K hK => ?_
  obtain ⟨v', w', hrun, h1, h2, h3⟩ := run_append_own w t tx o.type base e i z ht hi hz hzs hsz _ n xs hown _ m news hsrc h63 hbytes hbase
  unfold Oper.wp
  simp [execOp, ho, resolve, invoke, builtin, hrun, Result.andThen]
  exact hK _ _ (h v' w' h1 h2 h3)

/-! Facts -/
open Go.ChangeShapes Go.WideShapes Go.ChangeAt Go.RowKit Go.Joins
set_option linter.unusedSimpArgs false
set_option linter.unusedVariables false
set_option maxRecDepth 100000

theorem and2 {a b : Bool} (ha : a = true) (hb : b = true) : (a && b) = true := by rw [ha, hb]; rfl
/-- Words, a blank between. -/
def joinSp : List (List Nat) → List Nat
  | [] => []
  | [w] => w
  | w :: ws => w ++ 32 :: joinSp ws
def noBlank (w : List Nat) : Bool := w.all fun n => decide (n < 128) && decide (n ≠ 32)
theorem char_ne_blank {n : Nat} (h1 : n < 128) (h2 : n ≠ 32) : Char.ofNat n ≠ Char.ofNat 32 := by
  intro e
  have e2 : (Char.ofNat n).toNat = (Char.ofNat 32).toNat := by rw [e]
  have f : ∀ m, m < 128 → (Char.ofNat m).toNat = m := by
    intro m hm
    have hv : m.isValidChar := Or.inl (by omega)
    simp [Char.ofNat, hv, Char.toNat, Char.ofNatAux]
  rw [f n h1, f 32 (by omega)] at e2
  exact h2 e2
theorem signs_cons {c : Char} {r : List Char} (h : c ≠ Char.ofNat 32) : wordsSigns (c :: r) = match wordsSigns r with
    | w :: ws => (c :: w) :: ws
    | [] => [[c]] := by
  rw [wordsSigns] <;> first | rfl | exact h | (intro e; exact h e)
theorem signs_word : ∀ (w : List Nat) (r : List Char), noBlank w = true → wordsSigns (w.map Char.ofNat ++ Char.ofNat 32 :: r) = w.map Char.ofNat :: wordsSigns r
  | [], r, _ => rfl
  | n :: w, r, h => by
    simp only [noBlank, List.all_cons, Bool.and_eq_true, decide_eq_true_eq] at h
    have ih := signs_word w r h.2
    rw [List.map_cons, List.cons_append, signs_cons (char_ne_blank h.1.1 h.1.2), ih]
theorem signs_last : ∀ (w : List Nat), noBlank w = true → wordsSigns (w.map Char.ofNat) = [w.map Char.ofNat]
  | [], _ => rfl
  | n :: w, h => by
    simp only [noBlank, List.all_cons, Bool.and_eq_true, decide_eq_true_eq] at h
    have ih := signs_last w h.2
    rw [List.map_cons, signs_cons (char_ne_blank h.1.1 h.1.2), ih]
theorem signs_join : ∀ (ws : List (List Nat)), ws ≠ [] → ws.all noBlank = true → wordsSigns ((joinSp ws).map Char.ofNat) = ws.map (·.map Char.ofNat)
  | [], h, _ => absurd rfl h
  | [w], _, h => by
    simp only [List.all_cons, List.all_nil, Bool.and_true] at h
    exact signs_last w h
  | w :: w2 :: ws, _, h => by
    rw [List.all_cons, Bool.and_eq_true] at h
    have ih := signs_join (w2 :: ws) (by simp) h.2
    show wordsSigns ((w ++ 32 :: joinSp (w2 :: ws)).map Char.ofNat) = _
    rw [List.map_append, List.map_cons, signs_word w _ h.1, ih]
    rfl

/-- The head of the translation. -/
def headWords : List (List Nat) := [[104, 97, 114, 110, 101, 115, 115], [49, 53, 49, 97, 100, 52, 97, 99, 52, 57, 101, 49, 100, 53, 102, 55, 52, 51, 56, 99, 100, 53, 56, 55, 99, 54, 99, 101, 101, 49, 56, 51, 53, 100, 100, 100, 98, 101, 51, 97, 101, 55, 98, 54, 101, 101, 55, 98, 99, 98, 48, 52, 52, 57, 54, 50, 100, 56, 101, 51, 97, 48, 56, 55], [99, 117, 116], [97, 116], [108, 111, 111, 112, 46, 101, 120, 97, 109, 112, 108, 101, 47, 111, 98, 106, 101, 99, 116, 108, 105, 110, 107, 101, 114, 47, 108, 97, 119, 115, 46, 70, 110, 87, 114, 105, 116, 101, 79, 98, 106, 101, 99, 116], [108, 111, 111, 112, 46, 101, 120, 97, 109, 112, 108, 101, 47, 111, 98, 106, 101, 99, 116, 108, 105, 110, 107, 101, 114, 47, 108, 97, 119, 115, 46, 70, 110, 69, 120, 97, 99, 116, 79, 98, 106, 101, 99, 116, 76, 101, 110, 103, 116, 104]]
theorem head_list : Try.prog.initOrder = String.ofList ((joinSp headWords).map Char.ofNat) := by kernel_rfl
theorem head_words : wordsSigns Try.prog.initOrder.toList = headWords.map (·.map Char.ofNat) := by
  rw [head_list, String.toList_ofList]
  exact signs_join headWords (by intro h; cases h) (by kernel_rfl)
theorem head_behind : behindMainWord (wordsSigns Try.prog.initOrder.toList) = (headWords.drop 2).map (·.map Char.ofNat) := by
  rw [head_words]; kernel_rfl
theorem make_of (P : Program) (c : List Char) (rest : List (List Char)) (h : behindMainWord (wordsSigns P.initOrder.toList) = c :: rest) (h1 : (c == "gc".toList || c == "spec".toList) = false) (h2 : (c == "cut".toList) = true) : P.make = some .cut := by
  unfold Program.make
  rw [h]
  simp only [h1, h2, Bool.true_or, if_true, Bool.false_eq_true, if_false]
theorem may_of (P : Program) (c : List Char) (rest : List (List Char)) (h : behindMainWord (wordsSigns P.initOrder.toList) = c :: rest) (h1 : (stripLifts liftWords (c :: rest)).1 = []) (h2 : ((stripLifts liftWords (c :: rest)).2.head? == some "cut".toList) = true)
    (h3 : P.laysLater = false) (h4 : P.bearsReflect = false) (h5 : P.doorFits [] = true) : P.mayEnter = true := by
  unfold Program.mayEnter
  rw [h]
  simp only [h1, h2, h3, h4, h5, Bool.not_false, Bool.or_true, Bool.and_true, List.contains_nil, Bool.and_self, Bool.true_or]
theorem lifts_of (P : Program) (c : List Char) (rest : List (List Char)) (h : behindMainWord (wordsSigns P.initOrder.toList) = c :: rest) (h0 : P.headLifts = []) (h1 : (c == "carried".toList) = false) : P.liftsFinal = false := by
  unfold Program.liftsFinal
  rw [h, h0]
  simp only [List.head?_cons, Option.some_beq_some, h1, Bool.false_and, List.contains_nil, Bool.or_false]
/-- The first word behind the mark, and the rest. -/
def headC : List Char := [99, 117, 116].map Char.ofNat
def headR : List (List Char) := (headWords.drop 3).map (·.map Char.ofNat)
theorem head_split : behindMainWord (wordsSigns Try.prog.initOrder.toList) = headC :: headR := by
  rw [head_behind]; kernel_rfl
theorem c_gc : (headC == "gc".toList || headC == "spec".toList) = false := by kernel_rfl
theorem c_cut : (headC == "cut".toList) = true := by kernel_rfl
theorem c_carried : (headC == "carried".toList) = false := by kernel_rfl
theorem c_lifts : (stripLifts liftWords (headC :: headR)).1 = [] := by kernel_rfl
theorem c_cut2 : ((stripLifts liftWords (headC :: headR)).2.head? == some "cut".toList) = true := by kernel_rfl
theorem p_later : Try.prog.laysLater = false := by kernel_rfl
theorem p_reflect : Try.prog.bearsReflect = false := by kernel_rfl
theorem p_door : Try.prog.doorFits [] = true := by kernel_rfl
theorem head_lifts : Try.prog.headLifts = [] := by
  unfold Program.headLifts
  rw [head_behind]
  kernel_rfl
theorem make_cut : Try.prog.make = some .cut := make_of _ _ _ head_split c_gc c_cut
theorem lifts_final : Try.prog.liftsFinal = false := lifts_of _ _ _ head_split head_lifts c_carried
theorem may_enter : Try.prog.mayEnter = true := may_of _ _ _ head_split c_lifts c_cut2 p_later p_reflect p_door
end Go.Proofs.Ytkefbhidfbnipaa
