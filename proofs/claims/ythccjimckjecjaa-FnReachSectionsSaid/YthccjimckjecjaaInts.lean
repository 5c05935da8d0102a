/- Slices of numbers that a law copies, compares, writes over (marks). -/
import Derived.Test.YthccjimckjecjaaMark
import Derived.Test.YthccjimckjecjaaBase
import Derived.Test.YthccjimckjecjaaNameAt
import Derived.Test.YthccjimckjecjaaSec
namespace Go.Proofs.Ythccjimckjecjaa
open Go.ChangeShapes Go.WideShapes Go.ChangeAt Go.RowKit Go.Joins
set_option linter.unusedSimpArgs false
set_option linter.unusedVariables false
set_option maxRecDepth 100000
def ivs (l : List Int) : List Value := l.map fun n => .int .i64 n
theorem ivs_length (l : List Int) : (ivs l).length = l.length := by simp [ivs]
theorem ivs_append (l k : List Int) : ivs (l ++ k) = ivs l ++ ivs k := by simp [ivs]
/-- A slice of numbers. -/
def IntsAt (w : World) (v : Value) (l : List Int) : Prop := Reads w 1 v l.length (ivs l)
theorem IntsAt.below {w w' : World} {v : Value} {l : List Int} {B : Nat} (h : IntsAt w v l) (hB : w.heap.size ≤ B) (hb : Below B w w') : IntsAt w' v l := Reads.below h hB hb
theorem IntsAt.form {w : World} {v : Value} {l : List Int} (h : IntsAt w v l) :
    ∃ (a : Option Addr) (cap : Nat), v = .slice a l.length cap ∧ l.length ≤ cap ∧ cap ≤ maxLen ∧ (a = none → cap = 0) ∧
      (0 < l.length → ∃ b off, a = some ⟨b, off, none⟩ ∧ ∀ j (hj : j < l.length), w.cell? ⟨b, off + j, none⟩ = some (.int .i64 l[j])) := by
  obtain ⟨_, a, cap, rfl, h2, h3, h4, h5⟩ := h
  refine ⟨a, cap, rfl, h2, h3, h4, fun hn => ?_⟩
  obtain ⟨b, off, rfl, hc⟩ := h5 hn
  refine ⟨b, off, rfl, fun j hj => hc j _ ?_⟩
  simp [ivs, hj]
/-- Numbers that the call owns. -/
def OwnI (w : World) (base : Nat) (v : Value) (l : List Int) : Prop := w.ownsRow base 3 1 v l.length (ivs l)
theorem OwnI.reads {w : World} {base : Nat} {v : Value} {l : List Int} (h : OwnI w base v l) : IntsAt w v l := reads_of_owns h
theorem ownI_call {w w' : World} {base : Nat} {v : Value} {l : List Int} (h : OwnI w base v l) (hb : Below w.heap.size w w') : OwnI w' base v l := owns_call h hb
theorem info_int : (Try.prog.info? 3).map (fun i => (i.zero, i.size, i.bytes)) = some (some (.int .i64 0), 1, 8) := by kernel_rfl
theorem owns_snocI {w : World} {base : Nat} {v : Value} {l : List Int} {s : Int} (h : w.ownsRow base 3 1 v (l.length + 1) (ivs l ++ [Value.int .i64 s])) : OwnI w base v (l ++ [s]) := by
  unfold OwnI
  rw [List.length_append, ivs_append]
  exact h
/-- The marks from a number on. -/
def marksI (k n : Nat) : List Int := (List.range n).map fun (i : Nat) => ((k : Int) + (i : Int))
theorem marksI_length (k n : Nat) : (marksI k n).length = n := by simp [marksI]
theorem marksI_get (k n i : Nat) (h : i < n) : (marksI k n)[i]'(by rw [marksI_length]; exact h) = (k : Int) + (i : Int) := by simp [marksI]
theorem marksI_step (k : Nat) (l : List Int) (i : Nat) (h : i < l.length) :
    (ivs (marksI k i ++ l.drop i)).set i (.int .i64 ((k : Int) + (i : Int))) = ivs (marksI k (i + 1) ++ l.drop (i + 1)) := by
  rw [ivs_append, List.set_append, if_neg (by rw [ivs_length, marksI_length]; omega), ivs_length, marksI_length, Nat.sub_self, List.drop_eq_getElem_cons h]
  show ivs (marksI k i) ++ (Value.int .i64 ((k : Int) + (i : Int)) :: ivs (l.drop (i + 1))) = _
  have : marksI k (i + 1) = marksI k i ++ [(k : Int) + (i : Int)] := by simp [marksI, List.range_succ]
  rw [this, List.append_assoc, ivs_append]
  rfl
set_option maxHeartbeats 1000000 in
theorem eqIntS_same (w : World) (v1 v2 : Value) (l : List Int) (h1 : IntsAt w v1 l) (h2 : IntsAt w v2 l) :
    Calls Try.prog 44 #[v1, v2] w fun e w' => e = .returned (.bool true) ∧ Below w.heap.size w w' := by
  obtain ⟨a1, cap1, rfl, hcap1, hmax1, hnone1, hcell1⟩ := h1.form
  obtain ⟨a2, cap2, rfl, hcap2, hmax2, hnone2, hcell2⟩ := h2.form
  have H1 := Lib.hid hcell1
  have H2 := Lib.hid hcell2
  clear h1 h2 hcell1 hcell2 hnone1 hnone2
  unfold maxLen at hmax1 hmax2
  go_enter Try.func44, Try.ntmps44
  go_wp2_with fail
  go_loopw [5] (fun i wr => ∃ k : Nat, k ≤ l.length ∧ i = .int .i64 k ∧ ∃ d, wr = w.drewN d) (fun i _ => l.length - (intOf i).toNat)
  case atStart => exact ⟨0, Nat.zero_le _, rfl, 0, rfl⟩
  case round =>
    obtain ⟨k, hk, rfl, d, rfl⟩ := hrel
    by_cases hlt : k < l.length
    · obtain ⟨b1, off1, rfl, hc1⟩ := H1.out (by omega)
      obtain ⟨b2, off2, rfl, hc2⟩ := H2.out (by omega)
      have g1 := hc1 k hlt
      have g2 := hc2 k hlt
      have i1 : (k : Int) < (l.length : Int) := by omega
      have i3 : (0 : Int) ≤ (k : Int) := by omega
      clear hc1 hc2
      generalize l[k] = x at *
      have e1 : (x != x) = false := by simp
      go_wp2_with fail
      try go_quiet (fail)
      try go_wp2_with fail
      go_roundw
      case rel => exact ⟨k + 1, by omega, by go_num, _, rfl⟩
      case measure => simp [intOf]; try omega
    · obtain rfl : k = l.length := by omega
      go_wp2_with fail
      go_ret
      exact ⟨rfl, ((From.start w).drewN _).below⟩
/-- What marking ends in. -/
def MarkI (base : Nat) (w : World) (v : Value) (k n : Nat) (e : Ending) (w' : World) : Prop :=
  e = .returned (.int .i64 ((k : Int) + (n : Int))) ∧ OwnI w' base v (marksI k n) ∧ Below base w w'
set_option maxHeartbeats 1000000 in
theorem markIntS_any (w : World) (base : Nat) (v : Value) (l : List Int) (h : OwnI w base v l) (hbase : base ≤ w.heap.size) (k : Nat) (hk : k ≤ 1073741824) (hl : l.length ≤ 1073741824) :
    Calls Try.prog 45 #[v, .int .i64 k] w (MarkI base w v k l.length) := by
  rcases Nat.eq_zero_or_pos l.length with h0 | hpos
  · obtain rfl : l = [] := List.eq_nil_of_length_eq_zero h0
    obtain ⟨a, cap, rfl⟩ := owns_form h
    have HO := Lib.hid h
    clear h
    go_enter Try.func45, Try.ntmps45
    go_wp2_with fail
    go_loop [1, 5] (fun q i => q = .int .i64 k ∧ i = .int .i64 0) (fun _ _ => 0)
    case atStart => exact ⟨rfl, rfl⟩
    case round =>
      obtain ⟨rfl, rfl⟩ := hrel
      go_wp2_with fail
      go_ret
      exact ⟨by simp, HO.out, Below.refl _ _⟩
  · have hform : ∃ g cap, v = .slice (some ⟨g, 0, none⟩) l.length cap ∧ base ≤ g := by
      rcases h.2 with ⟨rfl, h2⟩ | ⟨g, cap, cur, hv, hb, _⟩
      · omega
      · exact ⟨g, cap, hv, hb⟩
    obtain ⟨g, cap, rfl, hg⟩ := hform
    have HO0 : Hid (w.ownsRow base 3 1 (.slice (some ⟨g, 0, none⟩) l.length cap) l.length (ivs (marksI k 0 ++ l.drop 0))) := Lib.hid (by simpa [marksI, OwnI] using h)
    clear h
    go_enter Try.func45, Try.ntmps45
    go_wp2_with fail
    go_loopw [1, 5] (fun q i wr => ∃ j : Nat, j ≤ l.length ∧ i = .int .i64 j ∧ q = .int .i64 ((k : Int) + (j : Int)) ∧
      Hid (wr.ownsRow base 3 1 (.slice (some ⟨g, 0, none⟩) l.length cap) l.length (ivs (marksI k j ++ l.drop j))) ∧ From base w wr) (fun _ i _ => l.length - (intOf i).toNat)
    case atStart => exact ⟨0, Nat.zero_le _, rfl, by simp, HO0, ⟨Below.refl _ _, hbase⟩⟩
    case round =>
      obtain ⟨j, hj, rfl, rfl, HO, F⟩ := hrel
      by_cases hlt : j < l.length
      · have hd := HO.out.cellAt j (by omega)
        have hf := HO.out.frozenAt j
        have hd' : ∃ u, wr.cell? ⟨g, j, none⟩ = some u := ⟨_, hd.trans (List.getElem?_eq_getElem (by rw [HO.out.1]; omega))⟩
        obtain ⟨u0, hd'⟩ := hd'
        have HF := Lib.hid F
        clear hd F
        go_wp2_with fail
        go_roundw
        case rel =>
          refine ⟨j + 1, by omega, by go_num, by go_num, ?_, HF.out.setCell hg _⟩
          show World.ownsRow _ _ _ _ _ _ _
          rw [← marksI_step k l j hlt]
          exact (HO.out.stored j _).1
        case measure => simp [intOf]; try omega
      · obtain rfl : j = l.length := by omega
        go_wp2_with fail
        go_ret
        refine ⟨rfl, ?_, F.below⟩
        have := HO.out
        rw [List.drop_length, List.append_nil] at this
        unfold OwnI
        rw [marksI_length]
        exact this
set_option maxHeartbeats 1000000 in
theorem heldIntS_any (w : World) (v : Value) (k n : Nat) (h : IntsAt w v (marksI k n)) (hk : k ≤ 1073741824) (hn : n ≤ 1073741824) :
    Calls Try.prog 46 #[v, .int .i64 k] w fun e w' => e = .returned (.int .i64 ((k : Int) + (n : Int))) ∧ w = w' := by
  obtain ⟨a, cap, hv, hcap, hmax, hnone, hcell⟩ := h.form
  rw [marksI_length] at hv hcap
  subst hv
  have HC : Hid (0 < n → ∃ b off, a = some ⟨b, off, none⟩ ∧ ∀ j, j < n → w.cell? ⟨b, off + j, none⟩ = some (.int .i64 ((k : Int) + (j : Int)))) := by
    intro hn0
    obtain ⟨b, off, ha, hc⟩ := hcell (by rw [marksI_length]; exact hn0)
    refine ⟨b, off, ha, fun j hj => ?_⟩
    have := hc j (by rw [marksI_length]; exact hj)
    rw [marksI_get k n j hj] at this
    exact this
  clear h hnone hcell
  unfold maxLen at hmax
  go_enter Try.func46, Try.ntmps46
  go_wp2_with fail
  go_loop [1, 5] (fun q i => ∃ j : Nat, j ≤ n ∧ i = .int .i64 j ∧ q = .int .i64 ((k : Int) + (j : Int))) (fun _ i => n - (intOf i).toNat)
  case atStart => exact ⟨0, Nat.zero_le _, rfl, by simp⟩
  case round =>
    obtain ⟨j, hj, rfl, rfl⟩ := hrel
    by_cases hlt : j < n
    · obtain ⟨b, off, rfl, hc⟩ := HC.out (by omega)
      have g := hc j hlt
      have e1 : (((k : Int) + (j : Int)) != ((k : Int) + (j : Int))) = false := by simp
      clear hc
      go_wp2_with fail
      go_round
      case rel => exact ⟨j + 1, by omega, by go_num, by go_num⟩
      case measure => simp [intOf]; try omega
    · obtain rfl : j = n := by omega
      go_wp2_with fail
      go_ret
      exact ⟨rfl, rfl⟩
end Go.Proofs.Ythccjimckjecjaa
