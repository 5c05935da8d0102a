/- Bytes that a law writes over (marks), and whether the marks are held. -/
import Derived.Test.YthccjimckjecjaaBytes
namespace Go.Proofs.Ythccjimckjecjaa
open Go.ChangeShapes Go.WideShapes Go.ChangeAt Go.RowKit Go.Joins
set_option linter.unusedSimpArgs false
set_option linter.unusedVariables false
set_option maxRecDepth 100000

/-- The marks from a number on. -/
def marks (k n : Nat) : List UInt8 := (List.range n).map fun i => UInt8.ofNat ((k + i) % 256)
theorem marks_length (k n : Nat) : (marks k n).length = n := by simp [marks]
theorem marks_get (k n i : Nat) (h : i < n) : (marks k n)[i]'(by rw [marks_length]; exact h) = UInt8.ofNat ((k + i) % 256) := by simp [marks]
theorem mark_toNat (k i : Nat) : ((UInt8.ofNat ((k + i) % 256)).toNat : Int) = ((k : Int) + (i : Int)) % 256 := by
  rw [UInt8.toNat_ofNat']; omega
theorem marks_step (k : Nat) (l : List UInt8) (i : Nat) (h : i < l.length) :
    (bvs (marks k i ++ l.drop i)).set i (.int .u8 (((k : Int) + (i : Int)) % 256)) = bvs (marks k (i + 1) ++ l.drop (i + 1)) := by
  rw [bvs_append, List.set_append, if_neg (by rw [bvs_length, marks_length]; omega), bvs_length, marks_length, Nat.sub_self, List.drop_eq_getElem_cons h]
  show bvs (marks k i) ++ (Value.int .u8 (((k : Int) + (i : Int)) % 256) :: bvs (l.drop (i + 1))) = _
  have : marks k (i + 1) = marks k i ++ [UInt8.ofNat ((k + i) % 256)] := by simp [marks, List.range_succ]
  rw [this, List.append_assoc, bvs_append]
  congr 1
  show _ = Value.int .u8 (((UInt8.ofNat ((k + i) % 256)).toNat : Nat) : Int) :: bvs (l.drop (i + 1))
  rw [mark_toNat]

/-- What marking ends in. -/
def MarkB (base : Nat) (w : World) (v : Value) (k n : Nat) (e : Ending) (w' : World) : Prop :=
  e = .returned (.int .i64 ((k : Int) + (n : Int))) ∧ OwnB w' base v (marks k n) ∧ Below base w w'
set_option maxHeartbeats 1000000 in
theorem markByteS_any (w : World) (base : Nat) (v : Value) (l : List UInt8) (h : OwnB w base v l) (hbase : base ≤ w.heap.size) (k : Nat) (hk : k ≤ 1073741824) (hl : l.length ≤ 1073741824) :
    Calls Try.prog 144 #[v, .int .i64 k] w (MarkB base w v k l.length) := by
  rcases Nat.eq_zero_or_pos l.length with h0 | hpos
  · obtain rfl : l = [] := List.eq_nil_of_length_eq_zero h0
    obtain ⟨a, cap, rfl⟩ := owns_form h
    have HO := Lib.hid h
    clear h
    go_enter Try.func144, Try.ntmps144
    go_wp2_with fail
    go_loop [1, 5] (fun q i => q = .int .i64 k ∧ i = .int .i64 0) (fun _ _ => 0)
    case atStart => exact ⟨rfl, rfl⟩
    case round =>
      obtain ⟨rfl, rfl⟩ := hrel
      go_wp2_with fail
      go_ret
      exact ⟨by simp, HO.out, Below.refl _ _⟩
  · have hform : ∃ g cap, v = .slice (some ⟨g, 0, none⟩) l.length cap ∧ base ≤ g := by
      rcases h.2 with ⟨rfl, h2⟩ | ⟨g, cap, cur, hv, hb, _⟩
      · omega
      · exact ⟨g, cap, hv, hb⟩
    obtain ⟨g, cap, rfl, hg⟩ := hform
    have HO0 : Hid (w.ownsRow base 5 1 (.slice (some ⟨g, 0, none⟩) l.length cap) l.length (bvs (marks k 0 ++ l.drop 0))) := Lib.hid (by simpa [marks, OwnB] using h)
    clear h
    go_enter Try.func144, Try.ntmps144
    go_wp2_with fail
    go_loopw [1, 5] (fun q i wr => ∃ j : Nat, j ≤ l.length ∧ i = .int .i64 j ∧ q = .int .i64 ((k : Int) + (j : Int)) ∧
      Hid (wr.ownsRow base 5 1 (.slice (some ⟨g, 0, none⟩) l.length cap) l.length (bvs (marks k j ++ l.drop j))) ∧ From base w wr) (fun _ i _ => l.length - (intOf i).toNat)
    case atStart => exact ⟨0, Nat.zero_le _, rfl, by simp, HO0, ⟨Below.refl _ _, hbase⟩⟩
    case round =>
      obtain ⟨j, hj, rfl, rfl, HO, F⟩ := hrel
      by_cases hlt : j < l.length
      · have hd := HO.out.cellAt j (by omega)
        have hf := HO.out.frozenAt j
        have hd' : ∃ u, wr.cell? ⟨g, j, none⟩ = some u := ⟨_, hd.trans (List.getElem?_eq_getElem (by rw [HO.out.1]; omega))⟩
        obtain ⟨u0, hd'⟩ := hd'
        have HF := Lib.hid F
        clear hd F
        go_wp2_with fail
        go_roundw
        case rel =>
          refine ⟨j + 1, by omega, by go_num, by go_num, ?_, HF.out.setCell hg _⟩
          show World.ownsRow _ _ _ _ _ _ _
          rw [← marks_step k l j hlt]
          exact (HO.out.stored j _).1
        case measure => simp [intOf]; try omega
      · obtain rfl : j = l.length := by omega
        go_wp2_with fail
        go_ret
        refine ⟨rfl, ?_, F.below⟩
        have := HO.out
        rw [List.drop_length, List.append_nil] at this
        unfold OwnB
        rw [marks_length]
        exact this
set_option maxHeartbeats 1000000 in
theorem heldByteS_any (w : World) (v : Value) (k n : Nat) (h : BytesAt w v (marks k n)) (hk : k ≤ 1073741824) (hn : n ≤ 1073741824) :
    Calls Try.prog 146 #[v, .int .i64 k] w fun e w' => e = .returned (.int .i64 ((k : Int) + (n : Int))) ∧ w = w' := by
  obtain ⟨a, cap, hv, hcap, hmax, hnone, hcell⟩ := h.form
  rw [marks_length] at hv hcap
  subst hv
  have HC : Hid (0 < n → ∃ b off, a = some ⟨b, off, none⟩ ∧ ∀ j, j < n → w.cell? ⟨b, off + j, none⟩ = some (.int .u8 (((k : Int) + (j : Int)) % 256))) := by
    intro hn0
    obtain ⟨b, off, ha, hc⟩ := hcell (by rw [marks_length]; exact hn0)
    refine ⟨b, off, ha, fun j hj => ?_⟩
    have := hc j (by rw [marks_length]; exact hj)
    rw [marks_get k n j hj, mark_toNat] at this
    exact this
  clear h hnone hcell
  unfold maxLen at hmax
  go_enter Try.func146, Try.ntmps146
  go_wp2_with fail
  go_loop [1, 5] (fun q i => ∃ j : Nat, j ≤ n ∧ i = .int .i64 j ∧ q = .int .i64 ((k : Int) + (j : Int))) (fun _ i => n - (intOf i).toNat)
  case atStart => exact ⟨0, Nat.zero_le _, rfl, by simp⟩
  case round =>
    obtain ⟨j, hj, rfl, rfl⟩ := hrel
    by_cases hlt : j < n
    · obtain ⟨b, off, rfl, hc⟩ := HC.out (by omega)
      have g := hc j hlt
      clear hc
      go_wp2_with fail
      go_round
      case rel => exact ⟨j + 1, by omega, by go_num, by go_num⟩
      case measure => simp [intOf]; try omega
    · obtain rfl : j = n := by omega
      go_wp2_with fail
      go_ret
      exact ⟨rfl, rfl⟩
end Go.Proofs.Ythccjimckjecjaa
