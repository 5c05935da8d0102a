/- Places of texts in tables: both functions compute the same. -/
import Derived.Test.YthccjimckjecjaaNameAt
namespace Go.Proofs.Ythccjimckjecjaa
open Go.ChangeShapes Go.WideShapes Go.ChangeAt Go.RowKit Go.Joins
set_option linter.unusedSimpArgs false
set_option linter.unusedVariables false
set_option maxRecDepth 100000

/-- The first place from which a text stands. -/
def placeOf (l nm : List UInt8) : Int := match (List.range l.length).find? (fun i : Nat => decide (nameAtL l (i : Int) = some nm)) with | some i => (i : Int) | none => -1
theorem placeOf_hit {l nm : List UInt8} {k : Nat} (hk : k < l.length) (h : nameAtL l (k : Int) = some nm) (hb : ∀ j, j < k → nameAtL l (j : Int) ≠ some nm) : placeOf l nm = k := by
  unfold placeOf
  have : (List.range l.length).find? (fun i : Nat => decide (nameAtL l (i : Int) = some nm)) = some k := by
    rw [List.find?_eq_some_iff_getElem]
    refine ⟨by simp [h], k, by simpa using hk, by simp, fun j hj => by simpa using hb j hj⟩
  rw [this]
theorem placeOf_none {l nm : List UInt8} (hb : ∀ j, j < l.length → nameAtL l (j : Int) ≠ some nm) : placeOf l nm = -1 := by
  unfold placeOf
  have : (List.range l.length).find? (fun i : Nat => decide (nameAtL l (i : Int) = some nm)) = none := by
    rw [List.find?_eq_none]
    intro x hx
    simpa using hb x (List.mem_range.1 hx)
  rw [this]
theorem placeOf_range (l nm : List UInt8) : -1 ≤ placeOf l nm ∧ placeOf l nm < l.length := by
  unfold placeOf
  split
  · rename_i i h
    have := List.mem_of_find?_eq_some h
    have := List.mem_range.1 this
    omega
  · omega
/-- The bytes of a text. -/
def bytesS (s : ByteArray) : List UInt8 := s.data.toList
theorem toList_bytesS (s : ByteArray) : s.toList = bytesS s := Lib.toList_data s
theorem bytesS_mk (b : List UInt8) : bytesS ⟨b.toArray⟩ = b := by simp [bytesS]
theorem str_eq {b s : ByteArray} (h : bytesS b = bytesS s) : (b.toList == s.toList) = true := by
  rw [toList_bytesS, toList_bytesS, h]; simp
theorem str_ne {b s : ByteArray} (h : bytesS b ≠ bytesS s) : (b.toList == s.toList) = false := by
  rw [toList_bytesS, toList_bytesS]; simpa using h

set_option maxHeartbeats 1000000 in
theorem s_PlaceOf (w : World) (v : Value) (l : List UInt8) (h : BytesAt w v l) (name : ByteArray) :
    Calls Try.prog 105 #[v, .string name] w fun e w' => e = .returned (.int .i64 (placeOf l (bytesS name))) ∧ w = w' := by
  obtain ⟨a, cap, rfl, hcap, hmax, hnone, hcell⟩ := h.form
  unfold maxLen at hmax
  have H := Lib.hid h
  clear h hnone hcell
  go_enter Try.func105, Try.ntmps105
  go_wp2_with fail
  go_loop [5] (fun i => ∃ k : Nat, k ≤ l.length ∧ i = .int .i64 k ∧ Hid (∀ j, j < k → nameAtL l (j : Int) ≠ some (bytesS name))) (fun i => l.length - (intOf i).toNat)
  case atStart => exact ⟨0, Nat.zero_le _, rfl, fun j hj => absurd hj (Nat.not_lt_zero _)⟩
  case round =>
    obtain ⟨k, hk, rfl, HB⟩ := hrel
    by_cases hlt : k < l.length
    · rcases hn : nameAtL l (k : Int) with _ | b
      · have HN := Lib.hid hn
        clear hn
        go_wp2_with fail
        refine (s_NameAt w _ l H.out _).mono ?_
        rintro e w' ⟨rfl, rfl⟩
        rw [HN.out]
        unfold optV
        simp only [Option.getD_none, Option.isSome_none]
        go_wp2_with fail
        go_round
        case rel => exact ⟨k + 1, by omega, by go_num, fun j hj => by
          rcases Nat.lt_succ_iff_lt_or_eq.1 hj with h | rfl
          · exact HB.out j h
          · rw [HN.out]; simp⟩
        case measure => simp [intOf]; try omega
      · have HN := Lib.hid hn
        clear hn
        obtain ⟨sb, hsb⟩ : ∃ sb : ByteArray, ⟨b.toArray⟩ = sb := ⟨_, rfl⟩
        have hbb : bytesS sb = b := by rw [← hsb]; exact bytesS_mk b
        have HSB := Lib.hid hsb
        have HBB := Lib.hid hbb
        clear hsb hbb
        by_cases hb : bytesS sb = bytesS name
        · have hs := str_eq hb
          have E : Hid (placeOf l (bytesS name) = k) := placeOf_hit hlt (by rw [HN.out, ← HBB.out, hb]) HB.out
          clear hb
          go_wp2_with fail
          refine (s_NameAt w _ l H.out _).mono ?_
          rintro e w' ⟨rfl, rfl⟩
          rw [HN.out]
          unfold optV
          simp only [Option.getD_some, Option.isSome_some]
          rw [HSB.out]
          go_wp2_with fail
          go_ret
          exact ⟨by rw [E.out]; rfl, rfl⟩
        · have hs := str_ne hb
          have HX := Lib.hid hb
          clear hb
          go_wp2_with fail
          refine (s_NameAt w _ l H.out _).mono ?_
          rintro e w' ⟨rfl, rfl⟩
          rw [HN.out]
          unfold optV
          simp only [Option.getD_some, Option.isSome_some]
          rw [HSB.out]
          go_wp2_with fail
          go_round
          case rel => exact ⟨k + 1, by omega, by go_num, fun j hj => by
            rcases Nat.lt_succ_iff_lt_or_eq.1 hj with h | rfl
            · exact HB.out j h
            · rw [HN.out, ← HBB.out]; simpa using HX.out⟩
          case measure => simp [intOf]; try omega
    · have E : Hid (placeOf l (bytesS name) = -1) := placeOf_none fun j hj => HB.out j (by omega)
      go_wp2_with fail
      go_ret
      exact ⟨by rw [E.out]; rfl, rfl⟩
set_option maxHeartbeats 1000000 in
theorem i_PlaceOf (w : World) (v : Value) (l : List UInt8) (h : BytesAt w v l) (name : ByteArray) :
    Calls Try.prog 63 #[v, .string name] w fun e w' => e = .returned (.int .i64 (placeOf l (bytesS name))) ∧ w = w' := by
  obtain ⟨a, cap, rfl, hcap, hmax, hnone, hcell⟩ := h.form
  unfold maxLen at hmax
  have H := Lib.hid h
  clear h hnone hcell
  go_enter Try.func63, Try.ntmps63
  go_wp2_with fail
  go_loop [10] (fun i => ∃ k : Nat, k ≤ l.length ∧ i = .int .i64 k ∧ Hid (∀ j, j < k → nameAtL l (j : Int) ≠ some (bytesS name))) (fun i => l.length - (intOf i).toNat)
  case atStart => exact ⟨0, Nat.zero_le _, rfl, fun j hj => absurd hj (Nat.not_lt_zero _)⟩
  case round =>
    obtain ⟨k, hk, rfl, HB⟩ := hrel
    by_cases hlt : k < l.length
    · rcases hn : nameAtL l (k : Int) with _ | b
      · have HN := Lib.hid hn
        clear hn
        go_wp2_with fail
        refine (i_NameAt w _ l H.out _).mono ?_
        rintro e w' ⟨rfl, rfl⟩
        rw [HN.out]
        unfold optV
        simp only [Option.getD_none, Option.isSome_none]
        go_wp2_with fail
        go_round
        case rel => exact ⟨k + 1, by omega, by go_num, fun j hj => by
          rcases Nat.lt_succ_iff_lt_or_eq.1 hj with h | rfl
          · exact HB.out j h
          · rw [HN.out]; simp⟩
        case measure => simp [intOf]; try omega
      · have HN := Lib.hid hn
        clear hn
        obtain ⟨sb, hsb⟩ : ∃ sb : ByteArray, ⟨b.toArray⟩ = sb := ⟨_, rfl⟩
        have hbb : bytesS sb = b := by rw [← hsb]; exact bytesS_mk b
        have HSB := Lib.hid hsb
        have HBB := Lib.hid hbb
        clear hsb hbb
        by_cases hb : bytesS sb = bytesS name
        · have hs := str_eq hb
          have E : Hid (placeOf l (bytesS name) = k) := placeOf_hit hlt (by rw [HN.out, ← HBB.out, hb]) HB.out
          clear hb
          go_wp2_with fail
          refine (i_NameAt w _ l H.out _).mono ?_
          rintro e w' ⟨rfl, rfl⟩
          rw [HN.out]
          unfold optV
          simp only [Option.getD_some, Option.isSome_some]
          rw [HSB.out]
          go_wp2_with fail
          go_ret
          exact ⟨by rw [E.out]; rfl, rfl⟩
        · have hs := str_ne hb
          have HX := Lib.hid hb
          clear hb
          go_wp2_with fail
          refine (i_NameAt w _ l H.out _).mono ?_
          rintro e w' ⟨rfl, rfl⟩
          rw [HN.out]
          unfold optV
          simp only [Option.getD_some, Option.isSome_some]
          rw [HSB.out]
          go_wp2_with fail
          go_round
          case rel => exact ⟨k + 1, by omega, by go_num, fun j hj => by
            rcases Nat.lt_succ_iff_lt_or_eq.1 hj with h | rfl
            · exact HB.out j h
            · rw [HN.out, ← HBB.out]; simpa using HX.out⟩
          case measure => simp [intOf]; try omega
    · have E : Hid (placeOf l (bytesS name) = -1) := placeOf_none fun j hj => HB.out j (by omega)
      go_wp2_with fail
      go_ret
      exact ⟨by rw [E.out]; rfl, rfl⟩
end Go.Proofs.Ythccjimckjecjaa
