/- Headers read from bytes: one contract for all bytes; headers compared. -/
import Derived.Test.YthjpdnpmdppamaaGetHeadS
import Derived.Test.YthjpdnpmdppamaaPlainA
namespace Go.Proofs.Ythjpdnpmdppamaa
open Go.ChangeShapes Go.WideShapes Go.ChangeAt Go.RowKit Go.Joins
set_option linter.unusedSimpArgs false
set_option linter.unusedVariables false
set_option maxRecDepth 100000
/-- The header at the beginning of bytes. -/
def getHead (l : List UInt8) : Option (Int × Int × Int × Int) :=
  if 10 ≤ l.length ∧ getHeadB l (l.getD 4 0).toNat (l.getD 5 0).toNat (l.getD 6 0).toNat (getNum l 7 2) = true then some ((l.getD 4 0).toNat, (l.getD 5 0).toNat, (l.getD 6 0).toNat, getNum l 7 2) else none
def headOpt : Option (Int × Int × Int × Int) → Value
  | some (a, b, c, d) => headerV a b c d
  | none => headerV 0 0 0 0
/-- How a header is handed back. -/
def RetHead (w : World) (o : Option (Int × Int × Int × Int)) (e : Ending) (w' : World) : Prop := e = .returned (.tuple #[headOpt o, .bool o.isSome]) ∧ Below w.heap.size w w'
theorem i_GetHeader_all (w : World) (v : Value) (l : List UInt8) (h : BytesAt w v l) : Calls Try.prog 67 #[v] w (RetHead w (getHead l)) := by
  by_cases hl : 10 ≤ l.length
  · have hg : ∀ i, i < l.length → l[i]? = some (l.getD i 0) := fun i hi => by simp [List.getD, List.getElem?_eq_getElem hi]
    have := i_GetHeader w v l h hl _ _ _ (hg 4 (by omega)) (hg 5 (by omega)) (hg 6 (by omega)) _ rfl
    refine this.mono fun e w' ⟨h1, h2⟩ => ⟨?_, h2⟩
    by_cases hb : getHeadB l (l.getD 4 0).toNat (l.getD 5 0).toNat (l.getD 6 0).toNat (getNum l 7 2) = true
    · have e : getHead l = some (((l.getD 4 0).toNat : Int), ((l.getD 5 0).toNat : Int), ((l.getD 6 0).toNat : Int), getNum l 7 2) := by unfold getHead; rw [if_pos ⟨hl, hb⟩]
      rw [h1, e, hb]; rfl
    · have hb' : getHeadB l (l.getD 4 0).toNat (l.getD 5 0).toNat (l.getD 6 0).toNat (getNum l 7 2) = false := by simpa using hb
      have e : getHead l = none := by unfold getHead; rw [if_neg (fun h => hb h.2)]
      rw [h1, e, hb']; rfl
  · refine (i_GetHeader_short w v l h (by omega)).mono fun e w' ⟨h1, h2⟩ => ⟨?_, h2⟩
    have e : getHead l = none := by unfold getHead; rw [if_neg (fun h => hl h.1)]
    rw [h1, e]; rfl
theorem s_GetHeader_all (w : World) (v : Value) (l : List UInt8) (h : BytesAt w v l) : Calls Try.prog 66 #[v] w (RetHead w (getHead l)) := by
  by_cases hl : 10 ≤ l.length
  · have hg : ∀ i, i < l.length → l[i]? = some (l.getD i 0) := fun i hi => by simp [List.getD, List.getElem?_eq_getElem hi]
    have := s_GetHeader w v l h hl _ _ _ (hg 4 (by omega)) (hg 5 (by omega)) (hg 6 (by omega)) _ rfl
    refine this.mono fun e w' ⟨h1, h2⟩ => ⟨?_, h2⟩
    by_cases hb : getHeadB l (l.getD 4 0).toNat (l.getD 5 0).toNat (l.getD 6 0).toNat (getNum l 7 2) = true
    · have e : getHead l = some (((l.getD 4 0).toNat : Int), ((l.getD 5 0).toNat : Int), ((l.getD 6 0).toNat : Int), getNum l 7 2) := by unfold getHead; rw [if_pos ⟨hl, hb⟩]
      rw [h1, e, hb]; rfl
    · have hb' : getHeadB l (l.getD 4 0).toNat (l.getD 5 0).toNat (l.getD 6 0).toNat (getNum l 7 2) = false := by simpa using hb
      have e : getHead l = none := by unfold getHead; rw [if_neg (fun h => hb h.2)]
      rw [h1, e, hb']; rfl
  · refine (s_GetHeader_short w v l h (by omega)).mono fun e w' ⟨h1, h2⟩ => ⟨?_, h2⟩
    have e : getHead l = none := by unfold getHead; rw [if_neg (fun h => hl h.1)]
    rw [h1, e]; rfl
theorem getHead_some {l : List UInt8} {a b c d : Int} (h : getHead l = some (a, b, c, d)) : 10 ≤ l.length ∧ headerB a b c d = true ∧ putHead a b c d = l.take 10 := by
  unfold getHead at h
  split at h
  · rename_i hc
    simp only [Option.some.injEq, Prod.mk.injEq] at h
    obtain ⟨rfl, rfl, rfl, rfl⟩ := h
    refine ⟨hc.1, ?_⟩
    have h2 := hc.2
    unfold getHeadB at h2
    rw [Bool.and_eq_true] at h2
    exact ⟨h2.1, by simpa [eqB] using h2.2⟩
  · cases h
theorem getHead_put {a b c d : Int} (h : headerB a b c d = true) (r : List UInt8) : getHead (putHead a b c d ++ r) = some (a, b, c, d) ∧ (putHead a b c d).length = 10 := by
  have hh := h
  simp only [headerB, Bool.and_eq_true] at hh
  obtain ⟨⟨⟨q1, q2⟩, q3⟩, q4⟩ := hh
  have q1 := (withinB_iff _ _ _).1 q1
  have q2 := (withinB_iff _ _ _).1 q2
  have q3 := (withinB_iff _ _ _).1 q3
  have q4 := (withinB_iff _ _ _).1 q4
  obtain ⟨A, rfl⟩ := Int.eq_ofNat_of_zero_le q1.1
  obtain ⟨B, rfl⟩ := Int.eq_ofNat_of_zero_le q2.1
  obtain ⟨C, rfl⟩ := Int.eq_ofNat_of_zero_le q3.1
  obtain ⟨D, rfl⟩ := Int.eq_ofNat_of_zero_le (show 0 ≤ d by omega)
  have e : putHead A B C D = [111, 98, 106, 1, UInt8.ofNat A, UInt8.ofNat B, UInt8.ofNat C, UInt8.ofNat (D % 256), UInt8.ofNat (D / 256 % 256), 0] := by
    unfold putHead
    rw [if_pos h]
    simp [leBytes]
  have f : ∀ n : Nat, n ≤ 255 → ((UInt8.ofNat n).toNat : Int) = n := fun n hn => by rw [UInt8.toNat_ofNat']; omega
  have hlen : (putHead A B C D).length = 10 := by rw [e]; rfl
  refine ⟨?_, hlen⟩
  have g4 : (putHead (A : Int) B C D ++ r).getD 4 0 = UInt8.ofNat A := by rw [e]; rfl
  have g5 : (putHead (A : Int) B C D ++ r).getD 5 0 = UInt8.ofNat B := by rw [e]; rfl
  have g6 : (putHead (A : Int) B C D ++ r).getD 6 0 = UInt8.ofNat C := by rw [e]; rfl
  have gn : getNum (putHead (A : Int) B C D ++ r) 7 2 = D := by
    rw [getNum_of (wide := 2) rfl ((withinB_iff _ _ _).2 ⟨by decide, by rw [List.length_append, hlen]; omega⟩), e]
    show leNum [UInt8.ofNat (D % 256), UInt8.ofNat (D / 256 % 256)] = D
    simp only [leNum]
    rw [f _ (by omega), f _ (by omega)]
    omega
  unfold getHead
  rw [g4, g5, g6, gn, f A (by omega), f B (by omega), f C (by omega), if_pos]
  refine ⟨by rw [List.length_append]; omega, ?_⟩
  unfold getHeadB
  rw [h, List.take_append_of_le_length (by omega), List.take_of_length_le (by omega), eqB_self]
  rfl
set_option maxHeartbeats 1000000 in
theorem eqHeader_same (a b c d : Int) (w : World) :
    Calls Try.prog 68 #[headerV a b c d, headerV a b c d] w fun e w' => e = .returned (.bool true) ∧ Below w.heap.size w w' := by
  go_enter Try.func68, Try.ntmps68
  go_wp2
  go_ret
  exact ⟨rfl, (((From.start w).alloc _).alloc _).below⟩
end Go.Proofs.Ythjpdnpmdppamaa
