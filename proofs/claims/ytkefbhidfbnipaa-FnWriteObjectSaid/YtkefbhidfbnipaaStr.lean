/- Slices of texts: drawn, sorted by insertion. -/
import Derived.Test.YtkefbhidfbnipaaDrawK
import Derived.Test.YtkefbhidfbnipaaBase
import Derived.Test.YtkefbhidfbnipaaBytes
import Derived.Deep.RegionLaw
namespace Go.Proofs.Ytkefbhidfbnipaa
open Go.ChangeShapes Go.WideShapes Go.ChangeAt Go.RowKit Go.Joins
set_option linter.unusedSimpArgs false
set_option linter.unusedVariables false
set_option maxRecDepth 100000

def SomeStrs (base k n : Nat) (w : World) (v : Value) : Prop := ∃ l, OwnS w base v l ∧ l.length ≤ k ∧ ∀ s ∈ l, s.size ≤ n
def SomeStrsN (base k n : Nat) (w : World) (v : Value) : Prop := ∃ l, OwnS w base v l ∧ v ≠ .slice none 0 0 ∧ l.length ≤ k ∧ ∀ s ∈ l, s.size ≤ n
theorem owns_some {w : World} {base : Nat} {v : Value} {l : List ByteArray} (h : OwnS w base v l) (hn : v ≠ .slice none 0 0) : ∃ g c, v = .slice (some ⟨g, 0, none⟩) l.length c ∧ base ≤ g ∧ g < w.heap.size := by
  rcases h.2 with ⟨hv, _⟩ | ⟨g, c, cur, hv, hb, hh, _⟩
  · exact absurd hv hn
  · exact ⟨g, c, hv, hb, (Array.getElem?_eq_some_iff.1 hh).1⟩
theorem owns_more_some {w : World} {base n : Nat} {e : TypeId} {size : Nat} {v : Value} {xs : List Value} (h : w.ownsRow base e size v (n + 1) xs) : v ≠ .slice none 0 0 := fun hv => by
  rcases h.2 with ⟨_, hx⟩ | ⟨g, c, cur, hv', _⟩
  · omega
  · rw [hv'] at hv; cases hv
/-- Whether a text is the end of another one. -/
def endsB (s e : ByteArray) : Bool := (bytesS e).isSuffixOf (bytesS s)
theorem bytesS_size (s : ByteArray) : (bytesS s).length = s.size := by unfold bytesS; rw [Array.length_toList]; rfl
theorem bytesS_extract (s : ByteArray) (a b : Nat) : bytesS (s.extract a b) = ((bytesS s).take b).drop a := by
  unfold bytesS
  rw [ByteArray.data_extract, Array.toList_extract]
  simp [List.extract_eq_take_drop, List.drop_take]
theorem endsB_long {s e : ByteArray} (h : s.size < e.size) : endsB s e = false := by
  unfold endsB
  cases hh : (bytesS e).isSuffixOf (bytesS s) with
  | false => rfl
  | true =>
    have := (List.isSuffixOf_iff_suffix.1 hh).length_le
    rw [bytesS_size, bytesS_size] at this
    omega
theorem endsB_short {s e : ByteArray} (h : e.size ≤ s.size) : endsB s e = decide (bytesS (s.extract (s.size - e.size) s.size) = bytesS e) := by
  unfold endsB
  rw [bytesS_extract, ← bytesS_size s, List.take_length, Bool.eq_iff_iff, List.isSuffixOf_iff_suffix, decide_eq_true_iff, List.suffix_iff_eq_drop, bytesS_size e]
  exact eq_comm
set_option maxHeartbeats 400000 in
theorem l2Ends_any (s e : ByteArray) (hs : s.size ≤ 1073741824) (he : e.size ≤ 1073741824) (w : World) :
    Calls Try.prog 61 #[.string s, .string e] w fun x w' => x = .returned (.bool (endsB s e)) ∧ w = w' := by
  by_cases h : e.size ≤ s.size
  · have E := Lib.hid (endsB_short h)
    have h' : (e.size : Int) ≤ (s.size : Int) := by omega
    have hn : ((s.size : Int) - (e.size : Int)).toNat = s.size - e.size := by omega
    by_cases hq : bytesS (s.extract (s.size - e.size) s.size) = bytesS e
    · have q1 := str_eq hq
      have E2 : Hid (endsB s e = true) := by show _ = _; rw [E.out]; simpa using hq
      clear hq E
      go_enter Try.func61, Try.ntmps61
      go_wp2_with fail
      go_ret
      exact ⟨by rw [E2.out]; try rfl, rfl⟩
    · have q1 := str_ne hq
      have E2 : Hid (endsB s e = false) := by show _ = _; rw [E.out]; simpa using hq
      clear hq E
      go_enter Try.func61, Try.ntmps61
      go_wp2_with fail
      go_ret
      exact ⟨by rw [E2.out]; try rfl, rfl⟩
  · have E2 : Hid (endsB s e = false) := endsB_long (by omega)
    have h' : ¬ (e.size : Int) ≤ (s.size : Int) := by omega
    clear h
    go_enter Try.func61, Try.ntmps61
    go_wp2_with fail
    go_ret
    exact ⟨by rw [E2.out]; try rfl, rfl⟩
end Go.Proofs.Ytkefbhidfbnipaa
