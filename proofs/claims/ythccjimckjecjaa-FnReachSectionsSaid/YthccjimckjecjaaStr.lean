/- Slices of texts: drawn, sorted by insertion. -/
import Derived.Test.YthccjimckjecjaaDrawK
import Derived.Test.YthccjimckjecjaaBase
import Derived.Test.YthccjimckjecjaaPlainT
import Derived.Deep.RegionLaw
namespace Go.Proofs.Ythccjimckjecjaa
open Go.ChangeShapes Go.WideShapes Go.ChangeAt Go.RowKit Go.Joins
set_option linter.unusedSimpArgs false
set_option linter.unusedVariables false
set_option maxRecDepth 100000

def SomeStrs (base k n : Nat) (w : World) (v : Value) : Prop := ∃ l, OwnS w base v l ∧ l.length ≤ k ∧ ∀ s ∈ l, s.size ≤ n
def SomeStrsN (base k n : Nat) (w : World) (v : Value) : Prop := ∃ l, OwnS w base v l ∧ v ≠ .slice none 0 0 ∧ l.length ≤ k ∧ ∀ s ∈ l, s.size ≤ n
theorem owns_some {w : World} {base : Nat} {v : Value} {l : List ByteArray} (h : OwnS w base v l) (hn : v ≠ .slice none 0 0) : ∃ g c, v = .slice (some ⟨g, 0, none⟩) l.length c ∧ base ≤ g ∧ g < w.heap.size := by
  rcases h.2 with ⟨hv, _⟩ | ⟨g, c, cur, hv, hb, hh, _⟩
  · exact absurd hv hn
  · exact ⟨g, c, hv, hb, (Array.getElem?_eq_some_iff.1 hh).1⟩
theorem owns_more_some {w : World} {base n : Nat} {e : TypeId} {size : Nat} {v : Value} {xs : List Value} (h : w.ownsRow base e size v (n + 1) xs) : v ≠ .slice none 0 0 := fun hv => by
  rcases h.2 with ⟨_, hx⟩ | ⟨g, c, cur, hv', _⟩
  · omega
  · rw [hv'] at hv; cases hv
set_option maxHeartbeats 1000000 in
theorem l20Names_some (w : World) (g p : Nat) (h : RdAt w g p) (hp : p ≤ 1073000000) (m : Int) (h0 : 0 ≤ m) (hm : m ≤ 1000) :
    Calls Try.prog 72 #[.pointer (some ⟨g, 0, none⟩), .int .i64 m] w (DrawE (SomeStrsN w.heap.size 7 9) 15 w g p) := by
  obtain ⟨i0, hi, hz0, hz1, hz2⟩ := info_parts info_str
  have zg := h.lt
  have HR := Lib.hid h
  clear h
  go_enter Try.func72, Try.ntmps72
  go_wp2_with fail
  refine (pick_over w w g p (Drawn.start HR.out) (by omega) _ _ 8 (by omega) (by omega)).mono ?_
  rintro e w1 ⟨x, rfl, hx0, hx1, hD, hB⟩
  obtain ⟨k0, rfl⟩ := Int.eq_ofNat_of_zero_le hx0
  have hO : OwnS w1 w.heap.size (.slice (some ⟨w.heap.size, 0, none⟩) 0 0) [] := ⟨rfl, .inr ⟨w.heap.size, 0, #[], rfl, Nat.le_refl _, hB, Nat.le_refl _, Nat.zero_le _, rfl, rfl⟩⟩
  have HO0 := Lib.hid hO
  have HD0 := Lib.hid hD
  clear hO hD hB
  go_wp2_with fail
  go_loopw [5, 6] (fun out i wr => ∃ (l : List ByteArray) (k q : Nat), i = .int .i64 k ∧ l.length + k ≤ 7 ∧ Hid (OwnS wr w.heap.size out l) ∧ q ≤ p + 1 + 2 * l.length ∧ Hid (Drawn g q w wr) ∧ Hid (∀ s ∈ l, s.size ≤ 9) ∧ Hid (out ≠ .slice none 0 0)) (fun _ i _ => (intOf i).toNat)
  case atStart => exact ⟨[], k0, p + 1, rfl, by simp; omega, HO0, by simp, HD0, (fun s hs => by cases hs), (fun e => by cases e)⟩
  case round =>
    clear HO0 HD0
    obtain ⟨l, k, q, rfl, hlk, HO, hq, HD, HS, HNN⟩ := hrel
    by_cases hlt : 0 < k
    · have z0 := HD.out.lt
      go_wp2_with fail
      refine (l20Name_any _ g q HD.out.rd (by omega) m h0 (by omega)).mono ?_
      rintro e w2 ⟨_, q2, rfl, ⟨s, rfl, hs⟩, hq2, hD2⟩
      have hO3 : OwnS w2 w.heap.size _ l := owns_drawn HO.out hD2.grow zg
      have HO3 := Lib.hid hO3
      have HD3 := Lib.hid (HD.out.next hD2)
      clear hO3 hD2 HO HD
      go_wp2_with (at_builtin; refine wpList_append_src rfl _ _ 40 40 rfl w.heap.size 9 i0 (.string ⟨#[]⟩) 1 16 Try.underlying40 hi hz0 hz1 hz2 rfl (by decide) _ _ _ rfl (HO3.out.alloc _) _ 1 [_] rfl (src_new Try.underlying40 _ [_] 1 1 1 _ rfl ?c0) ?c1 ?c2 ?c3 ?_)
      case c0 => intro u hu; obtain rfl := List.mem_singleton.1 hu; rfl
      case c1 => unfold maxLen; omega
      case c2 => omega
      case c3 => have := HD3.out.grow.size; simp; omega
      intro v' w4 hown hgr
      have HNN4 := Lib.hid (owns_more_some hown)
      have HO4 := Lib.hid (owns_snocS hown)
      have HD4 := Lib.hid ((HD3.out.alloc _).ownGrown hgr (HO3.out.alloc _) zg)
      clear hown hgr HO3 HD3
      go_wp2_with fail
      go_roundw
      case rel =>
        refine ⟨l ++ [s], k - 1, q2, by go_num, by simp; omega, HO4, by simp; omega, HD4, (fun t ht => ?_), HNN4⟩
        rcases List.mem_append.1 ht with ht | ht
        · exact HS.out t ht
        · obtain rfl := List.mem_singleton.1 ht; exact hs
      case measure => simp [intOf]; try omega
    · obtain rfl : k = 0 := by omega
      go_wp2_with fail
      go_ret
      exact ⟨_, q, rfl, ⟨l, HO.out, HNN.out, by omega, HS.out⟩, by omega, HD.out⟩
theorem l20Names_any (w : World) (g p : Nat) (h : RdAt w g p) (hp : p ≤ 1073000000) (m : Int) (h0 : 0 ≤ m) (hm : m ≤ 1000) :
    Calls Try.prog 72 #[.pointer (some ⟨g, 0, none⟩), .int .i64 m] w (DrawE (SomeStrs w.heap.size 7 9) 15 w g p) :=
  (l20Names_some w g p h hp m h0 hm).mono fun e w' ⟨v, q, he, ⟨l, h1, _, h2, h3⟩, hq, hD⟩ => ⟨v, q, he, ⟨l, h1, h2, h3⟩, hq, hD⟩
/-- Whether a text is the end of another one. -/
def endsB (s e : ByteArray) : Bool := (bytesS e).isSuffixOf (bytesS s)
theorem bytesS_size (s : ByteArray) : (bytesS s).length = s.size := by unfold bytesS; rw [Array.length_toList]; rfl
theorem bytesS_extract (s : ByteArray) (a b : Nat) : bytesS (s.extract a b) = ((bytesS s).take b).drop a := by
  unfold bytesS
  rw [ByteArray.data_extract, Array.toList_extract]
  simp [List.extract_eq_take_drop, List.drop_take]
theorem endsB_long {s e : ByteArray} (h : s.size < e.size) : endsB s e = false := by
  unfold endsB
  cases hh : (bytesS e).isSuffixOf (bytesS s) with
  | false => rfl
  | true =>
    have := (List.isSuffixOf_iff_suffix.1 hh).length_le
    rw [bytesS_size, bytesS_size] at this
    omega
theorem endsB_short {s e : ByteArray} (h : e.size ≤ s.size) : endsB s e = decide (bytesS (s.extract (s.size - e.size) s.size) = bytesS e) := by
  unfold endsB
  rw [bytesS_extract, ← bytesS_size s, List.take_length, Bool.eq_iff_iff, List.isSuffixOf_iff_suffix, decide_eq_true_iff, List.suffix_iff_eq_drop, bytesS_size e]
  exact eq_comm
set_option maxHeartbeats 400000 in
theorem l2Ends_any (s e : ByteArray) (hs : s.size ≤ 1073741824) (he : e.size ≤ 1073741824) (w : World) :
    Calls Try.prog 121 #[.string s, .string e] w fun x w' => x = .returned (.bool (endsB s e)) ∧ w = w' := by
  by_cases h : e.size ≤ s.size
  · have E := Lib.hid (endsB_short h)
    have h' : (e.size : Int) ≤ (s.size : Int) := by omega
    have hn : ((s.size : Int) - (e.size : Int)).toNat = s.size - e.size := by omega
    by_cases hq : bytesS (s.extract (s.size - e.size) s.size) = bytesS e
    · have q1 := str_eq hq
      have E2 : Hid (endsB s e = true) := by show _ = _; rw [E.out]; simpa using hq
      clear hq E
      go_enter Try.func121, Try.ntmps121
      go_wp2_with fail
      go_ret
      exact ⟨by rw [E2.out]; try rfl, rfl⟩
    · have q1 := str_ne hq
      have E2 : Hid (endsB s e = false) := by show _ = _; rw [E.out]; simpa using hq
      clear hq E
      go_enter Try.func121, Try.ntmps121
      go_wp2_with fail
      go_ret
      exact ⟨by rw [E2.out]; try rfl, rfl⟩
  · have E2 : Hid (endsB s e = false) := endsB_long (by omega)
    have h' : ¬ (e.size : Int) ≤ (s.size : Int) := by omega
    clear h
    go_enter Try.func121, Try.ntmps121
    go_wp2_with fail
    go_ret
    exact ⟨by rw [E2.out]; try rfl, rfl⟩
end Go.Proofs.Ythccjimckjecjaa
