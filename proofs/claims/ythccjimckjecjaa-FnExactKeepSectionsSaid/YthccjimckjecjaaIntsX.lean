/- Slices of numbers that a law is handed and copies. -/
import Derived.Test.YthccjimckjecjaaInts
import Derived.Test.YthccjimckjecjaaMarkS
namespace Go.Proofs.Ythccjimckjecjaa
open Go.ChangeShapes Go.WideShapes Go.ChangeAt Go.RowKit Go.Joins
set_option linter.unusedSimpArgs false
set_option linter.unusedVariables false
set_option maxRecDepth 100000
/-- An argument that is a slice of numbers. -/
theorem open_intsAt {H : Type} {enc : TypeId × Value → H} {W : World} {base : Nat} {v : Value} {d : DataW H} {p : List MemPlace}
    (hval : Value.okWide Try.prog W .any base 52 v) (h : DataW.Trod enc Try.prog W 0 (fun _ => true) true 52 v d p) : ∃ l : List Int, IntsAt W v l := by
  obtain ⟨a1, len, cap, rfl⟩ := okWide_slice Try.underlying52 hval
  obtain ⟨fuel, hf⟩ := h
  rcases open_ints Try.underlying52 Try.underlying3 (by kernel_rfl) hf with ⟨hcs, hx⟩ | ⟨a, len', cap', zs, hcs, _, hl, hm, hz, hx, hcell, hwz⟩
  · simp [Value.cells] at hcs
    obtain ⟨rfl, rfl, rfl⟩ := hcs
    exact ⟨[], Reads.nil _ _⟩
  · simp [Value.cells] at hcs
    obtain ⟨rfl, rfl, rfl⟩ := hcs
    simp only [if_true] at hz
    have hlen : (zs.take len).length = len := by rw [List.length_take]; omega
    refine ⟨zs.take len, ?_⟩
    unfold IntsAt
    rw [hlen]
    refine ⟨by rw [ivs_length, hlen]; simp, some a, cap, rfl, hl, hm, fun h => (by cases h), fun hn => ?_⟩
    obtain ⟨ab, ao, spot⟩ := a
    have hspot : spot = none := by simpa [Addr.add] using World.cell?_spot (hcell 0 (by omega))
    subst hspot
    refine ⟨ab, ao, rfl, fun j u hu => ?_⟩
    have hj : j < len := by
      have := (List.getElem?_eq_some_iff.1 hu).1
      rw [ivs_length, hlen] at this; exact this
    have hcj := hcell j (by omega)
    rw [Addr.add_lit] at hcj
    rw [hcj]
    have e : zs.getD j 0 = zs[j]'(by omega) := by simp [List.getD, List.getElem?_eq_getElem (show j < zs.length by omega)]
    have hu' : u = .int .i64 (zs[j]'(by omega)) := by
      simp only [ivs, List.getElem?_map, List.getElem?_take, hj, if_true, List.getElem?_eq_getElem (show j < zs.length by omega), Option.map_some, Option.some.injEq] at hu
      exact hu.symm
    rw [hu', ← e]
/-- What a function ends in that hands back numbers of its own. -/
def RetI (w : World) (l : List Int) (e : Ending) (w' : World) : Prop := ∃ r, e = .returned r ∧ OwnI w' w.heap.size r l ∧ Below w.heap.size w w'
theorem set_fillI (l : List Int) (k : Nat) (hk : k < l.length) :
    (ivs (l.take k) ++ List.replicate (l.length - k) (Value.int .i64 0)).set k (.int .i64 l[k]) = ivs (l.take (k + 1)) ++ List.replicate (l.length - (k + 1)) (Value.int .i64 0) := by
  have hl : (ivs (l.take k)).length = k := by rw [ivs_length, List.length_take]; omega
  rw [List.set_append, if_neg (by omega), hl, Nat.sub_self, List.take_succ_eq_append_getElem hk, ivs_append, List.append_assoc]
  congr 1
  rw [show l.length - k = (l.length - (k + 1)) + 1 by omega, List.replicate_succ]
  rfl
set_option maxHeartbeats 1000000 in
theorem toIntS_any (w : World) (v : Value) (l : List Int) (h : IntsAt w v l) (hl : l.length ≤ 1073741824) :
    Calls Try.prog 53 #[v] w (RetI w l) := by
  obtain ⟨a, cap, rfl, hcap, hmax, hnone, hcell⟩ := h.form
  obtain ⟨i0, hi, hz0, hz1, hz2⟩ := info_parts info_int
  have HH := Lib.hid hcell
  clear h hcell hnone
  go_enter Try.func53, Try.ntmps53
  go_wp2_with (at_make; refine wpList_make_full _ rfl _ _ 52 rfl w.heap.size 3 i0 (.int .i64 0) 1 Try.underlying52 hi hz0 hz1 _ _ _ _ l.length rfl rfl rfl rfl ?c1 ?c2 ?c3 ?_)
  case c1 => rw [hz2]; omega
  case c2 => unfold maxLen; omega
  case c3 => exact Nat.le_refl _
  intro w1 hown hgr
  have F1 := (From.start w).grown hgr (fun k h => by cases h)
  clear hgr
  go_wp2_with fail
  go_loopw [4] (fun i wr => ∃ k : Nat, k ≤ l.length ∧ i = .int .i64 k ∧
      wr.ownsRow w.heap.size 3 1 (.slice (some ⟨w.heap.size, 0, none⟩) l.length l.length) l.length (ivs (l.take k) ++ List.replicate (l.length - k) (Value.int .i64 0)) ∧ From w.heap.size w wr) (fun i _ => l.length - (intOf i).toNat)
  case atStart => exact ⟨0, Nat.zero_le _, rfl, by simpa [toList_madeCells_one, ivs] using hown, F1⟩
  case round =>
    obtain ⟨k, hk, rfl, hown, F⟩ := hrel
    by_cases hlt : k < l.length
    · obtain ⟨b, off, rfl, hc⟩ := HH.out (by omega)
      have hsrc := hc k hlt
      have hb : b < w.heap.size := World.block_lt_of_cell? w _ hsrc
      have hsrc' : wr.cell? ⟨b, off + k, none⟩ = some (.int .i64 l[k]) := by rw [F.below.cell (p := ⟨b, off + k, none⟩) hb]; exact hsrc
      have hd := hown.cellAt k (by omega)
      have hf := hown.frozenAt k
      have hd' : ∃ u, wr.cell? ⟨w.heap.size, k, none⟩ = some u := ⟨_, hd.trans (List.getElem?_eq_getElem (by rw [hown.1]; omega))⟩
      obtain ⟨u0, hd'⟩ := hd'
      have HO := Lib.hid hown
      have HF := Lib.hid F
      have HE := Lib.hid (set_fillI l k hlt)
      clear hsrc hc hd hown F
      generalize l[k] = x at *
      go_wp2_with fail
      go_roundw
      case rel =>
        refine ⟨k + 1, by omega, by go_num, ?_, HF.out.setCell (Nat.le_refl _) _⟩
        rw [← HE.out]
        exact (HO.out.stored k _).1
      case measure => simp [intOf]; omega
    · obtain rfl : k = l.length := by omega
      go_wp2_with fail
      go_ret
      refine ⟨_, rfl, ?_, F.below⟩
      simpa [OwnI] using hown
set_option maxHeartbeats 1000000 in
theorem markIntS_grown (w : World) (base : Nat) (v : Value) (l : List Int) (h : OwnI w base v l) (k : Nat) (hk : k ≤ 1073741824) (hl : l.length ≤ 1073741824) :
    Calls Try.prog 45 #[v, .int .i64 k] w fun e w' => e = .returned (.int .i64 ((k : Int) + (l.length : Int))) ∧ OwnI w' base v (marksI k l.length) ∧ w.grownBy w' v.ownBlock := by
  rcases Nat.eq_zero_or_pos l.length with h0 | hpos
  · obtain rfl : l = [] := List.eq_nil_of_length_eq_zero h0
    obtain ⟨a, cap, rfl⟩ := owns_form h
    have HO := Lib.hid h
    clear h
    go_enter Try.func45, Try.ntmps45
    go_wp2_with fail
    go_loop [1, 5] (fun q i => q = .int .i64 k ∧ i = .int .i64 0) (fun _ _ => 0)
    case atStart => exact ⟨rfl, rfl⟩
    case round =>
      obtain ⟨rfl, rfl⟩ := hrel
      go_wp2_with fail
      go_ret
      exact ⟨by simp, HO.out, ⟨rfl, rfl, rfl, Nat.le_refl _, fun _ _ _ => rfl⟩⟩
  · have hform : ∃ g cap, v = .slice (some ⟨g, 0, none⟩) l.length cap ∧ base ≤ g := by
      rcases h.2 with ⟨rfl, h2⟩ | ⟨g, cap, cur, hv, hb, _⟩
      · omega
      · exact ⟨g, cap, hv, hb⟩
    obtain ⟨g, cap, rfl, hg⟩ := hform
    have HO0 : Hid (w.ownsRow base 3 1 (.slice (some ⟨g, 0, none⟩) l.length cap) l.length (ivs (marksI k 0 ++ l.drop 0))) := Lib.hid (by simpa [marksI, OwnI] using h)
    clear h
    go_enter Try.func45, Try.ntmps45
    go_wp2_with fail
    go_loopw [1, 5] (fun q i wr => ∃ j : Nat, j ≤ l.length ∧ i = .int .i64 j ∧ q = .int .i64 ((k : Int) + (j : Int)) ∧
      Hid (wr.ownsRow base 3 1 (.slice (some ⟨g, 0, none⟩) l.length cap) l.length (ivs (marksI k j ++ l.drop j))) ∧ Hid (w.grownBy wr (some g))) (fun _ i _ => l.length - (intOf i).toNat)
    case atStart => exact ⟨0, Nat.zero_le _, rfl, by simp, HO0, ⟨rfl, rfl, rfl, Nat.le_refl _, fun _ _ _ => rfl⟩⟩
    case round =>
      obtain ⟨j, hj, rfl, rfl, HO, HG⟩ := hrel
      by_cases hlt : j < l.length
      · have hd := HO.out.cellAt j (by omega)
        have hf := HO.out.frozenAt j
        have hd' : ∃ u, wr.cell? ⟨g, j, none⟩ = some u := ⟨_, hd.trans (List.getElem?_eq_getElem (by rw [HO.out.1]; omega))⟩
        obtain ⟨u0, hd'⟩ := hd'
        clear hd
        go_wp2_with fail
        go_roundw
        case rel =>
          refine ⟨j + 1, by omega, by go_num, by go_num, ?_, HG.out.trans ⟨rfl, rfl, rfl, by simp [World.setCell], fun i _ hi => Below.heap_setCell wr _ _ i (fun e => hi (by rw [e]))⟩⟩
          show World.ownsRow _ _ _ _ _ _ _
          rw [← marksI_step k l j hlt]
          exact (HO.out.stored j _).1
        case measure => simp [intOf]; try omega
      · obtain rfl : j = l.length := by omega
        go_wp2_with fail
        go_ret
        refine ⟨rfl, ?_, HG.out⟩
        have := HO.out
        rw [List.drop_length, List.append_nil] at this
        unfold OwnI
        rw [marksI_length]
        exact this
end Go.Proofs.Ythccjimckjecjaa
