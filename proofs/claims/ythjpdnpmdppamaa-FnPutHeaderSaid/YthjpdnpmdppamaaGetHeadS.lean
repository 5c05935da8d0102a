/- The reference's function that reads headers from bytes. -/
import Derived.Test.YthjpdnpmdppamaaGetHead
import Derived.BigQuiet
import Derived.Deep.QuietTactic
namespace Go.Proofs.Ythjpdnpmdppamaa
open Go.ChangeShapes Go.WideShapes Go.ChangeAt Go.RowKit Go.Joins
set_option linter.unusedSimpArgs false
set_option linter.unusedVariables false
set_option maxRecDepth 100000
set_option maxHeartbeats 1000000 in
theorem s_GetHeader_short (w : World) (v : Value) (l : List UInt8) (h : BytesAt w v l) (hl : l.length < 10) :
    Calls Try.prog 66 #[v] w fun e w' => e = .returned (.tuple #[headerV 0 0 0 0, .bool false]) ∧ Below w.heap.size w w' := by
  obtain ⟨a, cap, rfl, hcap, hmax, hnone, hcell⟩ := h.form
  clear h hnone hcell
  unfold maxLen at hmax
  have e1 : (l.length : Int) < 10 := by omega
  go_enter Try.func66, Try.ntmps66
  go_wp2_with fail
  refine bodyPost_ret (v := .tuple #[headerV 0 0 0 0, .bool false]) (by simp [results, Try.results66, go_sem]) rfl ⟨rfl, ((From.start w).alloc _).below⟩
set_option maxHeartbeats 1000000 in
theorem s_GetHeader (w : World) (v : Value) (l : List UInt8) (h : BytesAt w v l) (hl : 10 ≤ l.length) (x4 x5 x6 : UInt8) (g4 : l[4]? = some x4) (g5 : l[5]? = some x5) (g6 : l[6]? = some x6) (N : Int) (gN : getNum l 7 2 = N) :
    Calls Try.prog 66 #[v] w fun e w' => e = .returned (.tuple #[headOf (getHeadB l x4.toNat x5.toNat x6.toNat N) x4.toNat x5.toNat x6.toNat N, .bool (getHeadB l x4.toNat x5.toNat x6.toNat N)]) ∧ Below w.heap.size w w' := by
  obtain ⟨a, cap, rfl, hcap, hmax, hnone, hcell⟩ := h.form
  have e1 : ¬ (l.length : Int) < 10 := by omega
  obtain ⟨b, off, rfl, hc⟩ := hcell (by omega)
  have c4 := hc 4 (by omega)
  have c5 := hc 5 (by omega)
  have c6 := hc 6 (by omega)
  have hb : b < w.heap.size := World.block_lt_of_cell? w _ c4
  have H := Lib.hid h
  have H2 := Lib.hid hc
  have htake : ∀ u, From w.heap.size w u → BytesAt u (.slice (some ⟨b, off, none⟩) 10 cap) (l.take 10) := by
    intro u hu
    have hl10 : (l.take 10).length = 10 := by rw [List.length_take]; omega
    unfold BytesAt
    rw [hl10]
    refine ⟨by rw [bvs_length, hl10], _, cap, rfl, by omega, hmax, fun h => (by cases h), fun hn => ⟨b, off, rfl, fun j x hx => ?_⟩⟩
    have hj : j < 10 := by
      have := (List.getElem?_eq_some_iff.1 hx).1
      rw [bvs_length, hl10] at this; exact this
    have hcj := hc j (by omega)
    have hbj : b < w.heap.size := World.block_lt_of_cell? w _ hcj
    rw [(hu.below.cell (p := ⟨b, off + j, none⟩) hbj).trans hcj]
    simp only [bvs, List.getElem?_map, List.getElem?_take, hj, if_true, List.getElem?_eq_getElem (show j < l.length by omega), Option.map_some] at hx
    exact hx
  have hcap10 : (10 : Int) ≤ (cap : Int) := by omega
  clear hc hcell hnone h
  rw [List.getElem?_eq_getElem (by omega)] at g4 g5 g6
  simp only [Option.some.injEq] at g4 g5 g6
  rw [g4] at c4
  rw [g5] at c5
  rw [g6] at c6
  clear g4 g5 g6
  have hnum : ∀ wx, From w.heap.size w wx → Calls Try.prog 38 #[.slice (some ⟨b, off, none⟩) l.length cap, .int .i64 7, .int .i64 2] wx fun e w' => e = .returned (.int .i64 N) ∧ wx = w' := by
    intro wx hx; rw [← gN]; exact s_GetNumber wx _ l (H.out.below (Nat.le_refl _) hx.below) 7 2
  clear gN
  unfold maxLen at hmax
  have v4 : IntKind.i64.wrap (x4.toNat : Int) = (x4.toNat : Int) := IntWalk.i64_in _ (by have := u8_lt x4; omega)
  have v5 : IntKind.i64.wrap (x5.toNat : Int) = (x5.toNat : Int) := IntWalk.i64_in _ (by have := u8_lt x5; omega)
  have v6 : IntKind.i64.wrap (x6.toNat : Int) = (x6.toNat : Int) := IntWalk.i64_in _ (by have := u8_lt x6; omega)
  have i1 : (4 : Int) < (l.length : Int) := by omega
  have i2 : (5 : Int) < (l.length : Int) := by omega
  have i3 : (6 : Int) < (l.length : Int) := by omega
  have keepS : ∀ u, From w.heap.size w u → u.cell? ⟨b, off + 4, none⟩ = some (.int .u8 (x4.toNat : Int)) ∧ u.cell? ⟨b, off + 5, none⟩ = some (.int .u8 (x5.toNat : Int)) ∧ u.cell? ⟨b, off + 6, none⟩ = some (.int .u8 (x6.toNat : Int)) ∧ From w.heap.size w u :=
    fun u hu => ⟨(hu.below.cell (p := ⟨b, off + 4, none⟩) hb).trans c4, (hu.below.cell (p := ⟨b, off + 5, none⟩) hb).trans c5, (hu.below.cell (p := ⟨b, off + 6, none⟩) hb).trans c6, hu⟩
  go_enter Try.func66, Try.ntmps66
  go_wp2_with fail
  have first := keepS _ ((From.start w).alloc (.cells #[.int .i64 0, .int .i64 0, .int .i64 0, .int .i64 0] 28))
  go_region_held3 (fun u => u.cell? ⟨b, off + 4, none⟩ = some (.int .u8 (x4.toNat : Int)) ∧ u.cell? ⟨b, off + 5, none⟩ = some (.int .u8 (x5.toNat : Int)) ∧ u.cell? ⟨b, off + 6, none⟩ = some (.int .u8 (x6.toNat : Int)) ∧ From w.heap.size w u)
    (first | assumption | exact keepS _ (by repeat' first | exact From.start w | refine From.drew ?_ | refine From.alloc ?_ _))
    (first | (go_at_call 38; refine (hnum _ (‹_ ∧ _ ∧ _ ∧ From _ _ _›).2.2.2).mono ?_; rintro e w6 ⟨rfl, rfl⟩))
  all_goals
    have HF := Lib.hid (From.drew (((From.start w).alloc (.cells #[.int .i64 0, .int .i64 0, .int .i64 0, .int .i64 0] 28)).alloc (.cells #[.int .i64 (x4.toNat : Int), .int .i64 (x5.toNat : Int), .int .i64 (x6.toNat : Int), .int .i64 N] 28)))
    have HB := Lib.hid ((Blk.newAt (w.alloc (.cells #[.int .i64 0, .int .i64 0, .int .i64 0, .int .i64 0] 28)) #[.int .i64 (x4.toNat : Int), .int .i64 (x5.toNat : Int), .int .i64 (x6.toNat : Int), .int .i64 N] 28 (w.heap.size + 1) (by simp)).call (Below.drew (Below.refl _ _)))
    have HB0 := Lib.hid (((Blk.newAt w #[.int .i64 0, .int .i64 0, .int .i64 0, .int .i64 0] 28 w.heap.size rfl).alloc (.cells #[.int .i64 (x4.toNat : Int), .int .i64 (x5.toNat : Int), .int .i64 (x6.toNat : Int), .int .i64 N] 28)).call (Below.drew (Below.refl _ _)))
    clear keepS first hnum
    generalize World.drew _ = W at *
    have hpl := putHead_length (x4.toNat : Int) x5.toNat x6.toNat N
    have hPH : ∃ PH, putHead (x4.toNat : Int) x5.toNat x6.toNat N = PH := ⟨_, rfl⟩
    obtain ⟨PH, hPH⟩ := hPH
    rw [hPH] at hpl
    have HPH := Lib.hid hPH
    have HG : ∀ B : Bool, eqB PH (l.take 10) = B → (B = true → PH ≠ []) → getHeadB l x4.toNat x5.toNat x6.toNat N = B := by
      intro B hB hne
      unfold getHeadB
      rw [hPH, hB]
      cases B with
      | false => simp
      | true =>
        have : headerB (x4.toNat : Int) x5.toNat x6.toNat N = true := by
          cases hh : headerB (x4.toNat : Int) x5.toNat x6.toNat N with
          | true => rfl
          | false => exact absurd (by rw [← hPH]; unfold putHead; rw [hh]; rfl) (hne rfl)
        rw [this]; rfl
    have HGH := Lib.hid HG
    have hget : ∀ j (hj : j < l.length), w.cell? ⟨b, off + j, none⟩ = some (.int .u8 (l[j].toNat : Int)) := H2.out
    have HC := Lib.hid hget
    have hlB := HB.out.cell
    clear hPH HG hget c4 c5 c6 v4 v5 v6
    go_wp2_with fail
    refine (s_PutHeader W _ _ _ _).mono ?_
    rw [HPH.out]
    rintro e w2 ⟨r, rfl, o2, h2⟩
    obtain ⟨ra, rc, rfl⟩ := owns_form o2
    have HO2 := Lib.hid o2.reads
    have HF2 := Lib.hid (HF.out.call h2)
    have HB2 := Lib.hid (HB.out.call h2)
    have HB02 := Lib.hid (HB0.out.call h2)
    clear h2 o2 HF HB HB0 hlB
    go_wp2_with fail
    go_loopw [6] (fun i wr => ∃ k : Nat, k ≤ 10 ∧ i = .int .i64 k ∧ (∃ d, wr = w2.drewN d) ∧ Hid (∀ j, j < k → ∃ c, PH[j]? = some c ∧ l[j]? = some c)) (fun i _ => 10 - (intOf i).toNat)
    case atStart => exact ⟨0, Nat.zero_le _, rfl, ⟨0, rfl⟩, fun j h => absurd h (Nat.not_lt_zero _)⟩
    case round =>
      obtain ⟨k, hk, rfl, ⟨d, rfl⟩, hall⟩ := hrel
      have b0 := HB02.out.drewN d
      have b1 := HB2.out.drewN d
      by_cases hlt : k < 10
      · by_cases hp : k < PH.length
        · obtain ⟨a', cap', hv', q1, q2, q3, q4⟩ := HO2.out.form
          simp only [Value.slice.injEq] at hv'
          obtain ⟨rfl, _, rfl⟩ := hv'
          obtain ⟨pb, po, rfl, hcp⟩ := q4 (by omega)
          have g1 := hcp k hp
          have g2 : w2.cell? ⟨b, off + k, none⟩ = some (.int .u8 (l[k].toNat : Int)) := (HF2.out.below.cell (p := ⟨b, off + k, none⟩) hb).trans (HC.out k (by omega))
          have d0 : decide ((PH.length : Int) ≤ (k : Int)) = false := by rw [decide_eq_false_iff_not]; omega
          have d1 : ¬ (PH.length : Int) ≤ (k : Int) := by omega
          have i1' : (k : Int) < (PH.length : Int) := by omega
          have i2' : (k : Int) < (l.length : Int) := by omega
          have i3' : (0 : Int) ≤ (k : Int) := by omega
          have i4' : (k : Int) < 10 := by omega
          clear hcp q4 q3
          unfold maxLen at q2
          by_cases he : PH[k] = l[k]
          · have hbe := u8_eq he
            have HE := Lib.hid he
            clear he b0 b1
            go_wp2_with fail
            go_quiet (fail)
            go_wp2_with fail
            go_roundw
            case rel =>
              refine ⟨k + 1, by omega, by go_num, ⟨_, rfl⟩, fun j hj => ?_⟩
              rcases Nat.lt_succ_iff_lt_or_eq.1 hj with h | rfl
              · exact hall.out j h
              · exact ⟨_, List.getElem?_eq_getElem hp, by rw [List.getElem?_eq_getElem (by omega), HE.out]⟩
            case measure => simp [intOf]; omega
          · have hbe := u8_ne he
            have EG : Hid (getHeadB l x4.toNat x5.toNat x6.toNat N = false) := HGH.out false (by
              unfold eqB; rw [decide_eq_false_iff_not]; intro e
              apply he
              have h1 : PH[k]? = (l.take 10)[k]? := by rw [← e]
              rw [List.getElem?_take, if_pos hlt, List.getElem?_eq_getElem hp, List.getElem?_eq_getElem (by omega)] at h1
              simpa using h1) (fun h => by cases h)
            clear he
            go_wp2_with fail
            go_quiet (fail)
            have c0 := HB02.out.cell
            have f0 := HB02.out.frozen
            have z0 := HB02.out.lt
            go_wp2_with fail
            refine bodyPost_ret (v := .tuple #[headerV 0 0 0 0, .bool false]) (by simp [results, Try.results66, go_sem, c0, z0]) rfl ⟨by rw [EG.out]; rfl, ?_⟩
            first
              | exact (((((HF2.out.drewN _).drewN _).setCell (Nat.le_refl _) _).setCell (Nat.le_refl _) _).setCell (Nat.le_refl _) _).setCell (Nat.le_refl _) _ |>.below
              | exact (((((HF2.out.drewN _).setCell (Nat.le_refl _) _).setCell (Nat.le_refl _) _).setCell (Nat.le_refl _) _).setCell (Nat.le_refl _) _).below
        · have d0 : decide ((PH.length : Int) ≤ (k : Int)) = true := by rw [decide_eq_true_iff]; omega
          have d1 : (PH.length : Int) ≤ (k : Int) := by omega
          have i4' : (k : Int) < 10 := by omega
          have EG : Hid (getHeadB l x4.toNat x5.toNat x6.toNat N = false) := HGH.out false (eqB_len (by rw [List.length_take]; omega)) (fun h => by cases h)
          clear b0 b1
          go_wp2_with fail
          go_quiet (fail)
          have c0 := HB02.out.cell
          have f0 := HB02.out.frozen
          have z0 := HB02.out.lt
          go_wp2_with fail
          refine bodyPost_ret (v := .tuple #[headerV 0 0 0 0, .bool false]) (by simp [results, Try.results66, go_sem, c0, z0]) rfl ⟨by rw [EG.out]; rfl, ?_⟩
          first
            | exact (((((HF2.out.drewN _).drewN _).setCell (Nat.le_refl _) _).setCell (Nat.le_refl _) _).setCell (Nat.le_refl _) _).setCell (Nat.le_refl _) _ |>.below
            | exact (((((HF2.out.drewN _).setCell (Nat.le_refl _) _).setCell (Nat.le_refl _) _).setCell (Nat.le_refl _) _).setCell (Nat.le_refl _) _).below
      · obtain rfl : k = 10 := by omega
        have EG : Hid (getHeadB l x4.toNat x5.toNat x6.toNat N = true) := by
          have h9 := hall.out 9 (by omega)
          obtain ⟨c, h9, _⟩ := h9
          have h10 : 9 < PH.length := (List.getElem?_eq_some_iff.1 h9).1
          refine HGH.out true ?_ (fun _ e => by rw [e] at h10; simp at h10)
          refine eqB_all (by rw [List.length_take]; omega) fun j h1 h2 => ?_
          obtain ⟨c, g1, g2⟩ := hall.out j (by omega)
          rw [List.getElem?_eq_getElem h1] at g1
          rw [List.getElem?_eq_getElem (by rw [List.length_take] at h2; omega)] at g2
          simp only [Option.some.injEq] at g1 g2
          rw [List.getElem_take, g1, g2]
        clear b0 b1
        have c0 := HB02.out.cell
        have c1 := HB2.out.cell
        have f0 := HB02.out.frozen
        have z0 := HB02.out.lt
        go_wp2_with fail
        refine bodyPost_ret (v := .tuple #[headerV x4.toNat x5.toNat x6.toNat N, .bool true]) (by simp [results, Try.results66, go_sem, c0, z0]) rfl ⟨by rw [EG.out]; rfl, ?_⟩
        exact (((((HF2.out.drewN _).setCell (Nat.le_refl _) _).setCell (Nat.le_refl _) _).setCell (Nat.le_refl _) _).setCell (Nat.le_refl _) _).below
end Go.Proofs.Ythjpdnpmdppamaa
