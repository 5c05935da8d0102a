/- Slices of bytes: copied, compared, marked. -/
import Derived.Test.YthccjimckjecjaaBase
import Derived.BigQuiet
import Derived.Deep.QuietTactic
namespace Go.Proofs.Ythccjimckjecjaa
open Go.ChangeShapes Go.WideShapes Go.ChangeAt Go.RowKit Go.Joins
set_option linter.unusedSimpArgs false
set_option linter.unusedVariables false
set_option maxRecDepth 100000

/-- What a function ends in that hands back bytes of its own. -/
def RetB (w : World) (l : List UInt8) (e : Ending) (w' : World) : Prop := ∃ r, e = .returned r ∧ OwnB w' w.heap.size r l ∧ Below w.heap.size w w'

theorem set_fill (l : List UInt8) (k : Nat) (hk : k < l.length) :
    (bvs (l.take k) ++ List.replicate (l.length - k) (Value.int .u8 0)).set k (.int .u8 (l[k].toNat : Int)) = bvs (l.take (k + 1)) ++ List.replicate (l.length - (k + 1)) (Value.int .u8 0) := by
  have hl : (bvs (l.take k)).length = k := by rw [bvs_length, List.length_take]; omega
  rw [List.set_append, if_neg (by omega), hl, Nat.sub_self, List.take_succ_eq_append_getElem hk, bvs_append, List.append_assoc]
  congr 1
  rw [show l.length - k = (l.length - (k + 1)) + 1 by omega, List.replicate_succ]
  rfl

set_option maxHeartbeats 1000000 in
theorem toByteS_any (w : World) (v : Value) (l : List UInt8) (h : BytesAt w v l) (hl : l.length ≤ 1073741824) :
    Calls Try.prog 166 #[v] w (RetB w l) := by
  obtain ⟨a, cap, rfl, hcap, hmax, hnone, hcell⟩ := h.form
  obtain ⟨i0, hi, hz0, hz1, hz2⟩ := info_parts info_u8
  have HH := Lib.hid hcell
  clear h hcell hnone
  go_enter Try.func166, Try.ntmps166
  go_wp2_with (at_make; refine wpList_make_full _ rfl _ _ 22 rfl w.heap.size 5 i0 (.int .u8 0) 1 Try.underlying22 hi hz0 hz1 _ _ _ _ l.length rfl rfl rfl rfl ?c1 ?c2 ?c3 ?_)
  case c1 => rw [hz2]; omega
  case c2 => unfold maxLen; omega
  case c3 => exact Nat.le_refl _
  intro w1 hown hgr
  have F1 := (From.start w).grown hgr (fun k h => by cases h)
  clear hgr
  have hsz : w.heap.size = w.heap.size := rfl
  go_wp2_with fail
  go_loopw [4] (fun i wr => ∃ k : Nat, k ≤ l.length ∧ i = .int .i64 k ∧
      wr.ownsRow w.heap.size 5 1 (.slice (some ⟨w.heap.size, 0, none⟩) l.length l.length) l.length (bvs (l.take k) ++ List.replicate (l.length - k) (Value.int .u8 0)) ∧ From w.heap.size w wr) (fun i _ => l.length - (intOf i).toNat)
  case atStart => exact ⟨0, Nat.zero_le _, rfl, by simpa [toList_madeCells_one, bvs] using hown, F1⟩
  case round =>
    obtain ⟨k, hk, rfl, hown, F⟩ := hrel
    by_cases hlt : k < l.length
    · obtain ⟨b, off, rfl, hc⟩ := HH.out (by omega)
      have hsrc := hc k hlt
      have hb : b < w.heap.size := World.block_lt_of_cell? w _ hsrc
      have hsrc' : wr.cell? ⟨b, off + k, none⟩ = some (.int .u8 (l[k].toNat : Int)) := by rw [F.below.cell (p := ⟨b, off + k, none⟩) hb]; exact hsrc
      have hd := hown.cellAt k (by omega)
      have hf := hown.frozenAt k
      have hd' : ∃ u, wr.cell? ⟨w.heap.size, k, none⟩ = some u := ⟨_, hd.trans (List.getElem?_eq_getElem (by rw [hown.1]; omega))⟩
      obtain ⟨u0, hd'⟩ := hd'
      have HO := Lib.hid hown
      have HF := Lib.hid F
      clear hsrc hc hd hown F
      go_wp2_with fail
      go_roundw
      case rel =>
        refine ⟨k + 1, by omega, by go_num, ?_, HF.out.setCell (Nat.le_refl _) _⟩
        rw [← set_fill l k hlt]
        exact (HO.out.stored k _).1
      case measure => simp [intOf]; omega
    · obtain rfl : k = l.length := by omega
      go_wp2_with fail
      go_ret
      refine ⟨_, rfl, ?_, F.below⟩
      simpa [OwnB] using hown

/-- Whether bytes are equal. -/
def eqB (a b : List UInt8) : Bool := decide (a = b)
theorem eqB_self (a : List UInt8) : eqB a a = true := by simp [eqB]
theorem eqB_len {a b : List UInt8} (h : a.length ≠ b.length) : eqB a b = false := by
  unfold eqB; rw [decide_eq_false_iff_not]; intro e; rw [e] at h; exact h rfl
theorem eqB_bad {a b : List UInt8} {k : Nat} (ha : k < a.length) (hb : k < b.length) (h : a[k] ≠ b[k]) : eqB a b = false := by
  unfold eqB; rw [decide_eq_false_iff_not]; intro e; subst e; exact h rfl
theorem eqB_all {a b : List UInt8} (hl : a.length = b.length) (h : ∀ j, (h1 : j < a.length) → (h2 : j < b.length) → a[j] = b[j]) : eqB a b = true := by
  unfold eqB; rw [decide_eq_true_eq]
  exact List.ext_getElem hl h
theorem u8_ne {a b : UInt8} (h : a ≠ b) : ((a.toNat : Int) != (b.toNat : Int)) = true := by
  rw [bne_iff_ne]; intro e; exact h (UInt8.toNat_inj.1 (by omega))
theorem u8_eq {a b : UInt8} (h : a = b) : ((a.toNat : Int) != (b.toNat : Int)) = false := by subst h; simp
theorem ret_bool' {a b : Bool} (h : a = b) : Ending.returned (.bool a) = .returned (.bool b) := by rw [h]

set_option maxHeartbeats 1000000 in
theorem l_eqByteS (w : World) (v1 v2 : Value) (l1 l2 : List UInt8) (h1 : BytesAt w v1 l1) (h2 : BytesAt w v2 l2) :
    Calls Try.prog 168 #[v1, v2] w fun e w' => e = .returned (.bool (eqB l1 l2)) ∧ Below w.heap.size w w' := by
  obtain ⟨a1, cap1, rfl, hcap1, hmax1, hnone1, hcell1⟩ := h1.form
  obtain ⟨a2, cap2, rfl, hcap2, hmax2, hnone2, hcell2⟩ := h2.form
  have H1 := Lib.hid hcell1
  have H2 := Lib.hid hcell2
  clear h1 h2 hcell1 hcell2 hnone1 hnone2
  unfold maxLen at hmax1 hmax2
  by_cases hlen : l1.length = l2.length
  · have hb : ((l1.length : Int) != (l2.length : Int)) = false := by rw [hlen]; simp
    have HL := Lib.hid hlen
    clear hlen
    go_enter Try.func168, Try.ntmps168
    go_wp2_with fail
    go_loopw [5] (fun i wr => ∃ k : Nat, k ≤ l1.length ∧ i = .int .i64 k ∧ (∃ d, wr = w.drewN d) ∧ Hid (∀ j, (h1 : j < l1.length) → (h2 : j < l2.length) → j < k → l1[j] = l2[j])) (fun i _ => l1.length - (intOf i).toNat)
    case atStart => exact ⟨0, Nat.zero_le _, rfl, ⟨0, rfl⟩, fun j _ _ h => absurd h (Nat.not_lt_zero _)⟩
    case round =>
      obtain ⟨k, hk, rfl, ⟨d, rfl⟩, hall⟩ := hrel
      by_cases hlt : k < l1.length
      · have hlt2 : k < l2.length := by rw [← HL.out]; exact hlt
        obtain ⟨b1, off1, rfl, hc1⟩ := H1.out (by omega)
        obtain ⟨b2, off2, rfl, hc2⟩ := H2.out (by omega)
        have g1 := hc1 k hlt
        have g2 := hc2 k hlt2
        have i1 : (k : Int) < (l1.length : Int) := by omega
        have i2 : (k : Int) < (l2.length : Int) := by omega
        have i3 : (0 : Int) ≤ (k : Int) := by omega
        clear hc1 hc2
        by_cases he : l1[k] = l2[k]
        · have hbe := u8_eq he
          have HE := Lib.hid he
          clear he
          go_wp2_with fail
          go_quiet (fail)
          go_wp2_with fail
          go_roundw
          case rel =>
            refine ⟨k + 1, by omega, by go_num, ⟨_, rfl⟩, fun j h1 h2 hj => ?_⟩
            rcases Nat.lt_succ_iff_lt_or_eq.1 hj with h | rfl
            · exact hall.out j h1 h2 h
            · exact HE.out
          case measure => simp [intOf]; omega
        · have hbe := u8_ne he
          have HE := Lib.hid he
          clear he
          go_wp2_with fail
          go_quiet (fail)
          go_wp2_with fail
          go_ret
          exact ⟨ret_bool' (eqB_bad hlt hlt2 HE.out).symm, (((From.start w).drewN _).drewN _).below⟩
      · have E : Hid (eqB l1 l2 = true) := eqB_all HL.out fun j h1 h2 => hall.out j h1 h2 (by omega)
        go_wp2_with fail
        go_ret
        exact ⟨by rw [E.out]; rfl, ((From.start w).drewN _).below⟩
  · have hb : ((l1.length : Int) != (l2.length : Int)) = true := by rw [bne_iff_ne]; omega
    have E : Hid (eqB l1 l2 = false) := eqB_len hlen
    clear hlen
    go_enter Try.func168, Try.ntmps168
    go_wp2_with fail
    go_ret
    exact ⟨by rw [E.out]; rfl, Below.refl _ _⟩
set_option maxHeartbeats 1000000 in
theorem l_sameBytes (w : World) (v1 v2 : Value) (l1 l2 : List UInt8) (h1 : BytesAt w v1 l1) (h2 : BytesAt w v2 l2) :
    Calls Try.prog 48 #[v1, v2] w fun e w' => e = .returned (.bool (eqB l1 l2)) ∧ Below w.heap.size w w' := by
  obtain ⟨a1, cap1, rfl, hcap1, hmax1, hnone1, hcell1⟩ := h1.form
  obtain ⟨a2, cap2, rfl, hcap2, hmax2, hnone2, hcell2⟩ := h2.form
  have H1 := Lib.hid hcell1
  have H2 := Lib.hid hcell2
  clear h1 h2 hcell1 hcell2 hnone1 hnone2
  unfold maxLen at hmax1 hmax2
  by_cases hlen : l1.length = l2.length
  · have hb : ((l1.length : Int) != (l2.length : Int)) = false := by rw [hlen]; simp
    have HL := Lib.hid hlen
    clear hlen
    go_enter Try.func48, Try.ntmps48
    go_wp2_with fail
    go_loopw [5] (fun i wr => ∃ k : Nat, k ≤ l1.length ∧ i = .int .i64 k ∧ (∃ d, wr = w.drewN d) ∧ Hid (∀ j, (h1 : j < l1.length) → (h2 : j < l2.length) → j < k → l1[j] = l2[j])) (fun i _ => l1.length - (intOf i).toNat)
    case atStart => exact ⟨0, Nat.zero_le _, rfl, ⟨0, rfl⟩, fun j _ _ h => absurd h (Nat.not_lt_zero _)⟩
    case round =>
      obtain ⟨k, hk, rfl, ⟨d, rfl⟩, hall⟩ := hrel
      by_cases hlt : k < l1.length
      · have hlt2 : k < l2.length := by rw [← HL.out]; exact hlt
        obtain ⟨b1, off1, rfl, hc1⟩ := H1.out (by omega)
        obtain ⟨b2, off2, rfl, hc2⟩ := H2.out (by omega)
        have g1 := hc1 k hlt
        have g2 := hc2 k hlt2
        have i1 : (k : Int) < (l1.length : Int) := by omega
        have i2 : (k : Int) < (l2.length : Int) := by omega
        have i3 : (0 : Int) ≤ (k : Int) := by omega
        clear hc1 hc2
        by_cases he : l1[k] = l2[k]
        · have hbe := u8_eq he
          have HE := Lib.hid he
          clear he
          go_wp2_with fail
          go_quiet (fail)
          go_wp2_with fail
          go_roundw
          case rel =>
            refine ⟨k + 1, by omega, by go_num, ⟨_, rfl⟩, fun j h1 h2 hj => ?_⟩
            rcases Nat.lt_succ_iff_lt_or_eq.1 hj with h | rfl
            · exact hall.out j h1 h2 h
            · exact HE.out
          case measure => simp [intOf]; omega
        · have hbe := u8_ne he
          have HE := Lib.hid he
          clear he
          go_wp2_with fail
          go_quiet (fail)
          go_wp2_with fail
          go_ret
          exact ⟨ret_bool' (eqB_bad hlt hlt2 HE.out).symm, (((From.start w).drewN _).drewN _).below⟩
      · have E : Hid (eqB l1 l2 = true) := eqB_all HL.out fun j h1 h2 => hall.out j h1 h2 (by omega)
        go_wp2_with fail
        go_ret
        exact ⟨by rw [E.out]; rfl, ((From.start w).drewN _).below⟩
  · have hb : ((l1.length : Int) != (l2.length : Int)) = true := by rw [bne_iff_ne]; omega
    have E : Hid (eqB l1 l2 = false) := eqB_len hlen
    clear hlen
    go_enter Try.func48, Try.ntmps48
    go_wp2_with fail
    go_ret
    exact ⟨by rw [E.out]; rfl, Below.refl _ _⟩

/-- The number of bytes, the lowest first. -/
def leNum : List UInt8 → Int
  | [] => 0
  | c :: r => (c.toNat : Int) + 256 * leNum r
theorem leNum_nonneg : ∀ l : List UInt8, 0 ≤ leNum l
  | [] => Int.le_refl _
  | c :: r => by have := leNum_nonneg r; show 0 ≤ (c.toNat : Int) + 256 * leNum r; omega
theorem u8_lt (c : UInt8) : c.toNat < 256 := c.toNat_lt
theorem leNum_3 (l : List UInt8) (h : l.length ≤ 3) : leNum l ≤ 16777215 := by
  match l, h with
  | [], _ => decide
  | [a], _ => have := u8_lt a; simp only [leNum]; omega
  | [a, b], _ => have := u8_lt a; have := u8_lt b; simp only [leNum]; omega
  | [a, b, c], _ => have := u8_lt a; have := u8_lt b; have := u8_lt c; simp only [leNum]; omega
  | a :: b :: c :: d :: r, h => simp only [List.length_cons] at h; omega
theorem leNum_4 (l : List UInt8) (h : l.length ≤ 4) : leNum l ≤ 4294967295 := by
  match l, h with
  | [], _ => decide
  | a :: r, h => have := leNum_3 r (by simpa using h); have := u8_lt a; simp only [leNum]; omega
/-- The number of bytes from a place on, -1 if they are not there. -/
def getNum (l : List UInt8) (at' wide : Int) : Int := if withinB wide 1 4 && withinB at' 0 ((l.length : Int) - wide) then leNum ((l.drop at'.toNat).take wide.toNat) else -1
theorem getNum_range (l : List UInt8) (at' wide : Int) : -1 ≤ getNum l at' wide ∧ getNum l at' wide ≤ 4294967295 := by
  unfold getNum
  split
  · rename_i h
    simp only [Bool.and_eq_true] at h
    have h1 := (withinB_iff _ _ _).1 h.1
    have a := leNum_nonneg ((l.drop at'.toNat).take wide.toNat)
    have b := leNum_4 ((l.drop at'.toNat).take wide.toNat) (by rw [List.length_take]; omega)
    omega
  · omega
theorem leNum_step (l : List UInt8) (A W j : Nat) (hj : j < W) (hA : A + W ≤ l.length) :
    leNum ((l.drop (A + j)).take (W - j)) = (l[A + j].toNat : Int) + 256 * leNum ((l.drop (A + (j + 1))).take (W - (j + 1))) := by
  rw [List.drop_eq_getElem_cons (by omega), show W - j = (W - (j + 1)) + 1 by omega, List.take_succ_cons]
  rfl

set_option maxHeartbeats 1000000 in
theorem i_GetNumber_good (w : World) (v : Value) (l : List UInt8) (h : BytesAt w v l) (A W : Nat) (hw : withinB (W : Int) 1 4 = true) (hat : withinB (A : Int) 0 ((l.length : Int) - (W : Int)) = true) :
    Calls Try.prog 157 #[v, .int .i64 A, .int .i64 W] w fun e w' => e = .returned (.int .i64 (leNum ((l.drop A).take W))) ∧ w = w' := by
  obtain ⟨a, cap, rfl, hcap, hmax, hnone, hcell⟩ := h.form
  have hW := (withinB_iff _ _ _).1 hw
  have hA := (withinB_iff _ _ _).1 hat
  obtain ⟨hW1, hW2⟩ := hW
  obtain ⟨hA1, hA2⟩ := hA
  obtain ⟨b, off, rfl, hc⟩ := hcell (by omega)
  have n1 : ¬ ((A : Int) < 0) := by omega
  have n2 : ¬ ((l.length : Int) - (W : Int) < (A : Int)) := by omega
  unfold maxLen at hmax
  have HC := Lib.hid hc
  clear h hcell hnone hc
  go_enter Try.func157, Try.ntmps157
  go_wp2_with (first | (go_at_call 123; (with_reducible refine (within_any _ _ _ _).mono ?_); rintro e w' ⟨rfl, rfl⟩))
  go_loop [7, 8] (fun n i => ∃ (q m : Int), -1 ≤ q ∧ q < (W : Int) ∧ i = .int .i64 q ∧ n = .int .i64 m ∧ Hid (m = leNum ((l.drop (A + (q + 1).toNat)).take (W - (q + 1).toNat)))) (fun _ i => (intOf i + 1).toNat)
  case atStart => exact ⟨_, _, by omega, by omega, rfl, rfl, by
    show (0 : Int) = _
    rw [show ((W : Int) - 1 + 1).toNat = W by omega, Nat.sub_self]; rfl⟩
  case round =>
    obtain ⟨q, m, hq1, hq2, rfl, rfl, hm⟩ := hrel
    by_cases hlt : 0 ≤ q
    · obtain ⟨j, rfl⟩ := Int.eq_ofNat_of_zero_le hlt
      have hjW : j < W := by omega
      have g := HC.out (A + j) (by omega)
      have m0 : 0 ≤ m := by rw [hm.out]; exact leNum_nonneg _
      have m1 : m ≤ 16777215 := by rw [hm.out]; exact leNum_3 _ (by rw [List.length_take]; omega)
      have c0 := u8_lt l[A + j]
      have hs := leNum_step l A W j hjW (by omega)
      have HS := Lib.hid hs
      clear hs
      go_wp2_with fail
      go_round
      case rel =>
        refine ⟨_, _, by omega, by omega, rfl, rfl, ?_⟩
        show _ = _
        rw [show ((j : Int) - 1 + 1).toNat = j by omega, HS.out, hm.out, show ((j : Int) + 1).toNat = j + 1 by omega]
        omega
      case measure => simp [intOf]; try omega
    · obtain rfl : q = -1 := by omega
      have E : Hid (m = leNum ((l.drop A).take W)) := hm.out
      clear hm
      go_wp2_with fail
      go_ret
      exact ⟨by rw [← E.out]; rfl, rfl⟩

set_option maxHeartbeats 1000000 in
theorem i_GetNumber (w : World) (v : Value) (l : List UInt8) (h : BytesAt w v l) (at' wide : Int) :
    Calls Try.prog 157 #[v, .int .i64 at', .int .i64 wide] w fun e w' => e = .returned (.int .i64 (getNum l at' wide)) ∧ w = w' := by
  cases hw : withinB wide 1 4
  · obtain ⟨a, cap, rfl, hcap, hmax, hnone, hcell⟩ := h.form
    clear h hnone hcell
    have E : Hid (getNum l at' wide = -1) := by show _ = _; simp [getNum, hw]
    go_enter Try.func157, Try.ntmps157
    go_wp2_with (first | (go_at_call 123; (with_reducible refine (within_any _ _ _ _).mono ?_); rintro e w' ⟨rfl, rfl⟩))
    go_ret
    exact ⟨by rw [E.out]; rfl, rfl⟩
  cases hat : withinB at' 0 ((l.length : Int) - wide)
  · obtain ⟨a, cap, rfl, hcap, hmax, hnone, hcell⟩ := h.form
    clear h hnone hcell
    have E : Hid (getNum l at' wide = -1) := by show _ = _; simp [getNum, hat]
    have hW := (withinB_iff _ _ _).1 hw
    have hA := (withinB_not _ _ _).1 hat
    obtain ⟨hW1, hW2⟩ := hW
    unfold maxLen at hmax
    by_cases n1 : at' < 0
    · clear hA
      go_enter Try.func157, Try.ntmps157
      go_wp2_with (first | (go_at_call 123; (with_reducible refine (within_any _ _ _ _).mono ?_); rintro e w' ⟨rfl, rfl⟩))
      go_ret
      exact ⟨by rw [E.out]; rfl, rfl⟩
    · have n2 : (l.length : Int) - wide < at' := by omega
      clear hA
      go_enter Try.func157, Try.ntmps157
      go_wp2_with (first | (go_at_call 123; (with_reducible refine (within_any _ _ _ _).mono ?_); rintro e w' ⟨rfl, rfl⟩))
      go_ret
      exact ⟨by rw [E.out]; rfl, rfl⟩
  · have hW := (withinB_iff _ _ _).1 hw
    have hA := (withinB_iff _ _ _).1 hat
    obtain ⟨A, rfl⟩ := Int.eq_ofNat_of_zero_le hA.1
    obtain ⟨W, rfl⟩ := Int.eq_ofNat_of_zero_le (show 0 ≤ wide by omega)
    have E : getNum l A W = leNum ((l.drop A).take W) := by simp [getNum, hw, hat]
    rw [E]
    exact i_GetNumber_good w v l h A W hw hat

/-- The bytes of a number, the lowest first. -/
def leBytes : Nat → Nat → List UInt8
  | 0, _ => []
  | k + 1, n => UInt8.ofNat (n % 256) :: leBytes k (n / 256)
theorem leBytes_length : ∀ k n, (leBytes k n).length = k
  | 0, _ => rfl
  | k + 1, n => by simp [leBytes, leBytes_length k]
theorem leBytes_snoc : ∀ k n, leBytes (k + 1) n = leBytes k n ++ [UInt8.ofNat (n / 256 ^ k % 256)]
  | 0, n => by simp [leBytes]
  | k + 1, n => by
    rw [leBytes, leBytes_snoc k (n / 256)]
    show _ = UInt8.ofNat (n % 256) :: leBytes k (n / 256) ++ _
    rw [List.cons_append, Nat.div_div_eq_div_mul, show 256 ^ (k + 1) = 256 * 256 ^ k by rw [Nat.pow_succ, Nat.mul_comm]]
def putNum (n wide : Int) : List UInt8 := if numB n wide then leBytes wide.toNat n.toNat else []
theorem putNum_length (n wide : Int) : (putNum n wide).length ≤ 4 := by
  unfold putNum
  split
  · rename_i h
    rw [leBytes_length]
    unfold numB at h
    simp only [Bool.and_eq_true] at h
    have := (withinB_iff _ _ _).1 h.1
    omega
  · simp

theorem owns_snoc {w : World} {base : Nat} {v : Value} {l : List UInt8} {c : UInt8} {x : Int} (h : w.ownsRow base 5 1 v (l.length + 1) (bvs l ++ [Value.int .u8 x])) (hx : x = (c.toNat : Int)) : OwnB w base v (l ++ [c]) := by
  subst hx
  unfold OwnB
  rw [List.length_append, bvs_append]
  exact h

set_option maxHeartbeats 1000000 in
theorem i_PutNumber_1 (w : World) (N : Nat) (hN : withinB (N : Int) 0 255 = true) :
    Calls Try.prog 62 #[.int .i64 N, .int .i64 1] w (RetB w (leBytes 1 N)) := by
  have hW : withinB 1 1 4 = true := rfl
  have hN2 := ((withinB_iff _ _ _).1 hN).2
  obtain ⟨i0, hi, hz0, hz1, hz2⟩ := info_parts info_u8
  go_enter Try.func62, Try.ntmps62
  go_wp2_with (first | (go_at_call 123; (with_reducible refine (within_any _ _ _ _).mono ?_); rintro e w' ⟨rfl, rfl⟩))
  go_loopw [0, 5, 21] (fun n out i wr => ∃ (k m : Nat), k ≤ 1 ∧ i = .int .i64 k ∧ n = .int .i64 m ∧ Hid (m = N / 256 ^ k) ∧ OwnB wr w.heap.size out (leBytes k N) ∧ From w.heap.size w wr) (fun _ _ i _ => 1 - (intOf i).toNat)
  case atStart => exact ⟨0, N, by omega, rfl, rfl, by show N = _; simp, World.ownsRow_lit w #[] 0 (Nat.le_refl _) (Nat.zero_le _) rfl, (From.start w).alloc _⟩
  case round =>
    obtain ⟨k, m, hk, rfl, rfl, hm, hown, F⟩ := hrel
    by_cases hlt : k < 1
    · have hm2 : (m : Int) ≤ 255 := by
        have : m ≤ N := by rw [hm.out]; exact Nat.div_le_self _ _
        omega
      have HO := Lib.hid hown
      have HF := Lib.hid F
      clear hown F
      have hlen : (leBytes k N).length ≤ 4 := by rw [leBytes_length]; omega
      go_wp2_with (at_builtin; refine wpList_append_src rfl _ _ 22 22 rfl w.heap.size 5 i0 (.int .u8 0) 1 1 Try.underlying22 hi hz0 hz1 hz2 rfl (by decide) _ _ _ rfl (HO.out.alloc _) _ 1 [_] rfl (src_new Try.underlying22 _ [_] 1 1 1 _ rfl ?c0) ?c1 ?c2 ?c3 ?_)
      case c0 => intro u hu; obtain rfl := List.mem_singleton.1 hu; rfl
      case c1 => unfold maxLen; omega
      case c2 => omega
      case c3 => have := HF.out.le; simp; omega
      intro v' w1 hown1 hgr1
      have F1 := (HF.out.alloc _).grown hgr1 (owns_block HO.out)
      have hown2 : OwnB w1 w.heap.size v' (leBytes (k + 1) N) := by
        rw [leBytes_snoc, ← hm.out]
        exact owns_snoc hown1 (by rw [UInt8.toNat_ofNat']; omega)
      have HO2 := Lib.hid hown2
      have HF2 := Lib.hid F1
      clear hown2 hown1 F1 hgr1 HO HF
      go_wp2_with fail
      go_roundw
      case rel => exact ⟨k + 1, m / 256, by omega, by go_num, by go_num, by
        show _ = _
        rw [hm.out, Nat.div_div_eq_div_mul, ← Nat.pow_succ], HO2.out, HF2.out⟩
      case measure => simp [intOf]; try omega
    · obtain rfl : k = 1 := by omega
      go_wp2_with fail
      go_ret
      exact ⟨_, rfl, hown, F.below⟩
set_option maxHeartbeats 1000000 in
theorem i_PutNumber_2 (w : World) (N : Nat) (hN : withinB (N : Int) 0 65535 = true) :
    Calls Try.prog 62 #[.int .i64 N, .int .i64 2] w (RetB w (leBytes 2 N)) := by
  have hW : withinB 2 1 4 = true := rfl
  have hN2 := ((withinB_iff _ _ _).1 hN).2
  obtain ⟨i0, hi, hz0, hz1, hz2⟩ := info_parts info_u8
  go_enter Try.func62, Try.ntmps62
  go_wp2_with (first | (go_at_call 123; (with_reducible refine (within_any _ _ _ _).mono ?_); rintro e w' ⟨rfl, rfl⟩))
  go_loopw [0, 5, 21] (fun n out i wr => ∃ (k m : Nat), k ≤ 2 ∧ i = .int .i64 k ∧ n = .int .i64 m ∧ Hid (m = N / 256 ^ k) ∧ OwnB wr w.heap.size out (leBytes k N) ∧ From w.heap.size w wr) (fun _ _ i _ => 2 - (intOf i).toNat)
  case atStart => exact ⟨0, N, by omega, rfl, rfl, by show N = _; simp, World.ownsRow_lit w #[] 0 (Nat.le_refl _) (Nat.zero_le _) rfl, (From.start w).alloc _⟩
  case round =>
    obtain ⟨k, m, hk, rfl, rfl, hm, hown, F⟩ := hrel
    by_cases hlt : k < 2
    · have hm2 : (m : Int) ≤ 65535 := by
        have : m ≤ N := by rw [hm.out]; exact Nat.div_le_self _ _
        omega
      have HO := Lib.hid hown
      have HF := Lib.hid F
      clear hown F
      have hlen : (leBytes k N).length ≤ 4 := by rw [leBytes_length]; omega
      go_wp2_with (at_builtin; refine wpList_append_src rfl _ _ 22 22 rfl w.heap.size 5 i0 (.int .u8 0) 1 1 Try.underlying22 hi hz0 hz1 hz2 rfl (by decide) _ _ _ rfl (HO.out.alloc _) _ 1 [_] rfl (src_new Try.underlying22 _ [_] 1 1 1 _ rfl ?c0) ?c1 ?c2 ?c3 ?_)
      case c0 => intro u hu; obtain rfl := List.mem_singleton.1 hu; rfl
      case c1 => unfold maxLen; omega
      case c2 => omega
      case c3 => have := HF.out.le; simp; omega
      intro v' w1 hown1 hgr1
      have F1 := (HF.out.alloc _).grown hgr1 (owns_block HO.out)
      have hown2 : OwnB w1 w.heap.size v' (leBytes (k + 1) N) := by
        rw [leBytes_snoc, ← hm.out]
        exact owns_snoc hown1 (by rw [UInt8.toNat_ofNat']; omega)
      have HO2 := Lib.hid hown2
      have HF2 := Lib.hid F1
      clear hown2 hown1 F1 hgr1 HO HF
      go_wp2_with fail
      go_roundw
      case rel => exact ⟨k + 1, m / 256, by omega, by go_num, by go_num, by
        show _ = _
        rw [hm.out, Nat.div_div_eq_div_mul, ← Nat.pow_succ], HO2.out, HF2.out⟩
      case measure => simp [intOf]; try omega
    · obtain rfl : k = 2 := by omega
      go_wp2_with fail
      go_ret
      exact ⟨_, rfl, hown, F.below⟩
set_option maxHeartbeats 1000000 in
theorem i_PutNumber_3 (w : World) (N : Nat) (hN : withinB (N : Int) 0 16777215 = true) :
    Calls Try.prog 62 #[.int .i64 N, .int .i64 3] w (RetB w (leBytes 3 N)) := by
  have hW : withinB 3 1 4 = true := rfl
  have hN2 := ((withinB_iff _ _ _).1 hN).2
  obtain ⟨i0, hi, hz0, hz1, hz2⟩ := info_parts info_u8
  go_enter Try.func62, Try.ntmps62
  go_wp2_with (first | (go_at_call 123; (with_reducible refine (within_any _ _ _ _).mono ?_); rintro e w' ⟨rfl, rfl⟩))
  go_loopw [0, 5, 21] (fun n out i wr => ∃ (k m : Nat), k ≤ 3 ∧ i = .int .i64 k ∧ n = .int .i64 m ∧ Hid (m = N / 256 ^ k) ∧ OwnB wr w.heap.size out (leBytes k N) ∧ From w.heap.size w wr) (fun _ _ i _ => 3 - (intOf i).toNat)
  case atStart => exact ⟨0, N, by omega, rfl, rfl, by show N = _; simp, World.ownsRow_lit w #[] 0 (Nat.le_refl _) (Nat.zero_le _) rfl, (From.start w).alloc _⟩
  case round =>
    obtain ⟨k, m, hk, rfl, rfl, hm, hown, F⟩ := hrel
    by_cases hlt : k < 3
    · have hm2 : (m : Int) ≤ 16777215 := by
        have : m ≤ N := by rw [hm.out]; exact Nat.div_le_self _ _
        omega
      have HO := Lib.hid hown
      have HF := Lib.hid F
      clear hown F
      have hlen : (leBytes k N).length ≤ 4 := by rw [leBytes_length]; omega
      go_wp2_with (at_builtin; refine wpList_append_src rfl _ _ 22 22 rfl w.heap.size 5 i0 (.int .u8 0) 1 1 Try.underlying22 hi hz0 hz1 hz2 rfl (by decide) _ _ _ rfl (HO.out.alloc _) _ 1 [_] rfl (src_new Try.underlying22 _ [_] 1 1 1 _ rfl ?c0) ?c1 ?c2 ?c3 ?_)
      case c0 => intro u hu; obtain rfl := List.mem_singleton.1 hu; rfl
      case c1 => unfold maxLen; omega
      case c2 => omega
      case c3 => have := HF.out.le; simp; omega
      intro v' w1 hown1 hgr1
      have F1 := (HF.out.alloc _).grown hgr1 (owns_block HO.out)
      have hown2 : OwnB w1 w.heap.size v' (leBytes (k + 1) N) := by
        rw [leBytes_snoc, ← hm.out]
        exact owns_snoc hown1 (by rw [UInt8.toNat_ofNat']; omega)
      have HO2 := Lib.hid hown2
      have HF2 := Lib.hid F1
      clear hown2 hown1 F1 hgr1 HO HF
      go_wp2_with fail
      go_roundw
      case rel => exact ⟨k + 1, m / 256, by omega, by go_num, by go_num, by
        show _ = _
        rw [hm.out, Nat.div_div_eq_div_mul, ← Nat.pow_succ], HO2.out, HF2.out⟩
      case measure => simp [intOf]; try omega
    · obtain rfl : k = 3 := by omega
      go_wp2_with fail
      go_ret
      exact ⟨_, rfl, hown, F.below⟩
set_option maxHeartbeats 1000000 in
theorem i_PutNumber_4 (w : World) (N : Nat) (hN : withinB (N : Int) 0 4294967295 = true) :
    Calls Try.prog 62 #[.int .i64 N, .int .i64 4] w (RetB w (leBytes 4 N)) := by
  have hW : withinB 4 1 4 = true := rfl
  have hN2 := ((withinB_iff _ _ _).1 hN).2
  obtain ⟨i0, hi, hz0, hz1, hz2⟩ := info_parts info_u8
  go_enter Try.func62, Try.ntmps62
  go_wp2_with (first | (go_at_call 123; (with_reducible refine (within_any _ _ _ _).mono ?_); rintro e w' ⟨rfl, rfl⟩))
  go_loopw [0, 5, 21] (fun n out i wr => ∃ (k m : Nat), k ≤ 4 ∧ i = .int .i64 k ∧ n = .int .i64 m ∧ Hid (m = N / 256 ^ k) ∧ OwnB wr w.heap.size out (leBytes k N) ∧ From w.heap.size w wr) (fun _ _ i _ => 4 - (intOf i).toNat)
  case atStart => exact ⟨0, N, by omega, rfl, rfl, by show N = _; simp, World.ownsRow_lit w #[] 0 (Nat.le_refl _) (Nat.zero_le _) rfl, (From.start w).alloc _⟩
  case round =>
    obtain ⟨k, m, hk, rfl, rfl, hm, hown, F⟩ := hrel
    by_cases hlt : k < 4
    · have hm2 : (m : Int) ≤ 4294967295 := by
        have : m ≤ N := by rw [hm.out]; exact Nat.div_le_self _ _
        omega
      have HO := Lib.hid hown
      have HF := Lib.hid F
      clear hown F
      have hlen : (leBytes k N).length ≤ 4 := by rw [leBytes_length]; omega
      go_wp2_with (at_builtin; refine wpList_append_src rfl _ _ 22 22 rfl w.heap.size 5 i0 (.int .u8 0) 1 1 Try.underlying22 hi hz0 hz1 hz2 rfl (by decide) _ _ _ rfl (HO.out.alloc _) _ 1 [_] rfl (src_new Try.underlying22 _ [_] 1 1 1 _ rfl ?c0) ?c1 ?c2 ?c3 ?_)
      case c0 => intro u hu; obtain rfl := List.mem_singleton.1 hu; rfl
      case c1 => unfold maxLen; omega
      case c2 => omega
      case c3 => have := HF.out.le; simp; omega
      intro v' w1 hown1 hgr1
      have F1 := (HF.out.alloc _).grown hgr1 (owns_block HO.out)
      have hown2 : OwnB w1 w.heap.size v' (leBytes (k + 1) N) := by
        rw [leBytes_snoc, ← hm.out]
        exact owns_snoc hown1 (by rw [UInt8.toNat_ofNat']; omega)
      have HO2 := Lib.hid hown2
      have HF2 := Lib.hid F1
      clear hown2 hown1 F1 hgr1 HO HF
      go_wp2_with fail
      go_roundw
      case rel => exact ⟨k + 1, m / 256, by omega, by go_num, by go_num, by
        show _ = _
        rw [hm.out, Nat.div_div_eq_div_mul, ← Nat.pow_succ], HO2.out, HF2.out⟩
      case measure => simp [intOf]; try omega
    · obtain rfl : k = 4 := by omega
      go_wp2_with fail
      go_ret
      exact ⟨_, rfl, hown, F.below⟩
theorem retB_nil (w : World) (w' : World) (v : Value) (hv : v = .slice none 0 0) (h : Below w.heap.size w w') : RetB w [] (.returned v) w' := ⟨v, rfl, by subst hv; exact World.ownsRow_nil _ _ _ _, h⟩
set_option maxHeartbeats 1000000 in
theorem i_PutNumber (w : World) (n wide : Int) :
    Calls Try.prog 62 #[.int .i64 n, .int .i64 wide] w (RetB w (putNum n wide)) := by
  cases hw : withinB wide 1 4
  · have E : putNum n wide = [] := by simp [putNum, numB, hw]
    rw [E]
    go_enter Try.func62, Try.ntmps62
    go_wp2_with (first | (go_at_call 123; (with_reducible refine (within_any _ _ _ _).mono ?_); rintro e w' ⟨rfl, rfl⟩))
    go_ret
    exact retB_nil _ _ _ rfl (Below.refl _ _)
  · rcases wide_four hw with rfl | rfl | rfl | rfl
    · cases hn : withinB n 0 255
      · have E : putNum n 1 = [] := by simp [putNum, numB, pow256, hn]
        rw [E]
        go_enter Try.func62, Try.ntmps62
        go_wp2_with (first | (go_at_call 123; (with_reducible refine (within_any _ _ _ _).mono ?_); rintro e w' ⟨rfl, rfl⟩))
        go_ret
        exact retB_nil _ _ _ rfl (Below.refl _ _)
      · obtain ⟨N, rfl⟩ := Int.eq_ofNat_of_zero_le ((withinB_iff _ _ _).1 hn).1
        have E : putNum (N : Int) 1 = leBytes 1 N := by simp [putNum, numB, pow256, hn, hw]
        rw [E]
        exact i_PutNumber_1 w N hn
    · cases hn : withinB n 0 65535
      · have E : putNum n 2 = [] := by simp [putNum, numB, pow256, hn]
        rw [E]
        go_enter Try.func62, Try.ntmps62
        go_wp2_with (first | (go_at_call 123; (with_reducible refine (within_any _ _ _ _).mono ?_); rintro e w' ⟨rfl, rfl⟩))
        go_ret
        exact retB_nil _ _ _ rfl (Below.refl _ _)
      · obtain ⟨N, rfl⟩ := Int.eq_ofNat_of_zero_le ((withinB_iff _ _ _).1 hn).1
        have E : putNum (N : Int) 2 = leBytes 2 N := by simp [putNum, numB, pow256, hn, hw]
        rw [E]
        exact i_PutNumber_2 w N hn
    · cases hn : withinB n 0 16777215
      · have E : putNum n 3 = [] := by simp [putNum, numB, pow256, hn]
        rw [E]
        go_enter Try.func62, Try.ntmps62
        go_wp2_with (first | (go_at_call 123; (with_reducible refine (within_any _ _ _ _).mono ?_); rintro e w' ⟨rfl, rfl⟩))
        go_ret
        exact retB_nil _ _ _ rfl (Below.refl _ _)
      · obtain ⟨N, rfl⟩ := Int.eq_ofNat_of_zero_le ((withinB_iff _ _ _).1 hn).1
        have E : putNum (N : Int) 3 = leBytes 3 N := by simp [putNum, numB, pow256, hn, hw]
        rw [E]
        exact i_PutNumber_3 w N hn
    · cases hn : withinB n 0 4294967295
      · have E : putNum n 4 = [] := by simp [putNum, numB, pow256, hn]
        rw [E]
        go_enter Try.func62, Try.ntmps62
        go_wp2_with (first | (go_at_call 123; (with_reducible refine (within_any _ _ _ _).mono ?_); rintro e w' ⟨rfl, rfl⟩))
        go_ret
        exact retB_nil _ _ _ rfl (Below.refl _ _)
      · obtain ⟨N, rfl⟩ := Int.eq_ofNat_of_zero_le ((withinB_iff _ _ _).1 hn).1
        have E : putNum (N : Int) 4 = leBytes 4 N := by simp [putNum, numB, pow256, hn, hw]
        rw [E]
        exact i_PutNumber_4 w N hn
set_option maxHeartbeats 1000000 in
theorem s_PutNumber_1 (w : World) (N : Nat) (hN : withinB (N : Int) 0 255 = true) :
    Calls Try.prog 104 #[.int .i64 N, .int .i64 1] w (RetB w (leBytes 1 N)) := by
  have hW : withinB 1 1 4 = true := rfl
  have hP : pow256 1 = 255 + 1 := rfl
  have hN2 := ((withinB_iff _ _ _).1 hN).2
  obtain ⟨i0, hi, hz0, hz1, hz2⟩ := info_parts info_u8
  go_enter Try.func104, Try.ntmps104
  go_wp2_with (first | (go_at_call 114; (with_reducible refine (l1In_any _ _ _ _).mono ?_); rintro e w' ⟨rfl, rfl⟩) | (go_at_call 155; (with_reducible refine (l1Power_any _ _ hW).mono ?_); rintro e w' ⟨rfl, rfl⟩))
  go_loopw [0, 5, 6] (fun n out i wr => ∃ (k m : Nat), k ≤ 1 ∧ i = .int .i64 k ∧ n = .int .i64 m ∧ Hid (m = N / 256 ^ k) ∧ OwnB wr w.heap.size out (leBytes k N) ∧ From w.heap.size w wr) (fun _ _ i _ => 1 - (intOf i).toNat)
  case atStart => exact ⟨0, N, by omega, rfl, rfl, by show N = _; simp, World.ownsRow_lit w #[] 0 (Nat.le_refl _) (Nat.zero_le _) rfl, (From.start w).alloc _⟩
  case round =>
    obtain ⟨k, m, hk, rfl, rfl, hm, hown, F⟩ := hrel
    by_cases hlt : k < 1
    · have hm2 : (m : Int) ≤ 255 := by
        have : m ≤ N := by rw [hm.out]; exact Nat.div_le_self _ _
        omega
      have HO := Lib.hid hown
      have HF := Lib.hid F
      clear hown F
      have hlen : (leBytes k N).length ≤ 4 := by rw [leBytes_length]; omega
      go_wp2_with (at_builtin; refine wpList_append_src rfl _ _ 22 22 rfl w.heap.size 5 i0 (.int .u8 0) 1 1 Try.underlying22 hi hz0 hz1 hz2 rfl (by decide) _ _ _ rfl (HO.out.alloc _) _ 1 [_] rfl (src_new Try.underlying22 _ [_] 1 1 1 _ rfl ?c0) ?c1 ?c2 ?c3 ?_)
      case c0 => intro u hu; obtain rfl := List.mem_singleton.1 hu; rfl
      case c1 => unfold maxLen; omega
      case c2 => omega
      case c3 => have := HF.out.le; simp; omega
      intro v' w1 hown1 hgr1
      have F1 := (HF.out.alloc _).grown hgr1 (owns_block HO.out)
      have hown2 : OwnB w1 w.heap.size v' (leBytes (k + 1) N) := by
        rw [leBytes_snoc, ← hm.out]
        exact owns_snoc hown1 (by rw [UInt8.toNat_ofNat']; omega)
      have HO2 := Lib.hid hown2
      have HF2 := Lib.hid F1
      clear hown2 hown1 F1 hgr1 HO HF
      go_wp2_with fail
      go_roundw
      case rel => exact ⟨k + 1, m / 256, by omega, by go_num, by go_num, by
        show _ = _
        rw [hm.out, Nat.div_div_eq_div_mul, ← Nat.pow_succ], HO2.out, HF2.out⟩
      case measure => simp [intOf]; try omega
    · obtain rfl : k = 1 := by omega
      go_wp2_with fail
      go_ret
      exact ⟨_, rfl, hown, F.below⟩
set_option maxHeartbeats 1000000 in
theorem s_PutNumber_2 (w : World) (N : Nat) (hN : withinB (N : Int) 0 65535 = true) :
    Calls Try.prog 104 #[.int .i64 N, .int .i64 2] w (RetB w (leBytes 2 N)) := by
  have hW : withinB 2 1 4 = true := rfl
  have hP : pow256 2 = 65535 + 1 := rfl
  have hN2 := ((withinB_iff _ _ _).1 hN).2
  obtain ⟨i0, hi, hz0, hz1, hz2⟩ := info_parts info_u8
  go_enter Try.func104, Try.ntmps104
  go_wp2_with (first | (go_at_call 114; (with_reducible refine (l1In_any _ _ _ _).mono ?_); rintro e w' ⟨rfl, rfl⟩) | (go_at_call 155; (with_reducible refine (l1Power_any _ _ hW).mono ?_); rintro e w' ⟨rfl, rfl⟩))
  go_loopw [0, 5, 6] (fun n out i wr => ∃ (k m : Nat), k ≤ 2 ∧ i = .int .i64 k ∧ n = .int .i64 m ∧ Hid (m = N / 256 ^ k) ∧ OwnB wr w.heap.size out (leBytes k N) ∧ From w.heap.size w wr) (fun _ _ i _ => 2 - (intOf i).toNat)
  case atStart => exact ⟨0, N, by omega, rfl, rfl, by show N = _; simp, World.ownsRow_lit w #[] 0 (Nat.le_refl _) (Nat.zero_le _) rfl, (From.start w).alloc _⟩
  case round =>
    obtain ⟨k, m, hk, rfl, rfl, hm, hown, F⟩ := hrel
    by_cases hlt : k < 2
    · have hm2 : (m : Int) ≤ 65535 := by
        have : m ≤ N := by rw [hm.out]; exact Nat.div_le_self _ _
        omega
      have HO := Lib.hid hown
      have HF := Lib.hid F
      clear hown F
      have hlen : (leBytes k N).length ≤ 4 := by rw [leBytes_length]; omega
      go_wp2_with (at_builtin; refine wpList_append_src rfl _ _ 22 22 rfl w.heap.size 5 i0 (.int .u8 0) 1 1 Try.underlying22 hi hz0 hz1 hz2 rfl (by decide) _ _ _ rfl (HO.out.alloc _) _ 1 [_] rfl (src_new Try.underlying22 _ [_] 1 1 1 _ rfl ?c0) ?c1 ?c2 ?c3 ?_)
      case c0 => intro u hu; obtain rfl := List.mem_singleton.1 hu; rfl
      case c1 => unfold maxLen; omega
      case c2 => omega
      case c3 => have := HF.out.le; simp; omega
      intro v' w1 hown1 hgr1
      have F1 := (HF.out.alloc _).grown hgr1 (owns_block HO.out)
      have hown2 : OwnB w1 w.heap.size v' (leBytes (k + 1) N) := by
        rw [leBytes_snoc, ← hm.out]
        exact owns_snoc hown1 (by rw [UInt8.toNat_ofNat']; omega)
      have HO2 := Lib.hid hown2
      have HF2 := Lib.hid F1
      clear hown2 hown1 F1 hgr1 HO HF
      go_wp2_with fail
      go_roundw
      case rel => exact ⟨k + 1, m / 256, by omega, by go_num, by go_num, by
        show _ = _
        rw [hm.out, Nat.div_div_eq_div_mul, ← Nat.pow_succ], HO2.out, HF2.out⟩
      case measure => simp [intOf]; try omega
    · obtain rfl : k = 2 := by omega
      go_wp2_with fail
      go_ret
      exact ⟨_, rfl, hown, F.below⟩
set_option maxHeartbeats 1000000 in
theorem s_PutNumber_3 (w : World) (N : Nat) (hN : withinB (N : Int) 0 16777215 = true) :
    Calls Try.prog 104 #[.int .i64 N, .int .i64 3] w (RetB w (leBytes 3 N)) := by
  have hW : withinB 3 1 4 = true := rfl
  have hP : pow256 3 = 16777215 + 1 := rfl
  have hN2 := ((withinB_iff _ _ _).1 hN).2
  obtain ⟨i0, hi, hz0, hz1, hz2⟩ := info_parts info_u8
  go_enter Try.func104, Try.ntmps104
  go_wp2_with (first | (go_at_call 114; (with_reducible refine (l1In_any _ _ _ _).mono ?_); rintro e w' ⟨rfl, rfl⟩) | (go_at_call 155; (with_reducible refine (l1Power_any _ _ hW).mono ?_); rintro e w' ⟨rfl, rfl⟩))
  go_loopw [0, 5, 6] (fun n out i wr => ∃ (k m : Nat), k ≤ 3 ∧ i = .int .i64 k ∧ n = .int .i64 m ∧ Hid (m = N / 256 ^ k) ∧ OwnB wr w.heap.size out (leBytes k N) ∧ From w.heap.size w wr) (fun _ _ i _ => 3 - (intOf i).toNat)
  case atStart => exact ⟨0, N, by omega, rfl, rfl, by show N = _; simp, World.ownsRow_lit w #[] 0 (Nat.le_refl _) (Nat.zero_le _) rfl, (From.start w).alloc _⟩
  case round =>
    obtain ⟨k, m, hk, rfl, rfl, hm, hown, F⟩ := hrel
    by_cases hlt : k < 3
    · have hm2 : (m : Int) ≤ 16777215 := by
        have : m ≤ N := by rw [hm.out]; exact Nat.div_le_self _ _
        omega
      have HO := Lib.hid hown
      have HF := Lib.hid F
      clear hown F
      have hlen : (leBytes k N).length ≤ 4 := by rw [leBytes_length]; omega
      go_wp2_with (at_builtin; refine wpList_append_src rfl _ _ 22 22 rfl w.heap.size 5 i0 (.int .u8 0) 1 1 Try.underlying22 hi hz0 hz1 hz2 rfl (by decide) _ _ _ rfl (HO.out.alloc _) _ 1 [_] rfl (src_new Try.underlying22 _ [_] 1 1 1 _ rfl ?c0) ?c1 ?c2 ?c3 ?_)
      case c0 => intro u hu; obtain rfl := List.mem_singleton.1 hu; rfl
      case c1 => unfold maxLen; omega
      case c2 => omega
      case c3 => have := HF.out.le; simp; omega
      intro v' w1 hown1 hgr1
      have F1 := (HF.out.alloc _).grown hgr1 (owns_block HO.out)
      have hown2 : OwnB w1 w.heap.size v' (leBytes (k + 1) N) := by
        rw [leBytes_snoc, ← hm.out]
        exact owns_snoc hown1 (by rw [UInt8.toNat_ofNat']; omega)
      have HO2 := Lib.hid hown2
      have HF2 := Lib.hid F1
      clear hown2 hown1 F1 hgr1 HO HF
      go_wp2_with fail
      go_roundw
      case rel => exact ⟨k + 1, m / 256, by omega, by go_num, by go_num, by
        show _ = _
        rw [hm.out, Nat.div_div_eq_div_mul, ← Nat.pow_succ], HO2.out, HF2.out⟩
      case measure => simp [intOf]; try omega
    · obtain rfl : k = 3 := by omega
      go_wp2_with fail
      go_ret
      exact ⟨_, rfl, hown, F.below⟩
set_option maxHeartbeats 1000000 in
theorem s_PutNumber_4 (w : World) (N : Nat) (hN : withinB (N : Int) 0 4294967295 = true) :
    Calls Try.prog 104 #[.int .i64 N, .int .i64 4] w (RetB w (leBytes 4 N)) := by
  have hW : withinB 4 1 4 = true := rfl
  have hP : pow256 4 = 4294967295 + 1 := rfl
  have hN2 := ((withinB_iff _ _ _).1 hN).2
  obtain ⟨i0, hi, hz0, hz1, hz2⟩ := info_parts info_u8
  go_enter Try.func104, Try.ntmps104
  go_wp2_with (first | (go_at_call 114; (with_reducible refine (l1In_any _ _ _ _).mono ?_); rintro e w' ⟨rfl, rfl⟩) | (go_at_call 155; (with_reducible refine (l1Power_any _ _ hW).mono ?_); rintro e w' ⟨rfl, rfl⟩))
  go_loopw [0, 5, 6] (fun n out i wr => ∃ (k m : Nat), k ≤ 4 ∧ i = .int .i64 k ∧ n = .int .i64 m ∧ Hid (m = N / 256 ^ k) ∧ OwnB wr w.heap.size out (leBytes k N) ∧ From w.heap.size w wr) (fun _ _ i _ => 4 - (intOf i).toNat)
  case atStart => exact ⟨0, N, by omega, rfl, rfl, by show N = _; simp, World.ownsRow_lit w #[] 0 (Nat.le_refl _) (Nat.zero_le _) rfl, (From.start w).alloc _⟩
  case round =>
    obtain ⟨k, m, hk, rfl, rfl, hm, hown, F⟩ := hrel
    by_cases hlt : k < 4
    · have hm2 : (m : Int) ≤ 4294967295 := by
        have : m ≤ N := by rw [hm.out]; exact Nat.div_le_self _ _
        omega
      have HO := Lib.hid hown
      have HF := Lib.hid F
      clear hown F
      have hlen : (leBytes k N).length ≤ 4 := by rw [leBytes_length]; omega
      go_wp2_with (at_builtin; refine wpList_append_src rfl _ _ 22 22 rfl w.heap.size 5 i0 (.int .u8 0) 1 1 Try.underlying22 hi hz0 hz1 hz2 rfl (by decide) _ _ _ rfl (HO.out.alloc _) _ 1 [_] rfl (src_new Try.underlying22 _ [_] 1 1 1 _ rfl ?c0) ?c1 ?c2 ?c3 ?_)
      case c0 => intro u hu; obtain rfl := List.mem_singleton.1 hu; rfl
      case c1 => unfold maxLen; omega
      case c2 => omega
      case c3 => have := HF.out.le; simp; omega
      intro v' w1 hown1 hgr1
      have F1 := (HF.out.alloc _).grown hgr1 (owns_block HO.out)
      have hown2 : OwnB w1 w.heap.size v' (leBytes (k + 1) N) := by
        rw [leBytes_snoc, ← hm.out]
        exact owns_snoc hown1 (by rw [UInt8.toNat_ofNat']; omega)
      have HO2 := Lib.hid hown2
      have HF2 := Lib.hid F1
      clear hown2 hown1 F1 hgr1 HO HF
      go_wp2_with fail
      go_roundw
      case rel => exact ⟨k + 1, m / 256, by omega, by go_num, by go_num, by
        show _ = _
        rw [hm.out, Nat.div_div_eq_div_mul, ← Nat.pow_succ], HO2.out, HF2.out⟩
      case measure => simp [intOf]; try omega
    · obtain rfl : k = 4 := by omega
      go_wp2_with fail
      go_ret
      exact ⟨_, rfl, hown, F.below⟩
theorem retB_empty (w : World) : RetB w [] (.returned (.slice (some ⟨w.heap.size, 0, none⟩) 0 0)) (w.alloc (.cells #[] 5)) := ⟨_, rfl, World.ownsRow_lit w #[] 0 (Nat.le_refl _) (Nat.zero_le _) rfl, ((From.start w).alloc _).below⟩
set_option maxHeartbeats 1000000 in
theorem s_PutNumber (w : World) (n wide : Int) :
    Calls Try.prog 104 #[.int .i64 n, .int .i64 wide] w (RetB w (putNum n wide)) := by
  cases hw : withinB wide 1 4
  · have E : putNum n wide = [] := by simp [putNum, numB, hw]
    rw [E]
    go_enter Try.func104, Try.ntmps104
    go_wp2_with (first | (go_at_call 114; (with_reducible refine (l1In_any _ _ _ _).mono ?_); rintro e w' ⟨rfl, rfl⟩))
    go_ret
    exact retB_empty w
  · rcases wide_four hw with rfl | rfl | rfl | rfl
    · have hP : pow256 1 = 255 + 1 := rfl
      cases hn : withinB n 0 255
      · have E : putNum n 1 = [] := by simp [putNum, numB, pow256, hn]
        rw [E]
        go_enter Try.func104, Try.ntmps104
        go_wp2_with (first | (go_at_call 114; (with_reducible refine (l1In_any _ _ _ _).mono ?_); rintro e w' ⟨rfl, rfl⟩) | (go_at_call 155; (with_reducible refine (l1Power_any _ _ hw).mono ?_); rintro e w' ⟨rfl, rfl⟩))
        go_ret
        exact retB_empty w
      · obtain ⟨N, rfl⟩ := Int.eq_ofNat_of_zero_le ((withinB_iff _ _ _).1 hn).1
        have E : putNum (N : Int) 1 = leBytes 1 N := by simp [putNum, numB, pow256, hn, hw]
        rw [E]
        exact s_PutNumber_1 w N hn
    · have hP : pow256 2 = 65535 + 1 := rfl
      cases hn : withinB n 0 65535
      · have E : putNum n 2 = [] := by simp [putNum, numB, pow256, hn]
        rw [E]
        go_enter Try.func104, Try.ntmps104
        go_wp2_with (first | (go_at_call 114; (with_reducible refine (l1In_any _ _ _ _).mono ?_); rintro e w' ⟨rfl, rfl⟩) | (go_at_call 155; (with_reducible refine (l1Power_any _ _ hw).mono ?_); rintro e w' ⟨rfl, rfl⟩))
        go_ret
        exact retB_empty w
      · obtain ⟨N, rfl⟩ := Int.eq_ofNat_of_zero_le ((withinB_iff _ _ _).1 hn).1
        have E : putNum (N : Int) 2 = leBytes 2 N := by simp [putNum, numB, pow256, hn, hw]
        rw [E]
        exact s_PutNumber_2 w N hn
    · have hP : pow256 3 = 16777215 + 1 := rfl
      cases hn : withinB n 0 16777215
      · have E : putNum n 3 = [] := by simp [putNum, numB, pow256, hn]
        rw [E]
        go_enter Try.func104, Try.ntmps104
        go_wp2_with (first | (go_at_call 114; (with_reducible refine (l1In_any _ _ _ _).mono ?_); rintro e w' ⟨rfl, rfl⟩) | (go_at_call 155; (with_reducible refine (l1Power_any _ _ hw).mono ?_); rintro e w' ⟨rfl, rfl⟩))
        go_ret
        exact retB_empty w
      · obtain ⟨N, rfl⟩ := Int.eq_ofNat_of_zero_le ((withinB_iff _ _ _).1 hn).1
        have E : putNum (N : Int) 3 = leBytes 3 N := by simp [putNum, numB, pow256, hn, hw]
        rw [E]
        exact s_PutNumber_3 w N hn
    · have hP : pow256 4 = 4294967295 + 1 := rfl
      cases hn : withinB n 0 4294967295
      · have E : putNum n 4 = [] := by simp [putNum, numB, pow256, hn]
        rw [E]
        go_enter Try.func104, Try.ntmps104
        go_wp2_with (first | (go_at_call 114; (with_reducible refine (l1In_any _ _ _ _).mono ?_); rintro e w' ⟨rfl, rfl⟩) | (go_at_call 155; (with_reducible refine (l1Power_any _ _ hw).mono ?_); rintro e w' ⟨rfl, rfl⟩))
        go_ret
        exact retB_empty w
      · obtain ⟨N, rfl⟩ := Int.eq_ofNat_of_zero_le ((withinB_iff _ _ _).1 hn).1
        have E : putNum (N : Int) 4 = leBytes 4 N := by simp [putNum, numB, pow256, hn, hw]
        rw [E]
        exact s_PutNumber_4 w N hn
end Go.Proofs.Ythccjimckjecjaa
