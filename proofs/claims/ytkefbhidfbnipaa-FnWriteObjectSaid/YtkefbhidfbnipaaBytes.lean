/- Slices of bytes: copied, compared, marked. Names: which texts are names; both functions compute the same. The contracts of the functions on headers and on the widths of fixups. Texts in tables: both functions compute the same. Fixups: lists of them, copied and compared. Bytes that a law writes over (marks), and whether the marks are held. Places of texts in tables: both functions compute the same. The bytes of headers: both functions compute the same. What numbers in bytes obey, with no program in sight. bytes.Equal. What names and texts in tables obey, with no program in sight. What tables of names obey, with no program in sight. Sorted by the library, each once: the same as by insertion. -/
import Derived.Test.YtkefbhidfbnipaaBase
import Derived.BigQuiet
import Derived.Deep.QuietTactic
import Derived.Lib.BytesEntry
import Derived.StillTailTactics
import Derived.Lib.SlicesCompact
namespace Go.Proofs.Ytkefbhidfbnipaa
/-! Bytes -/
open Go.ChangeShapes Go.WideShapes Go.ChangeAt Go.RowKit Go.Joins
set_option linter.unusedSimpArgs false
set_option linter.unusedVariables false
set_option maxRecDepth 100000

/-- What a function ends in that hands back bytes of its own. -/
def RetB (w : World) (l : List UInt8) (e : Ending) (w' : World) : Prop := ∃ r, e = .returned r ∧ OwnB w' w.heap.size r l ∧ Below w.heap.size w w'

theorem set_fill (l : List UInt8) (k : Nat) (hk : k < l.length) :
    (bvs (l.take k) ++ List.replicate (l.length - k) (Value.int .u8 0)).set k (.int .u8 (l[k].toNat : Int)) = bvs (l.take (k + 1)) ++ List.replicate (l.length - (k + 1)) (Value.int .u8 0) := by
  have hl : (bvs (l.take k)).length = k := by rw [bvs_length, List.length_take]; omega
  rw [List.set_append, if_neg (by omega), hl, Nat.sub_self, List.take_succ_eq_append_getElem hk, bvs_append, List.append_assoc]
  congr 1
  rw [show l.length - k = (l.length - (k + 1)) + 1 by omega, List.replicate_succ]
  rfl

set_option maxHeartbeats 1000000 in
theorem toByteS_any (w : World) (v : Value) (l : List UInt8) (h : BytesAt w v l) (hl : l.length ≤ 1073741824) :
    Calls Try.prog 93 #[v] w (RetB w l) := by
  obtain ⟨a, cap, rfl, hcap, hmax, hnone, hcell⟩ := h.form
  obtain ⟨i0, hi, hz0, hz1, hz2⟩ := info_parts info_u8
  have HH := Lib.hid hcell
  clear h hcell hnone
  go_enter Try.func93, Try.ntmps93
  go_wp2_with (at_make; refine wpList_make_full _ rfl _ _ 22 rfl w.heap.size 5 i0 (.int .u8 0) 1 Try.underlying22 hi hz0 hz1 _ _ _ _ l.length rfl rfl rfl rfl ?c1 ?c2 ?c3 ?_)
  case c1 => rw [hz2]; omega
  case c2 => unfold maxLen; omega
  case c3 => exact Nat.le_refl _
  intro w1 hown hgr
  have F1 := (From.start w).grown hgr (fun k h => by cases h)
  clear hgr
  have hsz : w.heap.size = w.heap.size := rfl
  go_wp2_with fail
  go_loopw [4] (fun i wr => ∃ k : Nat, k ≤ l.length ∧ i = .int .i64 k ∧
      wr.ownsRow w.heap.size 5 1 (.slice (some ⟨w.heap.size, 0, none⟩) l.length l.length) l.length (bvs (l.take k) ++ List.replicate (l.length - k) (Value.int .u8 0)) ∧ From w.heap.size w wr) (fun i _ => l.length - (intOf i).toNat)
  case atStart => exact ⟨0, Nat.zero_le _, rfl, by simpa [toList_madeCells_one, bvs] using hown, F1⟩
  case round =>
    obtain ⟨k, hk, rfl, hown, F⟩ := hrel
    by_cases hlt : k < l.length
    · obtain ⟨b, off, rfl, hc⟩ := HH.out (by omega)
      have hsrc := hc k hlt
      have hb : b < w.heap.size := World.block_lt_of_cell? w _ hsrc
      have hsrc' : wr.cell? ⟨b, off + k, none⟩ = some (.int .u8 (l[k].toNat : Int)) := by rw [F.below.cell (p := ⟨b, off + k, none⟩) hb]; exact hsrc
      have hd := hown.cellAt k (by omega)
      have hf := hown.frozenAt k
      have hd' : ∃ u, wr.cell? ⟨w.heap.size, k, none⟩ = some u := ⟨_, hd.trans (List.getElem?_eq_getElem (by rw [hown.1]; omega))⟩
      obtain ⟨u0, hd'⟩ := hd'
      have HO := Lib.hid hown
      have HF := Lib.hid F
      clear hsrc hc hd hown F
      go_wp2_with fail
      go_roundw
      case rel =>
        refine ⟨k + 1, by omega, by go_num, ?_, HF.out.setCell (Nat.le_refl _) _⟩
        rw [← set_fill l k hlt]
        exact (HO.out.stored k _).1
      case measure => simp [intOf]; omega
    · obtain rfl : k = l.length := by omega
      go_wp2_with fail
      go_ret
      refine ⟨_, rfl, ?_, F.below⟩
      simpa [OwnB] using hown

/-- Whether bytes are equal. -/
def eqB (a b : List UInt8) : Bool := decide (a = b)
theorem eqB_self (a : List UInt8) : eqB a a = true := by simp [eqB]
theorem eqB_len {a b : List UInt8} (h : a.length ≠ b.length) : eqB a b = false := by
  unfold eqB; rw [decide_eq_false_iff_not]; intro e; rw [e] at h; exact h rfl
theorem eqB_bad {a b : List UInt8} {k : Nat} (ha : k < a.length) (hb : k < b.length) (h : a[k] ≠ b[k]) : eqB a b = false := by
  unfold eqB; rw [decide_eq_false_iff_not]; intro e; subst e; exact h rfl
theorem eqB_all {a b : List UInt8} (hl : a.length = b.length) (h : ∀ j, (h1 : j < a.length) → (h2 : j < b.length) → a[j] = b[j]) : eqB a b = true := by
  unfold eqB; rw [decide_eq_true_eq]
  exact List.ext_getElem hl h
theorem u8_ne {a b : UInt8} (h : a ≠ b) : ((a.toNat : Int) != (b.toNat : Int)) = true := by
  rw [bne_iff_ne]; intro e; exact h (UInt8.toNat_inj.1 (by omega))
theorem u8_eq {a b : UInt8} (h : a = b) : ((a.toNat : Int) != (b.toNat : Int)) = false := by subst h; simp
theorem ret_bool' {a b : Bool} (h : a = b) : Ending.returned (.bool a) = .returned (.bool b) := by rw [h]

set_option maxHeartbeats 1000000 in
theorem l_eqByteS (w : World) (v1 v2 : Value) (l1 l2 : List UInt8) (h1 : BytesAt w v1 l1) (h2 : BytesAt w v2 l2) :
    Calls Try.prog 95 #[v1, v2] w fun e w' => e = .returned (.bool (eqB l1 l2)) ∧ Below w.heap.size w w' := by
  obtain ⟨a1, cap1, rfl, hcap1, hmax1, hnone1, hcell1⟩ := h1.form
  obtain ⟨a2, cap2, rfl, hcap2, hmax2, hnone2, hcell2⟩ := h2.form
  have H1 := Lib.hid hcell1
  have H2 := Lib.hid hcell2
  clear h1 h2 hcell1 hcell2 hnone1 hnone2
  unfold maxLen at hmax1 hmax2
  by_cases hlen : l1.length = l2.length
  · have hb : ((l1.length : Int) != (l2.length : Int)) = false := by rw [hlen]; simp
    have HL := Lib.hid hlen
    clear hlen
    go_enter Try.func95, Try.ntmps95
    go_wp2_with fail
    go_loopw [5] (fun i wr => ∃ k : Nat, k ≤ l1.length ∧ i = .int .i64 k ∧ (∃ d, wr = w.drewN d) ∧ Hid (∀ j, (h1 : j < l1.length) → (h2 : j < l2.length) → j < k → l1[j] = l2[j])) (fun i _ => l1.length - (intOf i).toNat)
    case atStart => exact ⟨0, Nat.zero_le _, rfl, ⟨0, rfl⟩, fun j _ _ h => absurd h (Nat.not_lt_zero _)⟩
    case round =>
      obtain ⟨k, hk, rfl, ⟨d, rfl⟩, hall⟩ := hrel
      by_cases hlt : k < l1.length
      · have hlt2 : k < l2.length := by rw [← HL.out]; exact hlt
        obtain ⟨b1, off1, rfl, hc1⟩ := H1.out (by omega)
        obtain ⟨b2, off2, rfl, hc2⟩ := H2.out (by omega)
        have g1 := hc1 k hlt
        have g2 := hc2 k hlt2
        have i1 : (k : Int) < (l1.length : Int) := by omega
        have i2 : (k : Int) < (l2.length : Int) := by omega
        have i3 : (0 : Int) ≤ (k : Int) := by omega
        clear hc1 hc2
        by_cases he : l1[k] = l2[k]
        · have hbe := u8_eq he
          have HE := Lib.hid he
          clear he
          go_wp2_with fail
          go_quiet (fail)
          go_wp2_with fail
          go_roundw
          case rel =>
            refine ⟨k + 1, by omega, by go_num, ⟨_, rfl⟩, fun j h1 h2 hj => ?_⟩
            rcases Nat.lt_succ_iff_lt_or_eq.1 hj with h | rfl
            · exact hall.out j h1 h2 h
            · exact HE.out
          case measure => simp [intOf]; omega
        · have hbe := u8_ne he
          have HE := Lib.hid he
          clear he
          go_wp2_with fail
          go_quiet (fail)
          go_wp2_with fail
          go_ret
          exact ⟨ret_bool' (eqB_bad hlt hlt2 HE.out).symm, (((From.start w).drewN _).drewN _).below⟩
      · have E : Hid (eqB l1 l2 = true) := eqB_all HL.out fun j h1 h2 => hall.out j h1 h2 (by omega)
        go_wp2_with fail
        go_ret
        exact ⟨by rw [E.out]; rfl, ((From.start w).drewN _).below⟩
  · have hb : ((l1.length : Int) != (l2.length : Int)) = true := by rw [bne_iff_ne]; omega
    have E : Hid (eqB l1 l2 = false) := eqB_len hlen
    clear hlen
    go_enter Try.func95, Try.ntmps95
    go_wp2_with fail
    go_ret
    exact ⟨by rw [E.out]; rfl, Below.refl _ _⟩
set_option maxHeartbeats 1000000 in
theorem l_sameBytes (w : World) (v1 v2 : Value) (l1 l2 : List UInt8) (h1 : BytesAt w v1 l1) (h2 : BytesAt w v2 l2) :
    Calls Try.prog 7 #[v1, v2] w fun e w' => e = .returned (.bool (eqB l1 l2)) ∧ Below w.heap.size w w' := by
  obtain ⟨a1, cap1, rfl, hcap1, hmax1, hnone1, hcell1⟩ := h1.form
  obtain ⟨a2, cap2, rfl, hcap2, hmax2, hnone2, hcell2⟩ := h2.form
  have H1 := Lib.hid hcell1
  have H2 := Lib.hid hcell2
  clear h1 h2 hcell1 hcell2 hnone1 hnone2
  unfold maxLen at hmax1 hmax2
  by_cases hlen : l1.length = l2.length
  · have hb : ((l1.length : Int) != (l2.length : Int)) = false := by rw [hlen]; simp
    have HL := Lib.hid hlen
    clear hlen
    go_enter Try.func7, Try.ntmps7
    go_wp2_with fail
    go_loopw [5] (fun i wr => ∃ k : Nat, k ≤ l1.length ∧ i = .int .i64 k ∧ (∃ d, wr = w.drewN d) ∧ Hid (∀ j, (h1 : j < l1.length) → (h2 : j < l2.length) → j < k → l1[j] = l2[j])) (fun i _ => l1.length - (intOf i).toNat)
    case atStart => exact ⟨0, Nat.zero_le _, rfl, ⟨0, rfl⟩, fun j _ _ h => absurd h (Nat.not_lt_zero _)⟩
    case round =>
      obtain ⟨k, hk, rfl, ⟨d, rfl⟩, hall⟩ := hrel
      by_cases hlt : k < l1.length
      · have hlt2 : k < l2.length := by rw [← HL.out]; exact hlt
        obtain ⟨b1, off1, rfl, hc1⟩ := H1.out (by omega)
        obtain ⟨b2, off2, rfl, hc2⟩ := H2.out (by omega)
        have g1 := hc1 k hlt
        have g2 := hc2 k hlt2
        have i1 : (k : Int) < (l1.length : Int) := by omega
        have i2 : (k : Int) < (l2.length : Int) := by omega
        have i3 : (0 : Int) ≤ (k : Int) := by omega
        clear hc1 hc2
        by_cases he : l1[k] = l2[k]
        · have hbe := u8_eq he
          have HE := Lib.hid he
          clear he
          go_wp2_with fail
          go_quiet (fail)
          go_wp2_with fail
          go_roundw
          case rel =>
            refine ⟨k + 1, by omega, by go_num, ⟨_, rfl⟩, fun j h1 h2 hj => ?_⟩
            rcases Nat.lt_succ_iff_lt_or_eq.1 hj with h | rfl
            · exact hall.out j h1 h2 h
            · exact HE.out
          case measure => simp [intOf]; omega
        · have hbe := u8_ne he
          have HE := Lib.hid he
          clear he
          go_wp2_with fail
          go_quiet (fail)
          go_wp2_with fail
          go_ret
          exact ⟨ret_bool' (eqB_bad hlt hlt2 HE.out).symm, (((From.start w).drewN _).drewN _).below⟩
      · have E : Hid (eqB l1 l2 = true) := eqB_all HL.out fun j h1 h2 => hall.out j h1 h2 (by omega)
        go_wp2_with fail
        go_ret
        exact ⟨by rw [E.out]; rfl, ((From.start w).drewN _).below⟩
  · have hb : ((l1.length : Int) != (l2.length : Int)) = true := by rw [bne_iff_ne]; omega
    have E : Hid (eqB l1 l2 = false) := eqB_len hlen
    clear hlen
    go_enter Try.func7, Try.ntmps7
    go_wp2_with fail
    go_ret
    exact ⟨by rw [E.out]; rfl, Below.refl _ _⟩

/-- The number of bytes, the lowest first. -/
def leNum : List UInt8 → Int
  | [] => 0
  | c :: r => (c.toNat : Int) + 256 * leNum r
theorem leNum_nonneg : ∀ l : List UInt8, 0 ≤ leNum l
  | [] => Int.le_refl _
  | c :: r => by have := leNum_nonneg r; show 0 ≤ (c.toNat : Int) + 256 * leNum r; omega
theorem u8_lt (c : UInt8) : c.toNat < 256 := c.toNat_lt
theorem leNum_3 (l : List UInt8) (h : l.length ≤ 3) : leNum l ≤ 16777215 := by
  match l, h with
  | [], _ => decide
  | [a], _ => have := u8_lt a; simp only [leNum]; omega
  | [a, b], _ => have := u8_lt a; have := u8_lt b; simp only [leNum]; omega
  | [a, b, c], _ => have := u8_lt a; have := u8_lt b; have := u8_lt c; simp only [leNum]; omega
  | a :: b :: c :: d :: r, h => simp only [List.length_cons] at h; omega
theorem leNum_4 (l : List UInt8) (h : l.length ≤ 4) : leNum l ≤ 4294967295 := by
  match l, h with
  | [], _ => decide
  | a :: r, h => have := leNum_3 r (by simpa using h); have := u8_lt a; simp only [leNum]; omega
/-- The number of bytes from a place on, -1 if they are not there. -/
def getNum (l : List UInt8) (at' wide : Int) : Int := if withinB wide 1 4 && withinB at' 0 ((l.length : Int) - wide) then leNum ((l.drop at'.toNat).take wide.toNat) else -1
theorem getNum_range (l : List UInt8) (at' wide : Int) : -1 ≤ getNum l at' wide ∧ getNum l at' wide ≤ 4294967295 := by
  unfold getNum
  split
  · rename_i h
    simp only [Bool.and_eq_true] at h
    have h1 := (withinB_iff _ _ _).1 h.1
    have a := leNum_nonneg ((l.drop at'.toNat).take wide.toNat)
    have b := leNum_4 ((l.drop at'.toNat).take wide.toNat) (by rw [List.length_take]; omega)
    omega
  · omega
theorem leNum_step (l : List UInt8) (A W j : Nat) (hj : j < W) (hA : A + W ≤ l.length) :
    leNum ((l.drop (A + j)).take (W - j)) = (l[A + j].toNat : Int) + 256 * leNum ((l.drop (A + (j + 1))).take (W - (j + 1))) := by
  rw [List.drop_eq_getElem_cons (by omega), show W - j = (W - (j + 1)) + 1 by omega, List.take_succ_cons]
  rfl

set_option maxHeartbeats 1000000 in
theorem i_GetNumber_good (w : World) (v : Value) (l : List UInt8) (h : BytesAt w v l) (A W : Nat) (hw : withinB (W : Int) 1 4 = true) (hat : withinB (A : Int) 0 ((l.length : Int) - (W : Int)) = true) :
    Calls Try.prog 70 #[v, .int .i64 A, .int .i64 W] w fun e w' => e = .returned (.int .i64 (leNum ((l.drop A).take W))) ∧ w = w' := by
  obtain ⟨a, cap, rfl, hcap, hmax, hnone, hcell⟩ := h.form
  have hW := (withinB_iff _ _ _).1 hw
  have hA := (withinB_iff _ _ _).1 hat
  obtain ⟨hW1, hW2⟩ := hW
  obtain ⟨hA1, hA2⟩ := hA
  obtain ⟨b, off, rfl, hc⟩ := hcell (by omega)
  have n1 : ¬ ((A : Int) < 0) := by omega
  have n2 : ¬ ((l.length : Int) - (W : Int) < (A : Int)) := by omega
  unfold maxLen at hmax
  have HC := Lib.hid hc
  clear h hcell hnone hc
  go_enter Try.func70, Try.ntmps70
  go_wp2_with (first | (go_at_call 58; (with_reducible refine (within_any _ _ _ _).mono ?_); rintro e w' ⟨rfl, rfl⟩))
  go_loop [7, 8] (fun n i => ∃ (q m : Int), -1 ≤ q ∧ q < (W : Int) ∧ i = .int .i64 q ∧ n = .int .i64 m ∧ Hid (m = leNum ((l.drop (A + (q + 1).toNat)).take (W - (q + 1).toNat)))) (fun _ i => (intOf i + 1).toNat)
  case atStart => exact ⟨_, _, by omega, by omega, rfl, rfl, by
    show (0 : Int) = _
    rw [show ((W : Int) - 1 + 1).toNat = W by omega, Nat.sub_self]; rfl⟩
  case round =>
    obtain ⟨q, m, hq1, hq2, rfl, rfl, hm⟩ := hrel
    by_cases hlt : 0 ≤ q
    · obtain ⟨j, rfl⟩ := Int.eq_ofNat_of_zero_le hlt
      have hjW : j < W := by omega
      have g := HC.out (A + j) (by omega)
      have m0 : 0 ≤ m := by rw [hm.out]; exact leNum_nonneg _
      have m1 : m ≤ 16777215 := by rw [hm.out]; exact leNum_3 _ (by rw [List.length_take]; omega)
      have c0 := u8_lt l[A + j]
      have hs := leNum_step l A W j hjW (by omega)
      have HS := Lib.hid hs
      clear hs
      go_wp2_with fail
      go_round
      case rel =>
        refine ⟨_, _, by omega, by omega, rfl, rfl, ?_⟩
        show _ = _
        rw [show ((j : Int) - 1 + 1).toNat = j by omega, HS.out, hm.out, show ((j : Int) + 1).toNat = j + 1 by omega]
        omega
      case measure => simp [intOf]; try omega
    · obtain rfl : q = -1 := by omega
      have E : Hid (m = leNum ((l.drop A).take W)) := hm.out
      clear hm
      go_wp2_with fail
      go_ret
      exact ⟨by rw [← E.out]; rfl, rfl⟩

set_option maxHeartbeats 1000000 in
theorem i_GetNumber (w : World) (v : Value) (l : List UInt8) (h : BytesAt w v l) (at' wide : Int) :
    Calls Try.prog 70 #[v, .int .i64 at', .int .i64 wide] w fun e w' => e = .returned (.int .i64 (getNum l at' wide)) ∧ w = w' := by
  cases hw : withinB wide 1 4
  · obtain ⟨a, cap, rfl, hcap, hmax, hnone, hcell⟩ := h.form
    clear h hnone hcell
    have E : Hid (getNum l at' wide = -1) := by show _ = _; simp [getNum, hw]
    go_enter Try.func70, Try.ntmps70
    go_wp2_with (first | (go_at_call 58; (with_reducible refine (within_any _ _ _ _).mono ?_); rintro e w' ⟨rfl, rfl⟩))
    go_ret
    exact ⟨by rw [E.out]; rfl, rfl⟩
  cases hat : withinB at' 0 ((l.length : Int) - wide)
  · obtain ⟨a, cap, rfl, hcap, hmax, hnone, hcell⟩ := h.form
    clear h hnone hcell
    have E : Hid (getNum l at' wide = -1) := by show _ = _; simp [getNum, hat]
    have hW := (withinB_iff _ _ _).1 hw
    have hA := (withinB_not _ _ _).1 hat
    obtain ⟨hW1, hW2⟩ := hW
    unfold maxLen at hmax
    by_cases n1 : at' < 0
    · clear hA
      go_enter Try.func70, Try.ntmps70
      go_wp2_with (first | (go_at_call 58; (with_reducible refine (within_any _ _ _ _).mono ?_); rintro e w' ⟨rfl, rfl⟩))
      go_ret
      exact ⟨by rw [E.out]; rfl, rfl⟩
    · have n2 : (l.length : Int) - wide < at' := by omega
      clear hA
      go_enter Try.func70, Try.ntmps70
      go_wp2_with (first | (go_at_call 58; (with_reducible refine (within_any _ _ _ _).mono ?_); rintro e w' ⟨rfl, rfl⟩))
      go_ret
      exact ⟨by rw [E.out]; rfl, rfl⟩
  · have hW := (withinB_iff _ _ _).1 hw
    have hA := (withinB_iff _ _ _).1 hat
    obtain ⟨A, rfl⟩ := Int.eq_ofNat_of_zero_le hA.1
    obtain ⟨W, rfl⟩ := Int.eq_ofNat_of_zero_le (show 0 ≤ wide by omega)
    have E : getNum l A W = leNum ((l.drop A).take W) := by simp [getNum, hw, hat]
    rw [E]
    exact i_GetNumber_good w v l h A W hw hat

/-- The bytes of a number, the lowest first. -/
def leBytes : Nat → Nat → List UInt8
  | 0, _ => []
  | k + 1, n => UInt8.ofNat (n % 256) :: leBytes k (n / 256)
theorem leBytes_length : ∀ k n, (leBytes k n).length = k
  | 0, _ => rfl
  | k + 1, n => by simp [leBytes, leBytes_length k]
theorem leBytes_snoc : ∀ k n, leBytes (k + 1) n = leBytes k n ++ [UInt8.ofNat (n / 256 ^ k % 256)]
  | 0, n => by simp [leBytes]
  | k + 1, n => by
    rw [leBytes, leBytes_snoc k (n / 256)]
    show _ = UInt8.ofNat (n % 256) :: leBytes k (n / 256) ++ _
    rw [List.cons_append, Nat.div_div_eq_div_mul, show 256 ^ (k + 1) = 256 * 256 ^ k by rw [Nat.pow_succ, Nat.mul_comm]]
def putNum (n wide : Int) : List UInt8 := if numB n wide then leBytes wide.toNat n.toNat else []
theorem putNum_length (n wide : Int) : (putNum n wide).length ≤ 4 := by
  unfold putNum
  split
  · rename_i h
    rw [leBytes_length]
    unfold numB at h
    simp only [Bool.and_eq_true] at h
    have := (withinB_iff _ _ _).1 h.1
    omega
  · simp

theorem owns_snoc {w : World} {base : Nat} {v : Value} {l : List UInt8} {c : UInt8} {x : Int} (h : w.ownsRow base 5 1 v (l.length + 1) (bvs l ++ [Value.int .u8 x])) (hx : x = (c.toNat : Int)) : OwnB w base v (l ++ [c]) := by
  subst hx
  unfold OwnB
  rw [List.length_append, bvs_append]
  exact h

set_option maxHeartbeats 1000000 in
theorem i_PutNumber_1 (w : World) (N : Nat) (hN : withinB (N : Int) 0 255 = true) :
    Calls Try.prog 24 #[.int .i64 N, .int .i64 1] w (RetB w (leBytes 1 N)) := by
  have hW : withinB 1 1 4 = true := rfl
  have hN2 := ((withinB_iff _ _ _).1 hN).2
  obtain ⟨i0, hi, hz0, hz1, hz2⟩ := info_parts info_u8
  go_enter Try.func24, Try.ntmps24
  go_wp2_with (first | (go_at_call 58; (with_reducible refine (within_any _ _ _ _).mono ?_); rintro e w' ⟨rfl, rfl⟩))
  go_loopw [0, 5, 21] (fun n out i wr => ∃ (k m : Nat), k ≤ 1 ∧ i = .int .i64 k ∧ n = .int .i64 m ∧ Hid (m = N / 256 ^ k) ∧ OwnB wr w.heap.size out (leBytes k N) ∧ From w.heap.size w wr) (fun _ _ i _ => 1 - (intOf i).toNat)
  case atStart => exact ⟨0, N, by omega, rfl, rfl, by show N = _; simp, World.ownsRow_lit w #[] 0 (Nat.le_refl _) (Nat.zero_le _) rfl, (From.start w).alloc _⟩
  case round =>
    obtain ⟨k, m, hk, rfl, rfl, hm, hown, F⟩ := hrel
    by_cases hlt : k < 1
    · have hm2 : (m : Int) ≤ 255 := by
        have : m ≤ N := by rw [hm.out]; exact Nat.div_le_self _ _
        omega
      have HO := Lib.hid hown
      have HF := Lib.hid F
      clear hown F
      have hlen : (leBytes k N).length ≤ 4 := by rw [leBytes_length]; omega
      go_wp2_with (at_builtin; refine wpList_append_src rfl _ _ 22 22 rfl w.heap.size 5 i0 (.int .u8 0) 1 1 Try.underlying22 hi hz0 hz1 hz2 rfl (by decide) _ _ _ rfl (HO.out.alloc _) _ 1 [_] rfl (src_new Try.underlying22 _ [_] 1 1 1 _ rfl ?c0) ?c1 ?c2 ?c3 ?_)
      case c0 => intro u hu; obtain rfl := List.mem_singleton.1 hu; rfl
      case c1 => unfold maxLen; omega
      case c2 => omega
      case c3 => have := HF.out.le; simp; omega
      intro v' w1 hown1 hgr1
      have F1 := (HF.out.alloc _).grown hgr1 (owns_block HO.out)
      have hown2 : OwnB w1 w.heap.size v' (leBytes (k + 1) N) := by
        rw [leBytes_snoc, ← hm.out]
        exact owns_snoc hown1 (by rw [UInt8.toNat_ofNat']; omega)
      have HO2 := Lib.hid hown2
      have HF2 := Lib.hid F1
      clear hown2 hown1 F1 hgr1 HO HF
      go_wp2_with fail
      go_roundw
      case rel => exact ⟨k + 1, m / 256, by omega, by go_num, by go_num, by
        show _ = _
        rw [hm.out, Nat.div_div_eq_div_mul, ← Nat.pow_succ], HO2.out, HF2.out⟩
      case measure => simp [intOf]; try omega
    · obtain rfl : k = 1 := by omega
      go_wp2_with fail
      go_ret
      exact ⟨_, rfl, hown, F.below⟩
set_option maxHeartbeats 1000000 in
theorem i_PutNumber_2 (w : World) (N : Nat) (hN : withinB (N : Int) 0 65535 = true) :
    Calls Try.prog 24 #[.int .i64 N, .int .i64 2] w (RetB w (leBytes 2 N)) := by
  have hW : withinB 2 1 4 = true := rfl
  have hN2 := ((withinB_iff _ _ _).1 hN).2
  obtain ⟨i0, hi, hz0, hz1, hz2⟩ := info_parts info_u8
  go_enter Try.func24, Try.ntmps24
  go_wp2_with (first | (go_at_call 58; (with_reducible refine (within_any _ _ _ _).mono ?_); rintro e w' ⟨rfl, rfl⟩))
  go_loopw [0, 5, 21] (fun n out i wr => ∃ (k m : Nat), k ≤ 2 ∧ i = .int .i64 k ∧ n = .int .i64 m ∧ Hid (m = N / 256 ^ k) ∧ OwnB wr w.heap.size out (leBytes k N) ∧ From w.heap.size w wr) (fun _ _ i _ => 2 - (intOf i).toNat)
  case atStart => exact ⟨0, N, by omega, rfl, rfl, by show N = _; simp, World.ownsRow_lit w #[] 0 (Nat.le_refl _) (Nat.zero_le _) rfl, (From.start w).alloc _⟩
  case round =>
    obtain ⟨k, m, hk, rfl, rfl, hm, hown, F⟩ := hrel
    by_cases hlt : k < 2
    · have hm2 : (m : Int) ≤ 65535 := by
        have : m ≤ N := by rw [hm.out]; exact Nat.div_le_self _ _
        omega
      have HO := Lib.hid hown
      have HF := Lib.hid F
      clear hown F
      have hlen : (leBytes k N).length ≤ 4 := by rw [leBytes_length]; omega
      go_wp2_with (at_builtin; refine wpList_append_src rfl _ _ 22 22 rfl w.heap.size 5 i0 (.int .u8 0) 1 1 Try.underlying22 hi hz0 hz1 hz2 rfl (by decide) _ _ _ rfl (HO.out.alloc _) _ 1 [_] rfl (src_new Try.underlying22 _ [_] 1 1 1 _ rfl ?c0) ?c1 ?c2 ?c3 ?_)
      case c0 => intro u hu; obtain rfl := List.mem_singleton.1 hu; rfl
      case c1 => unfold maxLen; omega
      case c2 => omega
      case c3 => have := HF.out.le; simp; omega
      intro v' w1 hown1 hgr1
      have F1 := (HF.out.alloc _).grown hgr1 (owns_block HO.out)
      have hown2 : OwnB w1 w.heap.size v' (leBytes (k + 1) N) := by
        rw [leBytes_snoc, ← hm.out]
        exact owns_snoc hown1 (by rw [UInt8.toNat_ofNat']; omega)
      have HO2 := Lib.hid hown2
      have HF2 := Lib.hid F1
      clear hown2 hown1 F1 hgr1 HO HF
      go_wp2_with fail
      go_roundw
      case rel => exact ⟨k + 1, m / 256, by omega, by go_num, by go_num, by
        show _ = _
        rw [hm.out, Nat.div_div_eq_div_mul, ← Nat.pow_succ], HO2.out, HF2.out⟩
      case measure => simp [intOf]; try omega
    · obtain rfl : k = 2 := by omega
      go_wp2_with fail
      go_ret
      exact ⟨_, rfl, hown, F.below⟩
set_option maxHeartbeats 1000000 in
theorem i_PutNumber_3 (w : World) (N : Nat) (hN : withinB (N : Int) 0 16777215 = true) :
    Calls Try.prog 24 #[.int .i64 N, .int .i64 3] w (RetB w (leBytes 3 N)) := by
  have hW : withinB 3 1 4 = true := rfl
  have hN2 := ((withinB_iff _ _ _).1 hN).2
  obtain ⟨i0, hi, hz0, hz1, hz2⟩ := info_parts info_u8
  go_enter Try.func24, Try.ntmps24
  go_wp2_with (first | (go_at_call 58; (with_reducible refine (within_any _ _ _ _).mono ?_); rintro e w' ⟨rfl, rfl⟩))
  go_loopw [0, 5, 21] (fun n out i wr => ∃ (k m : Nat), k ≤ 3 ∧ i = .int .i64 k ∧ n = .int .i64 m ∧ Hid (m = N / 256 ^ k) ∧ OwnB wr w.heap.size out (leBytes k N) ∧ From w.heap.size w wr) (fun _ _ i _ => 3 - (intOf i).toNat)
  case atStart => exact ⟨0, N, by omega, rfl, rfl, by show N = _; simp, World.ownsRow_lit w #[] 0 (Nat.le_refl _) (Nat.zero_le _) rfl, (From.start w).alloc _⟩
  case round =>
    obtain ⟨k, m, hk, rfl, rfl, hm, hown, F⟩ := hrel
    by_cases hlt : k < 3
    · have hm2 : (m : Int) ≤ 16777215 := by
        have : m ≤ N := by rw [hm.out]; exact Nat.div_le_self _ _
        omega
      have HO := Lib.hid hown
      have HF := Lib.hid F
      clear hown F
      have hlen : (leBytes k N).length ≤ 4 := by rw [leBytes_length]; omega
      go_wp2_with (at_builtin; refine wpList_append_src rfl _ _ 22 22 rfl w.heap.size 5 i0 (.int .u8 0) 1 1 Try.underlying22 hi hz0 hz1 hz2 rfl (by decide) _ _ _ rfl (HO.out.alloc _) _ 1 [_] rfl (src_new Try.underlying22 _ [_] 1 1 1 _ rfl ?c0) ?c1 ?c2 ?c3 ?_)
      case c0 => intro u hu; obtain rfl := List.mem_singleton.1 hu; rfl
      case c1 => unfold maxLen; omega
      case c2 => omega
      case c3 => have := HF.out.le; simp; omega
      intro v' w1 hown1 hgr1
      have F1 := (HF.out.alloc _).grown hgr1 (owns_block HO.out)
      have hown2 : OwnB w1 w.heap.size v' (leBytes (k + 1) N) := by
        rw [leBytes_snoc, ← hm.out]
        exact owns_snoc hown1 (by rw [UInt8.toNat_ofNat']; omega)
      have HO2 := Lib.hid hown2
      have HF2 := Lib.hid F1
      clear hown2 hown1 F1 hgr1 HO HF
      go_wp2_with fail
      go_roundw
      case rel => exact ⟨k + 1, m / 256, by omega, by go_num, by go_num, by
        show _ = _
        rw [hm.out, Nat.div_div_eq_div_mul, ← Nat.pow_succ], HO2.out, HF2.out⟩
      case measure => simp [intOf]; try omega
    · obtain rfl : k = 3 := by omega
      go_wp2_with fail
      go_ret
      exact ⟨_, rfl, hown, F.below⟩
set_option maxHeartbeats 1000000 in
theorem i_PutNumber_4 (w : World) (N : Nat) (hN : withinB (N : Int) 0 4294967295 = true) :
    Calls Try.prog 24 #[.int .i64 N, .int .i64 4] w (RetB w (leBytes 4 N)) := by
  have hW : withinB 4 1 4 = true := rfl
  have hN2 := ((withinB_iff _ _ _).1 hN).2
  obtain ⟨i0, hi, hz0, hz1, hz2⟩ := info_parts info_u8
  go_enter Try.func24, Try.ntmps24
  go_wp2_with (first | (go_at_call 58; (with_reducible refine (within_any _ _ _ _).mono ?_); rintro e w' ⟨rfl, rfl⟩))
  go_loopw [0, 5, 21] (fun n out i wr => ∃ (k m : Nat), k ≤ 4 ∧ i = .int .i64 k ∧ n = .int .i64 m ∧ Hid (m = N / 256 ^ k) ∧ OwnB wr w.heap.size out (leBytes k N) ∧ From w.heap.size w wr) (fun _ _ i _ => 4 - (intOf i).toNat)
  case atStart => exact ⟨0, N, by omega, rfl, rfl, by show N = _; simp, World.ownsRow_lit w #[] 0 (Nat.le_refl _) (Nat.zero_le _) rfl, (From.start w).alloc _⟩
  case round =>
    obtain ⟨k, m, hk, rfl, rfl, hm, hown, F⟩ := hrel
    by_cases hlt : k < 4
    · have hm2 : (m : Int) ≤ 4294967295 := by
        have : m ≤ N := by rw [hm.out]; exact Nat.div_le_self _ _
        omega
      have HO := Lib.hid hown
      have HF := Lib.hid F
      clear hown F
      have hlen : (leBytes k N).length ≤ 4 := by rw [leBytes_length]; omega
      go_wp2_with (at_builtin; refine wpList_append_src rfl _ _ 22 22 rfl w.heap.size 5 i0 (.int .u8 0) 1 1 Try.underlying22 hi hz0 hz1 hz2 rfl (by decide) _ _ _ rfl (HO.out.alloc _) _ 1 [_] rfl (src_new Try.underlying22 _ [_] 1 1 1 _ rfl ?c0) ?c1 ?c2 ?c3 ?_)
      case c0 => intro u hu; obtain rfl := List.mem_singleton.1 hu; rfl
      case c1 => unfold maxLen; omega
      case c2 => omega
      case c3 => have := HF.out.le; simp; omega
      intro v' w1 hown1 hgr1
      have F1 := (HF.out.alloc _).grown hgr1 (owns_block HO.out)
      have hown2 : OwnB w1 w.heap.size v' (leBytes (k + 1) N) := by
        rw [leBytes_snoc, ← hm.out]
        exact owns_snoc hown1 (by rw [UInt8.toNat_ofNat']; omega)
      have HO2 := Lib.hid hown2
      have HF2 := Lib.hid F1
      clear hown2 hown1 F1 hgr1 HO HF
      go_wp2_with fail
      go_roundw
      case rel => exact ⟨k + 1, m / 256, by omega, by go_num, by go_num, by
        show _ = _
        rw [hm.out, Nat.div_div_eq_div_mul, ← Nat.pow_succ], HO2.out, HF2.out⟩
      case measure => simp [intOf]; try omega
    · obtain rfl : k = 4 := by omega
      go_wp2_with fail
      go_ret
      exact ⟨_, rfl, hown, F.below⟩
theorem retB_nil (w : World) (w' : World) (v : Value) (hv : v = .slice none 0 0) (h : Below w.heap.size w w') : RetB w [] (.returned v) w' := ⟨v, rfl, by subst hv; exact World.ownsRow_nil _ _ _ _, h⟩
set_option maxHeartbeats 1000000 in
theorem i_PutNumber (w : World) (n wide : Int) :
    Calls Try.prog 24 #[.int .i64 n, .int .i64 wide] w (RetB w (putNum n wide)) := by
  cases hw : withinB wide 1 4
  · have E : putNum n wide = [] := by simp [putNum, numB, hw]
    rw [E]
    go_enter Try.func24, Try.ntmps24
    go_wp2_with (first | (go_at_call 58; (with_reducible refine (within_any _ _ _ _).mono ?_); rintro e w' ⟨rfl, rfl⟩))
    go_ret
    exact retB_nil _ _ _ rfl (Below.refl _ _)
  · rcases wide_four hw with rfl | rfl | rfl | rfl
    · cases hn : withinB n 0 255
      · have E : putNum n 1 = [] := by simp [putNum, numB, pow256, hn]
        rw [E]
        go_enter Try.func24, Try.ntmps24
        go_wp2_with (first | (go_at_call 58; (with_reducible refine (within_any _ _ _ _).mono ?_); rintro e w' ⟨rfl, rfl⟩))
        go_ret
        exact retB_nil _ _ _ rfl (Below.refl _ _)
      · obtain ⟨N, rfl⟩ := Int.eq_ofNat_of_zero_le ((withinB_iff _ _ _).1 hn).1
        have E : putNum (N : Int) 1 = leBytes 1 N := by simp [putNum, numB, pow256, hn, hw]
        rw [E]
        exact i_PutNumber_1 w N hn
    · cases hn : withinB n 0 65535
      · have E : putNum n 2 = [] := by simp [putNum, numB, pow256, hn]
        rw [E]
        go_enter Try.func24, Try.ntmps24
        go_wp2_with (first | (go_at_call 58; (with_reducible refine (within_any _ _ _ _).mono ?_); rintro e w' ⟨rfl, rfl⟩))
        go_ret
        exact retB_nil _ _ _ rfl (Below.refl _ _)
      · obtain ⟨N, rfl⟩ := Int.eq_ofNat_of_zero_le ((withinB_iff _ _ _).1 hn).1
        have E : putNum (N : Int) 2 = leBytes 2 N := by simp [putNum, numB, pow256, hn, hw]
        rw [E]
        exact i_PutNumber_2 w N hn
    · cases hn : withinB n 0 16777215
      · have E : putNum n 3 = [] := by simp [putNum, numB, pow256, hn]
        rw [E]
        go_enter Try.func24, Try.ntmps24
        go_wp2_with (first | (go_at_call 58; (with_reducible refine (within_any _ _ _ _).mono ?_); rintro e w' ⟨rfl, rfl⟩))
        go_ret
        exact retB_nil _ _ _ rfl (Below.refl _ _)
      · obtain ⟨N, rfl⟩ := Int.eq_ofNat_of_zero_le ((withinB_iff _ _ _).1 hn).1
        have E : putNum (N : Int) 3 = leBytes 3 N := by simp [putNum, numB, pow256, hn, hw]
        rw [E]
        exact i_PutNumber_3 w N hn
    · cases hn : withinB n 0 4294967295
      · have E : putNum n 4 = [] := by simp [putNum, numB, pow256, hn]
        rw [E]
        go_enter Try.func24, Try.ntmps24
        go_wp2_with (first | (go_at_call 58; (with_reducible refine (within_any _ _ _ _).mono ?_); rintro e w' ⟨rfl, rfl⟩))
        go_ret
        exact retB_nil _ _ _ rfl (Below.refl _ _)
      · obtain ⟨N, rfl⟩ := Int.eq_ofNat_of_zero_le ((withinB_iff _ _ _).1 hn).1
        have E : putNum (N : Int) 4 = leBytes 4 N := by simp [putNum, numB, pow256, hn, hw]
        rw [E]
        exact i_PutNumber_4 w N hn
set_option maxHeartbeats 1000000 in
theorem s_PutNumber_1 (w : World) (N : Nat) (hN : withinB (N : Int) 0 255 = true) :
    Calls Try.prog 31 #[.int .i64 N, .int .i64 1] w (RetB w (leBytes 1 N)) := by
  have hW : withinB 1 1 4 = true := rfl
  have hP : pow256 1 = 255 + 1 := rfl
  have hN2 := ((withinB_iff _ _ _).1 hN).2
  obtain ⟨i0, hi, hz0, hz1, hz2⟩ := info_parts info_u8
  go_enter Try.func31, Try.ntmps31
  go_wp2_with (first | (go_at_call 63; (with_reducible refine (l1In_any _ _ _ _).mono ?_); rintro e w' ⟨rfl, rfl⟩) | (go_at_call 64; (with_reducible refine (l1Power_any _ _ hW).mono ?_); rintro e w' ⟨rfl, rfl⟩))
  go_loopw [0, 5, 6] (fun n out i wr => ∃ (k m : Nat), k ≤ 1 ∧ i = .int .i64 k ∧ n = .int .i64 m ∧ Hid (m = N / 256 ^ k) ∧ OwnB wr w.heap.size out (leBytes k N) ∧ From w.heap.size w wr) (fun _ _ i _ => 1 - (intOf i).toNat)
  case atStart => exact ⟨0, N, by omega, rfl, rfl, by show N = _; simp, World.ownsRow_lit w #[] 0 (Nat.le_refl _) (Nat.zero_le _) rfl, (From.start w).alloc _⟩
  case round =>
    obtain ⟨k, m, hk, rfl, rfl, hm, hown, F⟩ := hrel
    by_cases hlt : k < 1
    · have hm2 : (m : Int) ≤ 255 := by
        have : m ≤ N := by rw [hm.out]; exact Nat.div_le_self _ _
        omega
      have HO := Lib.hid hown
      have HF := Lib.hid F
      clear hown F
      have hlen : (leBytes k N).length ≤ 4 := by rw [leBytes_length]; omega
      go_wp2_with (at_builtin; refine wpList_append_src rfl _ _ 22 22 rfl w.heap.size 5 i0 (.int .u8 0) 1 1 Try.underlying22 hi hz0 hz1 hz2 rfl (by decide) _ _ _ rfl (HO.out.alloc _) _ 1 [_] rfl (src_new Try.underlying22 _ [_] 1 1 1 _ rfl ?c0) ?c1 ?c2 ?c3 ?_)
      case c0 => intro u hu; obtain rfl := List.mem_singleton.1 hu; rfl
      case c1 => unfold maxLen; omega
      case c2 => omega
      case c3 => have := HF.out.le; simp; omega
      intro v' w1 hown1 hgr1
      have F1 := (HF.out.alloc _).grown hgr1 (owns_block HO.out)
      have hown2 : OwnB w1 w.heap.size v' (leBytes (k + 1) N) := by
        rw [leBytes_snoc, ← hm.out]
        exact owns_snoc hown1 (by rw [UInt8.toNat_ofNat']; omega)
      have HO2 := Lib.hid hown2
      have HF2 := Lib.hid F1
      clear hown2 hown1 F1 hgr1 HO HF
      go_wp2_with fail
      go_roundw
      case rel => exact ⟨k + 1, m / 256, by omega, by go_num, by go_num, by
        show _ = _
        rw [hm.out, Nat.div_div_eq_div_mul, ← Nat.pow_succ], HO2.out, HF2.out⟩
      case measure => simp [intOf]; try omega
    · obtain rfl : k = 1 := by omega
      go_wp2_with fail
      go_ret
      exact ⟨_, rfl, hown, F.below⟩
set_option maxHeartbeats 1000000 in
theorem s_PutNumber_2 (w : World) (N : Nat) (hN : withinB (N : Int) 0 65535 = true) :
    Calls Try.prog 31 #[.int .i64 N, .int .i64 2] w (RetB w (leBytes 2 N)) := by
  have hW : withinB 2 1 4 = true := rfl
  have hP : pow256 2 = 65535 + 1 := rfl
  have hN2 := ((withinB_iff _ _ _).1 hN).2
  obtain ⟨i0, hi, hz0, hz1, hz2⟩ := info_parts info_u8
  go_enter Try.func31, Try.ntmps31
  go_wp2_with (first | (go_at_call 63; (with_reducible refine (l1In_any _ _ _ _).mono ?_); rintro e w' ⟨rfl, rfl⟩) | (go_at_call 64; (with_reducible refine (l1Power_any _ _ hW).mono ?_); rintro e w' ⟨rfl, rfl⟩))
  go_loopw [0, 5, 6] (fun n out i wr => ∃ (k m : Nat), k ≤ 2 ∧ i = .int .i64 k ∧ n = .int .i64 m ∧ Hid (m = N / 256 ^ k) ∧ OwnB wr w.heap.size out (leBytes k N) ∧ From w.heap.size w wr) (fun _ _ i _ => 2 - (intOf i).toNat)
  case atStart => exact ⟨0, N, by omega, rfl, rfl, by show N = _; simp, World.ownsRow_lit w #[] 0 (Nat.le_refl _) (Nat.zero_le _) rfl, (From.start w).alloc _⟩
  case round =>
    obtain ⟨k, m, hk, rfl, rfl, hm, hown, F⟩ := hrel
    by_cases hlt : k < 2
    · have hm2 : (m : Int) ≤ 65535 := by
        have : m ≤ N := by rw [hm.out]; exact Nat.div_le_self _ _
        omega
      have HO := Lib.hid hown
      have HF := Lib.hid F
      clear hown F
      have hlen : (leBytes k N).length ≤ 4 := by rw [leBytes_length]; omega
      go_wp2_with (at_builtin; refine wpList_append_src rfl _ _ 22 22 rfl w.heap.size 5 i0 (.int .u8 0) 1 1 Try.underlying22 hi hz0 hz1 hz2 rfl (by decide) _ _ _ rfl (HO.out.alloc _) _ 1 [_] rfl (src_new Try.underlying22 _ [_] 1 1 1 _ rfl ?c0) ?c1 ?c2 ?c3 ?_)
      case c0 => intro u hu; obtain rfl := List.mem_singleton.1 hu; rfl
      case c1 => unfold maxLen; omega
      case c2 => omega
      case c3 => have := HF.out.le; simp; omega
      intro v' w1 hown1 hgr1
      have F1 := (HF.out.alloc _).grown hgr1 (owns_block HO.out)
      have hown2 : OwnB w1 w.heap.size v' (leBytes (k + 1) N) := by
        rw [leBytes_snoc, ← hm.out]
        exact owns_snoc hown1 (by rw [UInt8.toNat_ofNat']; omega)
      have HO2 := Lib.hid hown2
      have HF2 := Lib.hid F1
      clear hown2 hown1 F1 hgr1 HO HF
      go_wp2_with fail
      go_roundw
      case rel => exact ⟨k + 1, m / 256, by omega, by go_num, by go_num, by
        show _ = _
        rw [hm.out, Nat.div_div_eq_div_mul, ← Nat.pow_succ], HO2.out, HF2.out⟩
      case measure => simp [intOf]; try omega
    · obtain rfl : k = 2 := by omega
      go_wp2_with fail
      go_ret
      exact ⟨_, rfl, hown, F.below⟩
set_option maxHeartbeats 1000000 in
theorem s_PutNumber_3 (w : World) (N : Nat) (hN : withinB (N : Int) 0 16777215 = true) :
    Calls Try.prog 31 #[.int .i64 N, .int .i64 3] w (RetB w (leBytes 3 N)) := by
  have hW : withinB 3 1 4 = true := rfl
  have hP : pow256 3 = 16777215 + 1 := rfl
  have hN2 := ((withinB_iff _ _ _).1 hN).2
  obtain ⟨i0, hi, hz0, hz1, hz2⟩ := info_parts info_u8
  go_enter Try.func31, Try.ntmps31
  go_wp2_with (first | (go_at_call 63; (with_reducible refine (l1In_any _ _ _ _).mono ?_); rintro e w' ⟨rfl, rfl⟩) | (go_at_call 64; (with_reducible refine (l1Power_any _ _ hW).mono ?_); rintro e w' ⟨rfl, rfl⟩))
  go_loopw [0, 5, 6] (fun n out i wr => ∃ (k m : Nat), k ≤ 3 ∧ i = .int .i64 k ∧ n = .int .i64 m ∧ Hid (m = N / 256 ^ k) ∧ OwnB wr w.heap.size out (leBytes k N) ∧ From w.heap.size w wr) (fun _ _ i _ => 3 - (intOf i).toNat)
  case atStart => exact ⟨0, N, by omega, rfl, rfl, by show N = _; simp, World.ownsRow_lit w #[] 0 (Nat.le_refl _) (Nat.zero_le _) rfl, (From.start w).alloc _⟩
  case round =>
    obtain ⟨k, m, hk, rfl, rfl, hm, hown, F⟩ := hrel
    by_cases hlt : k < 3
    · have hm2 : (m : Int) ≤ 16777215 := by
        have : m ≤ N := by rw [hm.out]; exact Nat.div_le_self _ _
        omega
      have HO := Lib.hid hown
      have HF := Lib.hid F
      clear hown F
      have hlen : (leBytes k N).length ≤ 4 := by rw [leBytes_length]; omega
      go_wp2_with (at_builtin; refine wpList_append_src rfl _ _ 22 22 rfl w.heap.size 5 i0 (.int .u8 0) 1 1 Try.underlying22 hi hz0 hz1 hz2 rfl (by decide) _ _ _ rfl (HO.out.alloc _) _ 1 [_] rfl (src_new Try.underlying22 _ [_] 1 1 1 _ rfl ?c0) ?c1 ?c2 ?c3 ?_)
      case c0 => intro u hu; obtain rfl := List.mem_singleton.1 hu; rfl
      case c1 => unfold maxLen; omega
      case c2 => omega
      case c3 => have := HF.out.le; simp; omega
      intro v' w1 hown1 hgr1
      have F1 := (HF.out.alloc _).grown hgr1 (owns_block HO.out)
      have hown2 : OwnB w1 w.heap.size v' (leBytes (k + 1) N) := by
        rw [leBytes_snoc, ← hm.out]
        exact owns_snoc hown1 (by rw [UInt8.toNat_ofNat']; omega)
      have HO2 := Lib.hid hown2
      have HF2 := Lib.hid F1
      clear hown2 hown1 F1 hgr1 HO HF
      go_wp2_with fail
      go_roundw
      case rel => exact ⟨k + 1, m / 256, by omega, by go_num, by go_num, by
        show _ = _
        rw [hm.out, Nat.div_div_eq_div_mul, ← Nat.pow_succ], HO2.out, HF2.out⟩
      case measure => simp [intOf]; try omega
    · obtain rfl : k = 3 := by omega
      go_wp2_with fail
      go_ret
      exact ⟨_, rfl, hown, F.below⟩
set_option maxHeartbeats 1000000 in
theorem s_PutNumber_4 (w : World) (N : Nat) (hN : withinB (N : Int) 0 4294967295 = true) :
    Calls Try.prog 31 #[.int .i64 N, .int .i64 4] w (RetB w (leBytes 4 N)) := by
  have hW : withinB 4 1 4 = true := rfl
  have hP : pow256 4 = 4294967295 + 1 := rfl
  have hN2 := ((withinB_iff _ _ _).1 hN).2
  obtain ⟨i0, hi, hz0, hz1, hz2⟩ := info_parts info_u8
  go_enter Try.func31, Try.ntmps31
  go_wp2_with (first | (go_at_call 63; (with_reducible refine (l1In_any _ _ _ _).mono ?_); rintro e w' ⟨rfl, rfl⟩) | (go_at_call 64; (with_reducible refine (l1Power_any _ _ hW).mono ?_); rintro e w' ⟨rfl, rfl⟩))
  go_loopw [0, 5, 6] (fun n out i wr => ∃ (k m : Nat), k ≤ 4 ∧ i = .int .i64 k ∧ n = .int .i64 m ∧ Hid (m = N / 256 ^ k) ∧ OwnB wr w.heap.size out (leBytes k N) ∧ From w.heap.size w wr) (fun _ _ i _ => 4 - (intOf i).toNat)
  case atStart => exact ⟨0, N, by omega, rfl, rfl, by show N = _; simp, World.ownsRow_lit w #[] 0 (Nat.le_refl _) (Nat.zero_le _) rfl, (From.start w).alloc _⟩
  case round =>
    obtain ⟨k, m, hk, rfl, rfl, hm, hown, F⟩ := hrel
    by_cases hlt : k < 4
    · have hm2 : (m : Int) ≤ 4294967295 := by
        have : m ≤ N := by rw [hm.out]; exact Nat.div_le_self _ _
        omega
      have HO := Lib.hid hown
      have HF := Lib.hid F
      clear hown F
      have hlen : (leBytes k N).length ≤ 4 := by rw [leBytes_length]; omega
      go_wp2_with (at_builtin; refine wpList_append_src rfl _ _ 22 22 rfl w.heap.size 5 i0 (.int .u8 0) 1 1 Try.underlying22 hi hz0 hz1 hz2 rfl (by decide) _ _ _ rfl (HO.out.alloc _) _ 1 [_] rfl (src_new Try.underlying22 _ [_] 1 1 1 _ rfl ?c0) ?c1 ?c2 ?c3 ?_)
      case c0 => intro u hu; obtain rfl := List.mem_singleton.1 hu; rfl
      case c1 => unfold maxLen; omega
      case c2 => omega
      case c3 => have := HF.out.le; simp; omega
      intro v' w1 hown1 hgr1
      have F1 := (HF.out.alloc _).grown hgr1 (owns_block HO.out)
      have hown2 : OwnB w1 w.heap.size v' (leBytes (k + 1) N) := by
        rw [leBytes_snoc, ← hm.out]
        exact owns_snoc hown1 (by rw [UInt8.toNat_ofNat']; omega)
      have HO2 := Lib.hid hown2
      have HF2 := Lib.hid F1
      clear hown2 hown1 F1 hgr1 HO HF
      go_wp2_with fail
      go_roundw
      case rel => exact ⟨k + 1, m / 256, by omega, by go_num, by go_num, by
        show _ = _
        rw [hm.out, Nat.div_div_eq_div_mul, ← Nat.pow_succ], HO2.out, HF2.out⟩
      case measure => simp [intOf]; try omega
    · obtain rfl : k = 4 := by omega
      go_wp2_with fail
      go_ret
      exact ⟨_, rfl, hown, F.below⟩
theorem retB_empty (w : World) : RetB w [] (.returned (.slice (some ⟨w.heap.size, 0, none⟩) 0 0)) (w.alloc (.cells #[] 5)) := ⟨_, rfl, World.ownsRow_lit w #[] 0 (Nat.le_refl _) (Nat.zero_le _) rfl, ((From.start w).alloc _).below⟩
set_option maxHeartbeats 1000000 in
theorem s_PutNumber (w : World) (n wide : Int) :
    Calls Try.prog 31 #[.int .i64 n, .int .i64 wide] w (RetB w (putNum n wide)) := by
  cases hw : withinB wide 1 4
  · have E : putNum n wide = [] := by simp [putNum, numB, hw]
    rw [E]
    go_enter Try.func31, Try.ntmps31
    go_wp2_with (first | (go_at_call 63; (with_reducible refine (l1In_any _ _ _ _).mono ?_); rintro e w' ⟨rfl, rfl⟩))
    go_ret
    exact retB_empty w
  · rcases wide_four hw with rfl | rfl | rfl | rfl
    · have hP : pow256 1 = 255 + 1 := rfl
      cases hn : withinB n 0 255
      · have E : putNum n 1 = [] := by simp [putNum, numB, pow256, hn]
        rw [E]
        go_enter Try.func31, Try.ntmps31
        go_wp2_with (first | (go_at_call 63; (with_reducible refine (l1In_any _ _ _ _).mono ?_); rintro e w' ⟨rfl, rfl⟩) | (go_at_call 64; (with_reducible refine (l1Power_any _ _ hw).mono ?_); rintro e w' ⟨rfl, rfl⟩))
        go_ret
        exact retB_empty w
      · obtain ⟨N, rfl⟩ := Int.eq_ofNat_of_zero_le ((withinB_iff _ _ _).1 hn).1
        have E : putNum (N : Int) 1 = leBytes 1 N := by simp [putNum, numB, pow256, hn, hw]
        rw [E]
        exact s_PutNumber_1 w N hn
    · have hP : pow256 2 = 65535 + 1 := rfl
      cases hn : withinB n 0 65535
      · have E : putNum n 2 = [] := by simp [putNum, numB, pow256, hn]
        rw [E]
        go_enter Try.func31, Try.ntmps31
        go_wp2_with (first | (go_at_call 63; (with_reducible refine (l1In_any _ _ _ _).mono ?_); rintro e w' ⟨rfl, rfl⟩) | (go_at_call 64; (with_reducible refine (l1Power_any _ _ hw).mono ?_); rintro e w' ⟨rfl, rfl⟩))
        go_ret
        exact retB_empty w
      · obtain ⟨N, rfl⟩ := Int.eq_ofNat_of_zero_le ((withinB_iff _ _ _).1 hn).1
        have E : putNum (N : Int) 2 = leBytes 2 N := by simp [putNum, numB, pow256, hn, hw]
        rw [E]
        exact s_PutNumber_2 w N hn
    · have hP : pow256 3 = 16777215 + 1 := rfl
      cases hn : withinB n 0 16777215
      · have E : putNum n 3 = [] := by simp [putNum, numB, pow256, hn]
        rw [E]
        go_enter Try.func31, Try.ntmps31
        go_wp2_with (first | (go_at_call 63; (with_reducible refine (l1In_any _ _ _ _).mono ?_); rintro e w' ⟨rfl, rfl⟩) | (go_at_call 64; (with_reducible refine (l1Power_any _ _ hw).mono ?_); rintro e w' ⟨rfl, rfl⟩))
        go_ret
        exact retB_empty w
      · obtain ⟨N, rfl⟩ := Int.eq_ofNat_of_zero_le ((withinB_iff _ _ _).1 hn).1
        have E : putNum (N : Int) 3 = leBytes 3 N := by simp [putNum, numB, pow256, hn, hw]
        rw [E]
        exact s_PutNumber_3 w N hn
    · have hP : pow256 4 = 4294967295 + 1 := rfl
      cases hn : withinB n 0 4294967295
      · have E : putNum n 4 = [] := by simp [putNum, numB, pow256, hn]
        rw [E]
        go_enter Try.func31, Try.ntmps31
        go_wp2_with (first | (go_at_call 63; (with_reducible refine (l1In_any _ _ _ _).mono ?_); rintro e w' ⟨rfl, rfl⟩) | (go_at_call 64; (with_reducible refine (l1Power_any _ _ hw).mono ?_); rintro e w' ⟨rfl, rfl⟩))
        go_ret
        exact retB_empty w
      · obtain ⟨N, rfl⟩ := Int.eq_ofNat_of_zero_le ((withinB_iff _ _ _).1 hn).1
        have E : putNum (N : Int) 4 = leBytes 4 N := by simp [putNum, numB, pow256, hn, hw]
        rw [E]
        exact s_PutNumber_4 w N hn
/-! Name -/
open Go.ChangeShapes Go.WideShapes Go.ChangeAt Go.RowKit Go.Joins
set_option linter.unusedSimpArgs false
set_option linter.unusedVariables false
set_option maxRecDepth 100000

def letterB (c : UInt8) : Bool := (decide (97 ≤ c.toNat) && decide (c.toNat ≤ 122)) || decide (c.toNat = 95) || decide (c.toNat = 46)
def digitB (c : UInt8) : Bool := decide (48 ≤ c.toNat) && decide (c.toNat ≤ 57)
/-- Whether a byte can stand at a place of a name. -/
def charB (k : Nat) (c : UInt8) : Bool := letterB c || (decide (0 < k) && digitB c)
/-- Whether a text is a name. -/
def nameB (s : ByteArray) : Bool := decide (∀ i, (h : i < s.size) → charB i s[i] = true) && withinB s.size 1 8

theorem char_cases (k : Nat) (c : UInt8) :
    (97 ≤ (c.toNat : Int) ∧ (c.toNat : Int) ≤ 122 ∧ Hid (charB k c = true)) ∨
    (¬ 97 ≤ (c.toNat : Int) ∧ ((c.toNat : Int) == 95) = true ∧ Hid (charB k c = true)) ∨
    (¬ 97 ≤ (c.toNat : Int) ∧ ((c.toNat : Int) == 95) = false ∧ ((c.toNat : Int) == 46) = true ∧ Hid (charB k c = true)) ∨
    (¬ 97 ≤ (c.toNat : Int) ∧ ((c.toNat : Int) == 95) = false ∧ ((c.toNat : Int) == 46) = false ∧ 48 ≤ (c.toNat : Int) ∧ (c.toNat : Int) ≤ 57 ∧ ¬ (c.toNat : Int) < 48 ∧ ¬ 57 < (c.toNat : Int) ∧ 0 < k ∧ ((k : Int) == 0) = false ∧ Hid (charB k c = true)) ∨
    (¬ 97 ≤ (c.toNat : Int) ∧ ((c.toNat : Int) == 95) = false ∧ ((c.toNat : Int) == 46) = false ∧ 48 ≤ (c.toNat : Int) ∧ (c.toNat : Int) ≤ 57 ∧ ¬ (c.toNat : Int) < 48 ∧ ¬ 57 < (c.toNat : Int) ∧ ¬ 0 < k ∧ ((k : Int) == 0) = true ∧ Hid (charB k c = false)) ∨
    (97 ≤ (c.toNat : Int) ∧ ¬ (c.toNat : Int) ≤ 122 ∧ ((c.toNat : Int) == 95) = false ∧ ((c.toNat : Int) == 46) = false ∧ 48 ≤ (c.toNat : Int) ∧ ¬ (c.toNat : Int) ≤ 57 ∧ ¬ (c.toNat : Int) < 48 ∧ 57 < (c.toNat : Int) ∧ Hid (charB k c = false)) ∨
    (¬ 97 ≤ (c.toNat : Int) ∧ ((c.toNat : Int) == 95) = false ∧ ((c.toNat : Int) == 46) = false ∧ ¬ 48 ≤ (c.toNat : Int) ∧ (c.toNat : Int) < 48 ∧ Hid (charB k c = false)) ∨
    (¬ 97 ≤ (c.toNat : Int) ∧ ((c.toNat : Int) == 95) = false ∧ ((c.toNat : Int) == 46) = false ∧ 48 ≤ (c.toNat : Int) ∧ ¬ (c.toNat : Int) ≤ 57 ∧ ¬ (c.toNat : Int) < 48 ∧ 57 < (c.toNat : Int) ∧ Hid (charB k c = false)) := by
  have D : (97 ≤ c.toNat ∧ c.toNat ≤ 122) ∨ c.toNat = 95 ∨ c.toNat = 46 ∨ (48 ≤ c.toNat ∧ c.toNat ≤ 57 ∧ 0 < k) ∨ (48 ≤ c.toNat ∧ c.toNat ≤ 57 ∧ ¬ 0 < k) ∨ 122 < c.toNat ∨ (c.toNat < 48 ∧ c.toNat ≠ 46) ∨ (57 < c.toNat ∧ c.toNat < 97 ∧ c.toNat ≠ 95) := by omega
  unfold Hid charB letterB digitB
  generalize c.toNat = n at D ⊢
  rcases D with h | h | h | h | h | h | h | h
  · refine Or.inl ⟨?_, ?_, ?_⟩ <;> first
      | omega
      | (simp only [beq_iff_eq, beq_eq_false_iff_ne, ne_eq]; omega)
      | (simp only [Bool.or_eq_true, Bool.and_eq_true, decide_eq_true_eq]; omega)
      | (simp only [Bool.or_eq_false_iff, Bool.and_eq_false_iff, decide_eq_false_iff_not]; omega)
  · refine Or.inr (Or.inl ⟨?_, ?_, ?_⟩) <;> first
      | omega
      | (simp only [beq_iff_eq, beq_eq_false_iff_ne, ne_eq]; omega)
      | (simp only [Bool.or_eq_true, Bool.and_eq_true, decide_eq_true_eq]; omega)
      | (simp only [Bool.or_eq_false_iff, Bool.and_eq_false_iff, decide_eq_false_iff_not]; omega)
  · refine Or.inr (Or.inr (Or.inl ⟨?_, ?_, ?_, ?_⟩)) <;> first
      | omega
      | (simp only [beq_iff_eq, beq_eq_false_iff_ne, ne_eq]; omega)
      | (simp only [Bool.or_eq_true, Bool.and_eq_true, decide_eq_true_eq]; omega)
      | (simp only [Bool.or_eq_false_iff, Bool.and_eq_false_iff, decide_eq_false_iff_not]; omega)
  · refine Or.inr (Or.inr (Or.inr (Or.inl ⟨?_, ?_, ?_, ?_, ?_, ?_, ?_, ?_, ?_, ?_⟩))) <;> first
      | omega
      | (simp only [beq_iff_eq, beq_eq_false_iff_ne, ne_eq]; omega)
      | (simp only [Bool.or_eq_true, Bool.and_eq_true, decide_eq_true_eq]; omega)
      | (simp only [Bool.or_eq_false_iff, Bool.and_eq_false_iff, decide_eq_false_iff_not]; omega)
  · refine Or.inr (Or.inr (Or.inr (Or.inr (Or.inl ⟨?_, ?_, ?_, ?_, ?_, ?_, ?_, ?_, ?_, ?_⟩)))) <;> first
      | omega
      | (simp only [beq_iff_eq, beq_eq_false_iff_ne, ne_eq]; omega)
      | (simp only [Bool.or_eq_true, Bool.and_eq_true, decide_eq_true_eq]; omega)
      | (simp only [Bool.or_eq_false_iff, Bool.and_eq_false_iff, decide_eq_false_iff_not]; omega)
  · refine Or.inr (Or.inr (Or.inr (Or.inr (Or.inr (Or.inl ⟨?_, ?_, ?_, ?_, ?_, ?_, ?_, ?_, ?_⟩))))) <;> first
      | omega
      | (simp only [beq_iff_eq, beq_eq_false_iff_ne, ne_eq]; omega)
      | (simp only [Bool.or_eq_true, Bool.and_eq_true, decide_eq_true_eq]; omega)
      | (simp only [Bool.or_eq_false_iff, Bool.and_eq_false_iff, decide_eq_false_iff_not]; omega)
  · refine Or.inr (Or.inr (Or.inr (Or.inr (Or.inr (Or.inr (Or.inl ⟨?_, ?_, ?_, ?_, ?_, ?_⟩)))))) <;> first
      | omega
      | (simp only [beq_iff_eq, beq_eq_false_iff_ne, ne_eq]; omega)
      | (simp only [Bool.or_eq_true, Bool.and_eq_true, decide_eq_true_eq]; omega)
      | (simp only [Bool.or_eq_false_iff, Bool.and_eq_false_iff, decide_eq_false_iff_not]; omega)
  · refine Or.inr (Or.inr (Or.inr (Or.inr (Or.inr (Or.inr (Or.inr (⟨?_, ?_, ?_, ?_, ?_, ?_, ?_, ?_⟩))))))) <;> first
      | omega
      | (simp only [beq_iff_eq, beq_eq_false_iff_ne, ne_eq]; omega)
      | (simp only [Bool.or_eq_true, Bool.and_eq_true, decide_eq_true_eq]; omega)
      | (simp only [Bool.or_eq_false_iff, Bool.and_eq_false_iff, decide_eq_false_iff_not]; omega)

theorem nameB_bad {s : ByteArray} {k : Nat} (hk : k < s.size) (h : charB k s[k] = false) : nameB s = false := by
  unfold nameB
  have : decide (∀ i, (h : i < s.size) → charB i s[i] = true) = false := by
    simp only [decide_eq_false_iff_not]
    intro hall
    have := hall k hk
    rw [h] at this; cases this
  rw [this]; rfl
theorem nameB_all {s : ByteArray} (h : ∀ i, (h : i < s.size) → charB i s[i] = true) : nameB s = withinB s.size 1 8 := by
  unfold nameB; simp [h]

theorem ret_bool {a b : Bool} (h : a = b) : Ending.returned (.bool a) = .returned (.bool b) := by rw [h]

set_option maxHeartbeats 4000000 in
theorem s_NameValid (s : ByteArray) (hs : s.size ≤ maxLen) (w : World) :
    Calls Try.prog 59 #[.string s] w fun e w' => e = .returned (.bool (nameB s)) ∧ w = w' := by
  unfold maxLen at hs
  go_enter Try.func59, Try.ntmps59
  go_wp2_with fail
  go_loop [3] (fun i => ∃ k : Nat, k ≤ s.size ∧ i = .int .i64 k ∧ Hid (∀ j, (h : j < s.size) → j < k → charB j s[j] = true)) (fun i => s.size - (intOf i).toNat)
  case atStart => exact ⟨0, Nat.zero_le _, rfl, fun j _ h => absurd h (Nat.not_lt_zero _)⟩
  case round =>
    obtain ⟨k, hk, rfl, hall⟩ := hrel
    by_cases hlt : k < s.size
    · rcases char_cases k s[k] with ⟨g0, g1, H⟩ | ⟨g0, g1, H⟩ | ⟨g0, g1, g2, H⟩ | ⟨g0, g1, g2, g3, g4, g5, g6, g7, g8, H⟩ | ⟨g0, g1, g2, g3, g4, g5, g6, g7, g8, H⟩ | ⟨g0, g1, g2, g3, g4, g5, g6, g7, H⟩ | ⟨g0, g1, g2, g3, g4, H⟩ | ⟨g0, g1, g2, g3, g4, g5, g6, H⟩
      all_goals
        go_wp2_with fail
        all_goals first
          | (exfalso; omega)
          | (go_round
             case rel => exact ⟨k + 1, by omega, by go_num, fun j hj hj' => by
               rcases Nat.lt_succ_iff_lt_or_eq.1 hj' with h | rfl
               · exact hall.out j hj h
               · exact H.out⟩
             case measure => simp [intOf]; omega)
          | (go_ret
             exact ⟨ret_bool (nameB_bad hlt H.out).symm, rfl⟩)
    · have E : Hid (nameB s = withinB s.size 1 8) := nameB_all fun j hj => hall.out j hj (by omega)
      go_wp2_with (first | (go_at_call 63; (with_reducible refine (l1In_any _ _ _ _).mono ?_); rintro e w' ⟨rfl, rfl⟩))
      go_ret
      exact ⟨by rw [E.out]; rfl, rfl⟩
set_option maxHeartbeats 4000000 in
theorem i_NameValid (s : ByteArray) (hs : s.size ≤ maxLen) (w : World) :
    Calls Try.prog 80 #[.string s] w fun e w' => e = .returned (.bool (nameB s)) ∧ w = w' := by
  unfold maxLen at hs
  go_enter Try.func80, Try.ntmps80
  go_wp2_with fail
  go_loop [6] (fun i => ∃ k : Nat, k ≤ s.size ∧ i = .int .i64 k ∧ Hid (∀ j, (h : j < s.size) → j < k → charB j s[j] = true)) (fun i => s.size - (intOf i).toNat)
  case atStart => exact ⟨0, Nat.zero_le _, rfl, fun j _ h => absurd h (Nat.not_lt_zero _)⟩
  case round =>
    obtain ⟨k, hk, rfl, hall⟩ := hrel
    by_cases hlt : k < s.size
    · rcases char_cases k s[k] with ⟨g0, g1, H⟩ | ⟨g0, g1, H⟩ | ⟨g0, g1, g2, H⟩ | ⟨g0, g1, g2, g3, g4, g5, g6, g7, g8, H⟩ | ⟨g0, g1, g2, g3, g4, g5, g6, g7, g8, H⟩ | ⟨g0, g1, g2, g3, g4, g5, g6, g7, H⟩ | ⟨g0, g1, g2, g3, g4, H⟩ | ⟨g0, g1, g2, g3, g4, g5, g6, H⟩
      all_goals
        go_wp2_with fail
        all_goals first
          | (exfalso; omega)
          | (go_round
             case rel => exact ⟨k + 1, by omega, by go_num, fun j hj hj' => by
               rcases Nat.lt_succ_iff_lt_or_eq.1 hj' with h | rfl
               · exact hall.out j hj h
               · exact H.out⟩
             case measure => simp [intOf]; omega)
          | (go_ret
             exact ⟨ret_bool (nameB_bad hlt H.out).symm, rfl⟩)
    · have E : Hid (nameB s = withinB s.size 1 8) := nameB_all fun j hj => hall.out j hj (by omega)
      go_wp2_with (first | (go_at_call 58; (with_reducible refine (within_any _ _ _ _).mono ?_); rintro e w' ⟨rfl, rfl⟩))
      go_ret
      exact ⟨by rw [E.out]; rfl, rfl⟩
/-! Head -/
open Go.ChangeShapes Go.WideShapes Go.ChangeAt Go.RowKit Go.Joins
set_option linter.unusedSimpArgs false
set_option linter.unusedVariables false
set_option maxRecDepth 100000

/-- Whether a header is valid. -/
def headerB (a b c d : Int) : Bool := withinB a 0 8 && withinB b 0 12 && withinB c 0 48 && withinB d 1 400
/-- The value of a header. -/
@[reducible] def headerV (a b c d : Int) : Value := .agg #[.int .i64 a, .int .i64 b, .int .i64 c, .int .i64 d]

set_option maxHeartbeats 800000 in
theorem i_HeaderValid (a b c d : Int) (w : World) :
    Calls Try.prog 57 #[headerV a b c d] w fun e w' => e = .returned (.bool (headerB a b c d)) ∧ Below w.heap.size w w' := by
  cases h1 : withinB a 0 8
  · go_enter Try.func57, Try.ntmps57
    go_wp2_with (first | (go_at_call 58; (with_reducible refine (within_any _ _ _ _).mono ?_); rintro e w' ⟨rfl, rfl⟩))
    go_ret
    exact ⟨by simp [headerB, h1], (Below.refl _ _).alloc (Nat.le_refl _) _⟩
  cases h2 : withinB b 0 12
  · go_enter Try.func57, Try.ntmps57
    go_wp2_with (first | (go_at_call 58; (with_reducible refine (within_any _ _ _ _).mono ?_); rintro e w' ⟨rfl, rfl⟩))
    go_ret
    exact ⟨by simp [headerB, h1, h2], (Below.refl _ _).alloc (Nat.le_refl _) _⟩
  cases h3 : withinB c 0 48
  · go_enter Try.func57, Try.ntmps57
    go_wp2_with (first | (go_at_call 58; (with_reducible refine (within_any _ _ _ _).mono ?_); rintro e w' ⟨rfl, rfl⟩))
    go_ret
    exact ⟨by simp [headerB, h1, h2, h3], (Below.refl _ _).alloc (Nat.le_refl _) _⟩
  · go_enter Try.func57, Try.ntmps57
    go_wp2_with (first | (go_at_call 58; (with_reducible refine (within_any _ _ _ _).mono ?_); rintro e w' ⟨rfl, rfl⟩))
    go_ret
    exact ⟨by simp [headerB, h1, h2, h3], (Below.refl _ _).alloc (Nat.le_refl _) _⟩
set_option maxHeartbeats 800000 in
theorem s_HeaderValid (a b c d : Int) (w : World) :
    Calls Try.prog 62 #[headerV a b c d] w fun e w' => e = .returned (.bool (headerB a b c d)) ∧ Below w.heap.size w w' := by
  cases h1 : withinB a 0 8
  · go_enter Try.func62, Try.ntmps62
    go_wp2_with (first | (go_at_call 63; (with_reducible refine (l1In_any _ _ _ _).mono ?_); rintro e w' ⟨rfl, rfl⟩))
    go_ret
    exact ⟨by simp [headerB, h1], (Below.refl _ _).alloc (Nat.le_refl _) _⟩
  cases h2 : withinB b 0 12
  · go_enter Try.func62, Try.ntmps62
    go_wp2_with (first | (go_at_call 63; (with_reducible refine (l1In_any _ _ _ _).mono ?_); rintro e w' ⟨rfl, rfl⟩))
    go_ret
    exact ⟨by simp [headerB, h1, h2], (Below.refl _ _).alloc (Nat.le_refl _) _⟩
  cases h3 : withinB c 0 48
  · go_enter Try.func62, Try.ntmps62
    go_wp2_with (first | (go_at_call 63; (with_reducible refine (l1In_any _ _ _ _).mono ?_); rintro e w' ⟨rfl, rfl⟩))
    go_ret
    exact ⟨by simp [headerB, h1, h2, h3], (Below.refl _ _).alloc (Nat.le_refl _) _⟩
  · go_enter Try.func62, Try.ntmps62
    go_wp2_with (first | (go_at_call 63; (with_reducible refine (l1In_any _ _ _ _).mono ?_); rintro e w' ⟨rfl, rfl⟩))
    go_ret
    exact ⟨by simp [headerB, h1, h2, h3], (Below.refl _ _).alloc (Nat.le_refl _) _⟩

/-- How many bytes a fixup of a kind fills. -/
def fixupWide (k : Int) : Int := if k = 1 then 1 else if k = 2 then 2 else if k = 3 then 4 else 0
set_option maxHeartbeats 400000 in
theorem fixupWide_any (k : Int) (w : World) :
    Calls Try.prog 81 #[.int .i64 k] w fun e w' => e = .returned (.int .i64 (fixupWide k)) ∧ w = w' := by
  by_cases h1 : k = 1
  · subst h1
    go_enter Try.func81, Try.ntmps81
    go_wp2
    go_ret
    exact ⟨rfl, rfl⟩
  by_cases h2 : k = 2
  · subst h2
    go_enter Try.func81, Try.ntmps81
    go_wp2
    go_ret
    exact ⟨rfl, rfl⟩
  by_cases h3 : k = 3
  · subst h3
    go_enter Try.func81, Try.ntmps81
    go_wp2
    go_ret
    exact ⟨rfl, rfl⟩
  · have e1 : (k == 1) = false := by simpa using h1
    have e2 : (k == 2) = false := by simpa using h2
    have e3 : (k == 3) = false := by simpa using h3
    have E : Hid (fixupWide k = 0) := by show fixupWide k = 0; simp [fixupWide, h1, h2, h3]
    clear h1 h2 h3
    go_enter Try.func81, Try.ntmps81
    go_wp2
    go_ret
    exact ⟨by rw [E.out]; rfl, rfl⟩
set_option maxHeartbeats 400000 in
theorem sFixupWide_any (k : Int) (w : World) :
    Calls Try.prog 67 #[.int .i64 k] w fun e w' => e = .returned (.int .i64 (fixupWide k)) ∧ Below w.heap.size w w' := by
  cases hk : withinB k 1 3
  · have E : Hid (fixupWide k = 0) := by
      show fixupWide k = 0
      have := (withinB_not _ _ _).1 hk
      unfold fixupWide
      rw [if_neg (by omega), if_neg (by omega), if_neg (by omega)]
    go_enter Try.func67, Try.ntmps67
    go_wp2_with (first | (go_at_call 63; (with_reducible refine (l1In_any _ _ _ _).mono ?_); rintro e w' ⟨rfl, rfl⟩))
    go_ret
    exact ⟨by rw [E.out]; rfl, Below.refl _ _⟩
  · have h := (withinB_iff _ _ _).1 hk
    have h' : k = 1 ∨ k = 2 ∨ k = 3 := by omega
    clear h
    rcases h' with rfl | rfl | rfl
    all_goals
      go_enter Try.func67, Try.ntmps67
      go_wp2_with (first | (go_at_call 63; (with_reducible refine (l1In_any _ _ _ _).mono ?_); rintro e w' ⟨rfl, rfl⟩))
      go_ret
      exact ⟨rfl, (Below.refl _ _).alloc (Nat.le_refl _) _⟩
/-! NameAt -/
open Go.ChangeShapes Go.WideShapes Go.ChangeAt Go.RowKit Go.Joins
set_option linter.unusedSimpArgs false
set_option linter.unusedVariables false
set_option maxRecDepth 100000

/-- The text up to the first byte 0, if there is one. -/
def textAt : List UInt8 → Option (List UInt8)
  | [] => none
  | c :: r => if c = 0 then some [] else (textAt r).map (c :: ·)
/-- The text from a place of a table on. -/
def nameAtL (l : List UInt8) (at' : Int) : Option (List UInt8) := if withinB at' 0 ((l.length : Int) - 1) then textAt (l.drop at'.toNat) else none
/-- How a text is handed back. -/
def optV (o : Option (List UInt8)) : Ending := .returned (.tuple #[.string ⟨(o.getD []).toArray⟩, .bool o.isSome])

theorem textAt_index : ∀ l : List UInt8, textAt l = if Lib.indexByte l 0 < 0 then none else some (l.take (Lib.indexByte l 0).toNat)
  | [] => rfl
  | c :: r => by
    have ih := textAt_index r
    have hg := Lib.indexByte_ge r 0
    unfold textAt Lib.indexByte
    by_cases h : c = 0
    · subst h; simp
    · have hb : (c == 0) = false := by simpa using h
      rw [if_neg h, ih, hb]
      by_cases h1 : Lib.indexByte r 0 < 0
      · have : Lib.indexByte r 0 = -1 := by omega
        simp [this]
      · have h2 : (Lib.indexByte r 0 == -1) = false := by simp; omega
        have h3 : ¬ (Lib.indexByte r 0 + 1 < 0) := by omega
        simp only [h2, if_neg h1, if_neg h3, Option.map_some, Bool.false_eq_true, if_false]
        rw [show (Lib.indexByte r 0 + 1).toNat = (Lib.indexByte r 0).toNat + 1 by omega, List.take_succ_cons]
theorem indexByte_lt : ∀ (l : List UInt8) (c : UInt8), Lib.indexByte l c < l.length ∨ (Lib.indexByte l c = -1)
  | [], _ => .inr rfl
  | b :: r, c => by
    have ih := indexByte_lt r c
    have hg := Lib.indexByte_ge r c
    unfold Lib.indexByte
    simp only [List.length_cons]
    split
    · left; omega
    · split
      · right; rfl
      · rename_i h; have : Lib.indexByte r c ≠ -1 := by simpa using h
        left; omega

theorem textAt_cons_zero (l : List UInt8) (k : Nat) (hk : k < l.length) (h : l[k] = 0) : textAt (l.drop k) = some [] := by
  rw [List.drop_eq_getElem_cons hk, textAt, if_pos h]
theorem textAt_cons_ne (l : List UInt8) (k : Nat) (hk : k < l.length) (h : l[k] ≠ 0) : textAt (l.drop k) = (textAt (l.drop (k + 1))).map (l[k] :: ·) := by
  rw [List.drop_eq_getElem_cons hk, textAt, if_neg h]
theorem textAt_step (l : List UInt8) (A k : Nat) (hA : A ≤ k) (hk : k < l.length) (h : l[k] ≠ 0) (o : Option (List UInt8)) (e : o = (textAt (l.drop k)).map ((l.drop A).take (k - A) ++ ·)) :
    o = (textAt (l.drop (k + 1))).map ((l.drop A).take (k + 1 - A) ++ ·) := by
  have ht : (l.drop A).take (k + 1 - A) = (l.drop A).take (k - A) ++ [l[k]] := by
    rw [show k + 1 - A = (k - A) + 1 by omega, List.take_succ_eq_append_getElem (by simp; omega)]
    congr 2
    simp [show A + (k - A) = k by omega]
  rw [e, textAt_cons_ne l k hk h, ht]
  cases textAt (l.drop (k + 1)) <;> simp
theorem u8_zero {c : UInt8} (h : c = 0) : ((c.toNat : Int) == 0) = true := by subst h; rfl
theorem u8_nonzero {c : UInt8} (h : c ≠ 0) : ((c.toNat : Int) == 0) = false := by
  rw [beq_eq_false_iff_ne]; intro e; exact h (UInt8.toNat_inj.1 (by simp; omega))

/-- string(b) of bytes that read. -/
theorem conv_bytes (w : World) (b off cap : Nat) (l : List UInt8) (A n : Nat) (hn : A + n ≤ l.length) (hc : ∀ j (hj : j < l.length), w.cell? ⟨b, off + j, none⟩ = some (.int .u8 (l[j].toNat : Int))) :
    (convert 22 9 (.slice (some ⟨b, off + A, none⟩) n cap)).run Try.prog w = .ok (.string ⟨((l.drop A).take n).toArray⟩) w := by
  have hl : ((l.drop A).take n).length = n := by simp; omega
  have := run_convert_bytes_back (P := Try.prog) w 22 9 5 ⟨b, off + A, none⟩ cap ((l.drop A).take n) Try.underlying22 Try.underlying5 Try.underlying9 (fun j hj => by
    rw [hl] at hj
    rw [Addr.add_lit, Nat.add_assoc, hc (A + j) (by omega)]
    simp)
  rw [hl] at this
  exact this

/-- string(b) of any bytes that read. -/
theorem conv_at (w : World) (v : Value) (l : List UInt8) (h : BytesAt w v l) : (convert 22 9 v).run Try.prog w = .ok (.string ⟨l.toArray⟩) w := by
  obtain ⟨a, cap, rfl, hcap, hmax, hnone, hcell⟩ := h.form
  rcases Nat.eq_zero_or_pos l.length with h0 | hpos
  · obtain rfl : l = [] := List.eq_nil_of_length_eq_zero h0
    cases a with
    | none => rw [run_convert_bytes_string w 22 9 5 none _ _ Try.underlying22 Try.underlying5 Try.underlying9]; rfl
    | some a => exact run_convert_bytes_back (P := Try.prog) w 22 9 5 a cap [] Try.underlying22 Try.underlying5 Try.underlying9 (fun j hj => absurd hj (Nat.not_lt_zero _))
  · obtain ⟨b, off, rfl, hc⟩ := hcell hpos
    exact run_convert_bytes_back (P := Try.prog) w 22 9 5 ⟨b, off, none⟩ cap l Try.underlying22 Try.underlying5 Try.underlying9 (fun j hj => by rw [Addr.add_lit]; exact hc j hj)

set_option maxHeartbeats 1000000 in
theorem s_NameAt (w : World) (v : Value) (l : List UInt8) (h : BytesAt w v l) (at' : Int) :
    Calls Try.prog 65 #[v, .int .i64 at'] w fun e w' => e = optV (nameAtL l at') ∧ w = w' := by
  obtain ⟨a, cap, rfl, hcap, hmax, hnone, hcell⟩ := h.form
  unfold maxLen at hmax
  cases hat : withinB at' 0 ((l.length : Int) - 1)
  · have E : Hid (nameAtL l at' = none) := by show _ = _; simp [nameAtL, hat]
    clear h hnone hcell
    go_enter Try.func65, Try.ntmps65
    go_wp2_with (first | (go_at_call 63; (with_reducible refine (l1In_any _ _ _ _).mono ?_); rintro e w' ⟨rfl, rfl⟩))
    go_ret2
    exact ⟨by rw [E.out]; rfl, rfl⟩
  · have hA := (withinB_iff _ _ _).1 hat
    obtain ⟨A, rfl⟩ := Int.eq_ofNat_of_zero_le hA.1
    obtain ⟨b, off, rfl, hc⟩ := hcell (by omega)
    have E : Hid (nameAtL l A = textAt (l.drop A)) := by show _ = _; simp [nameAtL, hat]
    have HC := Lib.hid hc
    have hA2 : (A : Int) < (l.length : Int) := by omega
    clear h hnone hcell hc hA
    go_enter Try.func65, Try.ntmps65
    go_wp2_with (first | (go_at_call 63; (with_reducible refine (l1In_any _ _ _ _).mono ?_); rintro e w' ⟨rfl, rfl⟩))
    go_loop [6] (fun i => ∃ k : Nat, A ≤ k ∧ k ≤ l.length ∧ i = .int .i64 k ∧ Hid (textAt (l.drop A) = (textAt (l.drop k)).map ((l.drop A).take (k - A) ++ ·))) (fun i => l.length - (intOf i).toNat)
    case atStart => exact ⟨A, Nat.le_refl _, by omega, rfl, by show _ = _; simp⟩
    case round =>
      obtain ⟨k, hAk, hk, rfl, hT⟩ := hrel
      by_cases hlt : k < l.length
      · have g := HC.out k hlt
        by_cases hz : l[k] = 0
        · have hzb := u8_zero hz
          have E2 : Hid (textAt (l.drop A) = some ((l.drop A).take (k - A))) := by
            show _ = _; rw [hT.out, textAt_cons_zero l k hlt hz]; simp
          have kc := conv_bytes w b off (cap - A) l A (k - A) (by omega) HC.out
          have hne : ¬ cap = A := by omega
          clear hz hT
          go_wp2_with fail
          go_ret2
          exact ⟨by rw [E.out, E2.out]; rfl, rfl⟩
        · have hzb := u8_nonzero hz
          have HZ := Lib.hid hz
          clear hz
          go_wp2_with fail
          go_round
          case rel => exact ⟨k + 1, by omega, by omega, by go_num, textAt_step l A k hAk hlt HZ.out _ hT.out⟩
          case measure => simp [intOf]; try omega
      · obtain rfl : k = l.length := by omega
        have E2 : Hid (textAt (l.drop A) = none) := by
          show _ = _; rw [hT.out, List.drop_length]; rfl
        clear hT
        go_wp2_with fail
        go_ret2
        exact ⟨by rw [E.out, E2.out]; rfl, rfl⟩
set_option maxHeartbeats 1000000 in
theorem bytes_IndexByte (w : World) (b off n cap : Nat) (l : List UInt8) (hl : l.length = n) (hc : ∀ j (hj : j < l.length), w.cell? ⟨b, off + j, none⟩ = some (.int .u8 (l[j].toNat : Int))) (c : UInt8) (x : Int) (hx : x = (c.toNat : Int)) :
    Calls Try.prog 71 #[.slice (some ⟨b, off, none⟩) n cap, .int .u8 x] w fun e w' => e = .returned (.int .i64 (Lib.indexByte l c)) ∧ w = w' := by
  subst hx
  have key := Lib.run_indexByteSlice (P := Try.prog) w b off n cap (l.map fun c => (c.toNat : Int)) (by simpa using hl) (fun i hi => by
    rw [hc i (by omega)]; simp [List.getD, show i < l.length by omega]) (c.toNat : Int)
  have e1 : Lib.bytesOf (l.map fun c => (c.toNat : Int)) = l := by
    simp [Lib.bytesOf, Function.comp_def]
  have e2 : ((c.toNat : Int).toNat).toUInt8 = c := by simp
  rw [e1, e2] at key
  have KEY := Lib.hid key
  clear key e1 e2 hc
  go_enter Try.func71, Try.ntmps71
  go_wp2
  rw [run_callFunc_extern Try.func90 (by kernel_rfl) (by kernel_rfl) (by kernel_rfl) (e := Extern.BytealgIndexByte.indexByte) (by kernel_rfl), KEY.out]
  simp only [Result.andThen]
  rw [Oper.upon_value]
  go_wp2
  go_ret
  exact ⟨rfl, rfl⟩
set_option maxHeartbeats 1000000 in
theorem i_NameAt (w : World) (v : Value) (l : List UInt8) (h : BytesAt w v l) (at' : Int) :
    Calls Try.prog 40 #[v, .int .i64 at'] w fun e w' => e = optV (nameAtL l at') ∧ w = w' := by
  obtain ⟨a, cap, rfl, hcap, hmax, hnone, hcell⟩ := h.form
  unfold maxLen at hmax
  cases hat : withinB at' 0 ((l.length : Int) - 1)
  · have E : Hid (nameAtL l at' = none) := by show _ = _; simp [nameAtL, hat]
    clear h hnone hcell
    go_enter Try.func40, Try.ntmps40
    go_wp2_with (first | (go_at_call 58; (with_reducible refine (within_any _ _ _ _).mono ?_); rintro e w' ⟨rfl, rfl⟩))
    go_ret2
    exact ⟨by rw [E.out]; rfl, rfl⟩
  · have hA := (withinB_iff _ _ _).1 hat
    obtain ⟨A, rfl⟩ := Int.eq_ofNat_of_zero_le hA.1
    obtain ⟨b, off, rfl, hc⟩ := hcell (by omega)
    have E : Hid (nameAtL l A = textAt (l.drop A)) := by show _ = _; simp [nameAtL, hat]
    have HC := Lib.hid hc
    have hA2 : (A : Int) < (l.length : Int) := by omega
    have hne : ¬ cap = A := by omega
    have hi1 := indexByte_lt (l.drop A) 0
    have hi2 := Lib.indexByte_ge (l.drop A) 0
    have ET := textAt_index (l.drop A)
    have HT := Lib.hid ET
    rw [List.length_drop] at hi1
    clear h hnone hcell hc hA ET
    generalize hq : Lib.indexByte (l.drop A) 0 = q at hi1 hi2 HT
    have HQ := Lib.hid hq
    clear hq
    go_enter Try.func40, Try.ntmps40
    go_wp2_with (first | (go_at_call 58; (with_reducible refine (within_any _ _ _ _).mono ?_); rintro e w' ⟨rfl, rfl⟩))
    refine (bytes_IndexByte w b (off + A) _ _ (l.drop A) (by simp) (fun j hj => by
      rw [Nat.add_assoc, HC.out (A + j) (by simp at hj; omega)]; simp) 0 0 rfl).mono ?_
    rintro e w' ⟨rfl, rfl⟩
    rw [HQ.out]
    by_cases hq0 : q < 0
    · have E2 : Hid (textAt (l.drop A) = none) := by show _ = _; rw [HT.out, if_pos hq0]
      clear hi1
      go_wp2_with fail
      go_ret2
      exact ⟨by rw [E.out, E2.out]; rfl, rfl⟩
    · obtain ⟨n, rfl⟩ := Int.eq_ofNat_of_zero_le (show 0 ≤ q by omega)
      have E2 : Hid (textAt (l.drop A) = some ((l.drop A).take n)) := by show _ = _; rw [HT.out, if_neg hq0]; simp
      have hn : (A : Int) + (n : Int) < (l.length : Int) := by omega
      have kc := conv_bytes w b off (cap - A) l A n (by omega) HC.out
      clear hi1 hi2
      go_wp2_with fail
      go_ret2
      exact ⟨by rw [E.out, E2.out]; rfl, rfl⟩
/-! Fix -/
open Go.ChangeShapes Go.WideShapes Go.ChangeAt Go.RowKit Go.Joins
set_option linter.unusedSimpArgs false
set_option linter.unusedVariables false
set_option maxRecDepth 100000

theorem owns_mono {w : World} {base base' : Nat} {e : TypeId} {size : Nat} {v : Value} {n : Nat} {xs : List Value} (h : w.ownsRow base e size v n xs) (hb : base' ≤ base) : w.ownsRow base' e size v n xs := by
  refine ⟨h.1, ?_⟩
  rcases h.2 with h2 | ⟨g, cap, cur, hv, hg, r⟩
  · exact .inl h2
  · exact .inr ⟨g, cap, cur, hv, Nat.le_trans hb hg, r⟩
theorem Blk.newAt (w : World) (c : Array Value) (t : TypeId) (g : Nat) (hg : g = w.heap.size) : Blk (w.alloc (.cells c t)) g c t := by
  subst hg; exact Blk.new w c t
/-- A fixup: At, Kind, To, Add. -/
abbrev FixD := Int × Int × Int × Int
@[reducible] def fixV (f : FixD) : Value := .agg #[.int .i64 f.1, .int .i64 f.2.1, .int .i64 f.2.2.1, .int .i64 f.2.2.2]
def fixCells : List FixD → List Value
  | [] => []
  | f :: r => .int .i64 f.1 :: .int .i64 f.2.1 :: .int .i64 f.2.2.1 :: .int .i64 f.2.2.2 :: fixCells r
theorem fixCells_length : ∀ l, (fixCells l).length = l.length * 4
  | [] => rfl
  | f :: r => by simp only [fixCells, List.length_cons, fixCells_length r]; omega
theorem fixCells_append : ∀ l k, fixCells (l ++ k) = fixCells l ++ fixCells k
  | [], _ => rfl
  | f :: r, k => by simp [fixCells, fixCells_append r k]
theorem fixCells_one : ∀ l, ∀ u ∈ fixCells l, u.oneCell' = true
  | [], u, h => by cases h
  | f :: r, u, h => by
    simp only [fixCells, List.mem_cons] at h
    rcases h with rfl | rfl | rfl | rfl | h
    · rfl
    · rfl
    · rfl
    · rfl
    · exact fixCells_one r u h
theorem fixCells_get (l : List FixD) (j : Nat) (hj : j < l.length) :
    (fixCells l)[j * 4]? = some (.int .i64 l[j].1) ∧ (fixCells l)[j * 4 + 1]? = some (.int .i64 l[j].2.1) ∧ (fixCells l)[j * 4 + 2]? = some (.int .i64 l[j].2.2.1) ∧ (fixCells l)[j * 4 + 3]? = some (.int .i64 l[j].2.2.2) := by
  have e : l = l.take j ++ (l[j] :: l.drop (j + 1)) := by rw [← List.drop_eq_getElem_cons hj, List.take_append_drop]
  have hl : (fixCells (l.take j)).length = j * 4 := by rw [fixCells_length, List.length_take]; congr 1; omega
  have e2 : fixCells l = fixCells (l.take j) ++ (.int .i64 l[j].1 :: .int .i64 l[j].2.1 :: .int .i64 l[j].2.2.1 :: .int .i64 l[j].2.2.2 :: fixCells (l.drop (j + 1))) := by
    have := congrArg fixCells e
    rw [fixCells_append] at this
    exact this
  rw [e2]
  refine ⟨?_, ?_, ?_, ?_⟩
  · rw [List.getElem?_append_right (by omega), hl, Nat.sub_self]; rfl
  · rw [List.getElem?_append_right (by omega), hl, show j * 4 + 1 - j * 4 = 1 by omega]; rfl
  · rw [List.getElem?_append_right (by omega), hl, show j * 4 + 2 - j * 4 = 2 by omega]; rfl
  · rw [List.getElem?_append_right (by omega), hl, show j * 4 + 3 - j * 4 = 3 by omega]; rfl

/-- A slice of fixups. -/
def FixAt (w : World) (v : Value) (l : List FixD) : Prop := Reads w 4 v l.length (fixCells l)
theorem FixAt.below {w w' : World} {v : Value} {l : List FixD} {B : Nat} (h : FixAt w v l) (hB : w.heap.size ≤ B) (hb : Below B w w') : FixAt w' v l := Reads.below h hB hb
theorem FixAt.form {w : World} {v : Value} {l : List FixD} (h : FixAt w v l) :
    ∃ (a : Option Addr) (cap : Nat), v = .slice a l.length cap ∧ l.length ≤ cap ∧ cap ≤ maxLen ∧ (a = none → cap = 0) ∧
      (0 < l.length → ∃ b off, a = some ⟨b, off, none⟩ ∧ ∀ j (hj : j < l.length), w.cell? ⟨b, off + j * 4, none⟩ = some (.int .i64 l[j].1) ∧ w.cell? ⟨b, off + j * 4 + 1, none⟩ = some (.int .i64 l[j].2.1) ∧
        w.cell? ⟨b, off + j * 4 + 2, none⟩ = some (.int .i64 l[j].2.2.1) ∧ w.cell? ⟨b, off + j * 4 + 3, none⟩ = some (.int .i64 l[j].2.2.2)) := by
  obtain ⟨_, a, cap, rfl, h2, h3, h4, h5⟩ := h
  refine ⟨a, cap, rfl, h2, h3, h4, fun hn => ?_⟩
  obtain ⟨b, off, rfl, hc⟩ := h5 hn
  refine ⟨b, off, rfl, fun j hj => ?_⟩
  obtain ⟨g0, g1, g2, g3⟩ := fixCells_get l j hj
  exact ⟨hc _ _ g0, by have := hc _ _ g1; rw [← Nat.add_assoc] at this; exact this, by have := hc _ _ g2; rw [← Nat.add_assoc] at this; exact this, by have := hc _ _ g3; rw [← Nat.add_assoc] at this; exact this⟩
/-- Fixups that the call owns. -/
def OwnF (w : World) (base : Nat) (v : Value) (l : List FixD) : Prop := w.ownsRow base 59 4 v l.length (fixCells l)
theorem OwnF.reads {w : World} {base : Nat} {v : Value} {l : List FixD} (h : OwnF w base v l) : FixAt w v l := reads_of_owns h
theorem info_fix : (Try.prog.info? 59).map (fun i => (i.zero, i.size, i.bytes)) = some (some (.agg #[.int .i64 0, .int .i64 0, .int .i64 0, .int .i64 0]), 4, 32) := by kernel_rfl
theorem toList_made4 (z : Value) (n : Nat) : (madeCells #[z, z, z, z] n).toList = List.replicate n z := by
  apply List.ext_getElem
  · simp [madeCells]
  · intro i h1 h2
    have hm : i % 4 = 0 ∨ i % 4 = 1 ∨ i % 4 = 2 ∨ i % 4 = 3 := by omega
    rcases hm with e | e | e | e <;> simp [madeCells, e]
theorem set_four (A : List Value) (z a b c d : Value) (n m k : Nat) (hA : A.length = n) (hk : k = 4 * (m + 1)) :
    ((((A ++ List.replicate k z).set n a).set (n + 1) b).set (n + 2) c).set (n + 3) d = A ++ a :: b :: c :: d :: List.replicate (4 * m) z := by
  subst hA hk
  rw [show 4 * (m + 1) = 4 * m + 1 + 1 + 1 + 1 by omega]
  simp only [List.replicate_succ]
  rw [List.set_append, if_neg (by omega), Nat.sub_self, List.set_cons_zero]
  rw [List.set_append, if_neg (by omega), show A.length + 1 - A.length = 1 by omega, List.set_cons_succ, List.set_cons_zero]
  rw [List.set_append, if_neg (by omega), show A.length + 2 - A.length = 2 by omega, List.set_cons_succ, List.set_cons_succ, List.set_cons_zero]
  rw [List.set_append, if_neg (by omega), show A.length + 3 - A.length = 3 by omega, List.set_cons_succ, List.set_cons_succ, List.set_cons_succ, List.set_cons_zero]

set_option maxHeartbeats 800000 in
theorem toFixup_any (f : FixD) (w : World) :
    Calls Try.prog 103 #[fixV f] w fun e w' => e = .returned (fixV f) ∧ Below w.heap.size w w' := by
  go_enter Try.func103, Try.ntmps103
  go_wp2
  refine bodyPost_ret (v := fixV f) (by simp [results, Try.results103, go_sem]) rfl ⟨rfl, ?_⟩
  repeat first | exact Below.refl _ _ | (refine Below.setCell ?_ (by first | (simp; done) | (simp; omega)) _) | (refine Below.alloc ?_ (by first | (simp; done) | (simp; omega)) _)

/-- What a function ends in that hands back fixups of its own. -/
def RetF (w : World) (l : List FixD) (e : Ending) (w' : World) : Prop := ∃ r, e = .returned r ∧ OwnF w' w.heap.size r l ∧ Below w.heap.size w w'
set_option maxHeartbeats 1000000 in
theorem toFixupS_any (w : World) (v : Value) (l : List FixD) (h : FixAt w v l) (hl : l.length ≤ 1073741824) :
    Calls Try.prog 94 #[v] w (RetF w l) := by
  obtain ⟨a, cap, rfl, hcap, hmax, hnone, hcell⟩ := h.form
  obtain ⟨i0, hi, hz0, hz1, hz2⟩ := info_parts info_fix
  have HH := Lib.hid hcell
  clear h hcell hnone
  go_enter Try.func94, Try.ntmps94
  go_wp2_with (at_make; refine wpList_make_full _ rfl _ _ 50 rfl w.heap.size 59 i0 _ 4 Try.underlying50 hi hz0 hz1 _ _ _ _ l.length rfl rfl rfl rfl ?c1 ?c2 ?c3 ?_)
  case c1 => rw [hz2]; omega
  case c2 => unfold maxLen; omega
  case c3 => exact Nat.le_refl _
  intro w1 hown hgr
  have F1 := (From.start w).grown hgr (fun k h => by cases h)
  have HO1 : Hid (w1.ownsRow w.heap.size 59 4 (.slice (some ⟨w.heap.size, 0, none⟩) l.length l.length) l.length (fixCells (l.take 0) ++ List.replicate (4 * (l.length - 0)) (Value.int .i64 0))) := Lib.hid (by
    have := hown
    rw [toList_made4] at this
    simpa [fixCells, Nat.mul_comm] using this)
  clear hgr hown
  go_wp2_with fail
  go_loopw [4] (fun i wr => ∃ k : Nat, k ≤ l.length ∧ i = .int .i64 k ∧
      Hid (wr.ownsRow w.heap.size 59 4 (.slice (some ⟨w.heap.size, 0, none⟩) l.length l.length) l.length (fixCells (l.take k) ++ List.replicate (4 * (l.length - k)) (Value.int .i64 0))) ∧ Hid (From w.heap.size w wr)) (fun i _ => l.length - (intOf i).toNat)
  case atStart => exact ⟨0, Nat.zero_le _, rfl, HO1, F1⟩
  case round =>
    clear HO1 F1
    obtain ⟨k, hk, rfl, HO, HF⟩ := hrel
    by_cases hlt : k < l.length
    · obtain ⟨b, off, rfl, hc⟩ := HH.out (by omega)
      obtain ⟨c0, c1, c2, c3⟩ := hc k hlt
      have hb : b < w.heap.size := World.block_lt_of_cell? w _ c0
      have g0 : wr.cell? ⟨b, off + k * 4, none⟩ = some (.int .i64 l[k].1) := (HF.out.below.cell (p := ⟨b, off + k * 4, none⟩) hb).trans c0
      have g1 : wr.cell? ⟨b, off + k * 4 + 1, none⟩ = some (.int .i64 l[k].2.1) := (HF.out.below.cell (p := ⟨b, off + k * 4 + 1, none⟩) hb).trans c1
      have g2 : wr.cell? ⟨b, off + k * 4 + 2, none⟩ = some (.int .i64 l[k].2.2.1) := (HF.out.below.cell (p := ⟨b, off + k * 4 + 2, none⟩) hb).trans c2
      have g3 : wr.cell? ⟨b, off + k * 4 + 3, none⟩ = some (.int .i64 l[k].2.2.2) := (HF.out.below.cell (p := ⟨b, off + k * 4 + 3, none⟩) hb).trans c3
      clear hc c0 c1 c2 c3
      go_wp2_with fail
      refine (toFixup_any l[k] _).mono ?_
      rintro e w2 ⟨rfl, h2⟩
      have HF2 := Lib.hid (HF.out.call h2)
      have hown2 := owns_call HO.out h2
      have HO2 := Lib.hid hown2
      have hcells : ∀ j, j < 4 → ∃ u, w2.cell? ⟨w.heap.size, k * 4 + j, none⟩ = some u := fun j hj =>
        ⟨_, (hown2.cellAt (k * 4 + j) (by omega)).trans (List.getElem?_eq_getElem (by rw [hown2.1]; omega))⟩
      obtain ⟨u0, d0⟩ := hcells 0 (by omega)
      rw [Nat.add_zero] at d0
      obtain ⟨u1, d1⟩ := hcells 1 (by omega)
      obtain ⟨u2, d2⟩ := hcells 2 (by omega)
      obtain ⟨u3, d3⟩ := hcells 3 (by omega)
      have f0 := hown2.frozenAt (k * 4)
      have f1 := hown2.frozenAt (k * 4 + 1)
      have f2 := hown2.frozenAt (k * 4 + 2)
      have f3 := hown2.frozenAt (k * 4 + 3)
      clear g0 g1 g2 g3 HF HO h2 hown2 hcells
      go_wp2_with fail
      go_roundw
      case rel =>
        refine ⟨k + 1, by omega, by go_num, ?_, ?_⟩
        · show World.ownsRow _ _ _ _ _ _ _
          have h4 := ((((HO2.out.stored (k * 4) (.int .i64 l[k].1)).1.stored (k * 4 + 1) (.int .i64 l[k].2.1)).1.stored (k * 4 + 2) (.int .i64 l[k].2.2.1)).1.stored (k * 4 + 3) (.int .i64 l[k].2.2.2)).1
          rw [set_four _ _ _ _ _ _ (k * 4) (l.length - (k + 1)) _ (by rw [fixCells_length, List.length_take]; congr 1; omega) (by omega)] at h4
          rw [List.take_succ_eq_append_getElem hlt, fixCells_append, List.append_assoc]
          exact h4
        · exact ((((HF2.out.setCell (Nat.le_refl _) _).setCell (Nat.le_refl _) _).setCell (Nat.le_refl _) _).setCell (Nat.le_refl _) _)
      case measure => simp [intOf]; try omega
    · obtain rfl : k = l.length := by omega
      go_wp2_with fail
      go_ret
      refine ⟨_, rfl, ?_, HF.out.below⟩
      have := HO.out
      rw [Nat.sub_self, List.take_length] at this
      simpa [OwnF] using this
set_option maxHeartbeats 800000 in
theorem eqFixup_same (f : FixD) (w : World) :
    Calls Try.prog 104 #[fixV f, fixV f] w fun e w' => e = .returned (.bool true) ∧ Below w.heap.size w w' := by
  go_enter Try.func104, Try.ntmps104
  go_wp2
  go_ret
  exact ⟨rfl, (((From.start w).alloc _).alloc _).below⟩

set_option maxHeartbeats 1000000 in
theorem eqFixupS_same (w : World) (v1 v2 : Value) (l : List FixD) (h1 : FixAt w v1 l) (h2 : FixAt w v2 l) :
    Calls Try.prog 96 #[v1, v2] w fun e w' => e = .returned (.bool true) ∧ Below w.heap.size w w' := by
  obtain ⟨a1, cap1, rfl, hcap1, hmax1, hnone1, hcell1⟩ := h1.form
  obtain ⟨a2, cap2, rfl, hcap2, hmax2, hnone2, hcell2⟩ := h2.form
  have H1 := Lib.hid hcell1
  have H2 := Lib.hid hcell2
  clear h1 h2 hcell1 hcell2 hnone1 hnone2
  unfold maxLen at hmax1 hmax2
  go_enter Try.func96, Try.ntmps96
  go_wp2_with fail
  go_loopw [5] (fun i wr => ∃ k : Nat, k ≤ l.length ∧ i = .int .i64 k ∧ Hid (From w.heap.size w wr)) (fun i _ => l.length - (intOf i).toNat)
  case atStart => exact ⟨0, Nat.zero_le _, rfl, From.start w⟩
  case round =>
    obtain ⟨k, hk, rfl, HF⟩ := hrel
    by_cases hlt : k < l.length
    · obtain ⟨b1, off1, rfl, hc1⟩ := H1.out (by omega)
      obtain ⟨b2, off2, rfl, hc2⟩ := H2.out (by omega)
      obtain ⟨c0, c1, c2, c3⟩ := hc1 k hlt
      obtain ⟨e0, e1, e2, e3⟩ := hc2 k hlt
      have hb1 : b1 < w.heap.size := World.block_lt_of_cell? w _ c0
      have hb2 : b2 < w.heap.size := World.block_lt_of_cell? w _ e0
      have g0 : wr.cell? ⟨b1, off1 + k * 4, none⟩ = some (.int .i64 l[k].1) := (HF.out.below.cell (p := ⟨b1, off1 + k * 4, none⟩) hb1).trans c0
      have g1 : wr.cell? ⟨b1, off1 + k * 4 + 1, none⟩ = some (.int .i64 l[k].2.1) := (HF.out.below.cell (p := ⟨b1, off1 + k * 4 + 1, none⟩) hb1).trans c1
      have g2 : wr.cell? ⟨b1, off1 + k * 4 + 2, none⟩ = some (.int .i64 l[k].2.2.1) := (HF.out.below.cell (p := ⟨b1, off1 + k * 4 + 2, none⟩) hb1).trans c2
      have g3 : wr.cell? ⟨b1, off1 + k * 4 + 3, none⟩ = some (.int .i64 l[k].2.2.2) := (HF.out.below.cell (p := ⟨b1, off1 + k * 4 + 3, none⟩) hb1).trans c3
      have d0 : wr.cell? ⟨b2, off2 + k * 4, none⟩ = some (.int .i64 l[k].1) := (HF.out.below.cell (p := ⟨b2, off2 + k * 4, none⟩) hb2).trans e0
      have d1 : wr.cell? ⟨b2, off2 + k * 4 + 1, none⟩ = some (.int .i64 l[k].2.1) := (HF.out.below.cell (p := ⟨b2, off2 + k * 4 + 1, none⟩) hb2).trans e1
      have d2 : wr.cell? ⟨b2, off2 + k * 4 + 2, none⟩ = some (.int .i64 l[k].2.2.1) := (HF.out.below.cell (p := ⟨b2, off2 + k * 4 + 2, none⟩) hb2).trans e2
      have d3 : wr.cell? ⟨b2, off2 + k * 4 + 3, none⟩ = some (.int .i64 l[k].2.2.2) := (HF.out.below.cell (p := ⟨b2, off2 + k * 4 + 3, none⟩) hb2).trans e3
      have i1 : (k : Int) < (l.length : Int) := by omega
      have i3 : (0 : Int) ≤ (k : Int) := by omega
      clear hc1 hc2 c0 c1 c2 c3 e0 e1 e2 e3
      go_wp2_with fail
      go_still_tail 8, (by kernel_rfl)
      change wpList _ _ _ _ _ wr.drew
      have HFd := Lib.hid HF.out.drew
      clear g0 g1 g2 g3 d0 d1 d2 d3 HF
      generalize wr.drew = w2 at HFd ⊢
      go_wp2_with fail
      refine (eqFixup_same l[k] w2).mono ?_
      rintro e w3 ⟨rfl, h3⟩
      have HF3 := Lib.hid (HFd.out.call h3)
      clear h3 HFd
      go_wp2_with fail
      go_roundw
      case rel => exact ⟨k + 1, by omega, by go_num, HF3⟩
      case measure => simp [intOf]; try omega
    · obtain rfl : k = l.length := by omega
      go_wp2_with fail
      go_ret
      exact ⟨rfl, HF.out.below⟩
/-! Mark -/
open Go.ChangeShapes Go.WideShapes Go.ChangeAt Go.RowKit Go.Joins
set_option linter.unusedSimpArgs false
set_option linter.unusedVariables false
set_option maxRecDepth 100000

/-- The marks from a number on. -/
def marks (k n : Nat) : List UInt8 := (List.range n).map fun i => UInt8.ofNat ((k + i) % 256)
theorem marks_length (k n : Nat) : (marks k n).length = n := by simp [marks]
theorem marks_get (k n i : Nat) (h : i < n) : (marks k n)[i]'(by rw [marks_length]; exact h) = UInt8.ofNat ((k + i) % 256) := by simp [marks]
theorem mark_toNat (k i : Nat) : ((UInt8.ofNat ((k + i) % 256)).toNat : Int) = ((k : Int) + (i : Int)) % 256 := by
  rw [UInt8.toNat_ofNat']; omega
theorem marks_step (k : Nat) (l : List UInt8) (i : Nat) (h : i < l.length) :
    (bvs (marks k i ++ l.drop i)).set i (.int .u8 (((k : Int) + (i : Int)) % 256)) = bvs (marks k (i + 1) ++ l.drop (i + 1)) := by
  rw [bvs_append, List.set_append, if_neg (by rw [bvs_length, marks_length]; omega), bvs_length, marks_length, Nat.sub_self, List.drop_eq_getElem_cons h]
  show bvs (marks k i) ++ (Value.int .u8 (((k : Int) + (i : Int)) % 256) :: bvs (l.drop (i + 1))) = _
  have : marks k (i + 1) = marks k i ++ [UInt8.ofNat ((k + i) % 256)] := by simp [marks, List.range_succ]
  rw [this, List.append_assoc, bvs_append]
  congr 1
  show _ = Value.int .u8 (((UInt8.ofNat ((k + i) % 256)).toNat : Nat) : Int) :: bvs (l.drop (i + 1))
  rw [mark_toNat]

/-! Place -/
open Go.ChangeShapes Go.WideShapes Go.ChangeAt Go.RowKit Go.Joins
set_option linter.unusedSimpArgs false
set_option linter.unusedVariables false
set_option maxRecDepth 100000

/-- The first place from which a text stands. -/
def placeOf (l nm : List UInt8) : Int := match (List.range l.length).find? (fun i : Nat => decide (nameAtL l (i : Int) = some nm)) with | some i => (i : Int) | none => -1
theorem placeOf_hit {l nm : List UInt8} {k : Nat} (hk : k < l.length) (h : nameAtL l (k : Int) = some nm) (hb : ∀ j, j < k → nameAtL l (j : Int) ≠ some nm) : placeOf l nm = k := by
  unfold placeOf
  have : (List.range l.length).find? (fun i : Nat => decide (nameAtL l (i : Int) = some nm)) = some k := by
    rw [List.find?_eq_some_iff_getElem]
    refine ⟨by simp [h], k, by simpa using hk, by simp, fun j hj => by simpa using hb j hj⟩
  rw [this]
theorem placeOf_none {l nm : List UInt8} (hb : ∀ j, j < l.length → nameAtL l (j : Int) ≠ some nm) : placeOf l nm = -1 := by
  unfold placeOf
  have : (List.range l.length).find? (fun i : Nat => decide (nameAtL l (i : Int) = some nm)) = none := by
    rw [List.find?_eq_none]
    intro x hx
    simpa using hb x (List.mem_range.1 hx)
  rw [this]
theorem placeOf_range (l nm : List UInt8) : -1 ≤ placeOf l nm ∧ placeOf l nm < l.length := by
  unfold placeOf
  split
  · rename_i i h
    have := List.mem_of_find?_eq_some h
    have := List.mem_range.1 this
    omega
  · omega
/-- The bytes of a text. -/
def bytesS (s : ByteArray) : List UInt8 := s.data.toList
theorem toList_bytesS (s : ByteArray) : s.toList = bytesS s := Lib.toList_data s
theorem bytesS_mk (b : List UInt8) : bytesS ⟨b.toArray⟩ = b := by simp [bytesS]
theorem str_eq {b s : ByteArray} (h : bytesS b = bytesS s) : (b.toList == s.toList) = true := by
  rw [toList_bytesS, toList_bytesS, h]; simp
theorem str_ne {b s : ByteArray} (h : bytesS b ≠ bytesS s) : (b.toList == s.toList) = false := by
  rw [toList_bytesS, toList_bytesS]; simpa using h

set_option maxHeartbeats 1000000 in
theorem s_PlaceOf (w : World) (v : Value) (l : List UInt8) (h : BytesAt w v l) (name : ByteArray) :
    Calls Try.prog 32 #[v, .string name] w fun e w' => e = .returned (.int .i64 (placeOf l (bytesS name))) ∧ w = w' := by
  obtain ⟨a, cap, rfl, hcap, hmax, hnone, hcell⟩ := h.form
  unfold maxLen at hmax
  have H := Lib.hid h
  clear h hnone hcell
  go_enter Try.func32, Try.ntmps32
  go_wp2_with fail
  go_loop [5] (fun i => ∃ k : Nat, k ≤ l.length ∧ i = .int .i64 k ∧ Hid (∀ j, j < k → nameAtL l (j : Int) ≠ some (bytesS name))) (fun i => l.length - (intOf i).toNat)
  case atStart => exact ⟨0, Nat.zero_le _, rfl, fun j hj => absurd hj (Nat.not_lt_zero _)⟩
  case round =>
    obtain ⟨k, hk, rfl, HB⟩ := hrel
    by_cases hlt : k < l.length
    · rcases hn : nameAtL l (k : Int) with _ | b
      · have HN := Lib.hid hn
        clear hn
        go_wp2_with fail
        refine (s_NameAt w _ l H.out _).mono ?_
        rintro e w' ⟨rfl, rfl⟩
        rw [HN.out]
        unfold optV
        simp only [Option.getD_none, Option.isSome_none]
        go_wp2_with fail
        go_round
        case rel => exact ⟨k + 1, by omega, by go_num, fun j hj => by
          rcases Nat.lt_succ_iff_lt_or_eq.1 hj with h | rfl
          · exact HB.out j h
          · rw [HN.out]; simp⟩
        case measure => simp [intOf]; try omega
      · have HN := Lib.hid hn
        clear hn
        obtain ⟨sb, hsb⟩ : ∃ sb : ByteArray, ⟨b.toArray⟩ = sb := ⟨_, rfl⟩
        have hbb : bytesS sb = b := by rw [← hsb]; exact bytesS_mk b
        have HSB := Lib.hid hsb
        have HBB := Lib.hid hbb
        clear hsb hbb
        by_cases hb : bytesS sb = bytesS name
        · have hs := str_eq hb
          have E : Hid (placeOf l (bytesS name) = k) := placeOf_hit hlt (by rw [HN.out, ← HBB.out, hb]) HB.out
          clear hb
          go_wp2_with fail
          refine (s_NameAt w _ l H.out _).mono ?_
          rintro e w' ⟨rfl, rfl⟩
          rw [HN.out]
          unfold optV
          simp only [Option.getD_some, Option.isSome_some]
          rw [HSB.out]
          go_wp2_with fail
          go_ret
          exact ⟨by rw [E.out]; rfl, rfl⟩
        · have hs := str_ne hb
          have HX := Lib.hid hb
          clear hb
          go_wp2_with fail
          refine (s_NameAt w _ l H.out _).mono ?_
          rintro e w' ⟨rfl, rfl⟩
          rw [HN.out]
          unfold optV
          simp only [Option.getD_some, Option.isSome_some]
          rw [HSB.out]
          go_wp2_with fail
          go_round
          case rel => exact ⟨k + 1, by omega, by go_num, fun j hj => by
            rcases Nat.lt_succ_iff_lt_or_eq.1 hj with h | rfl
            · exact HB.out j h
            · rw [HN.out, ← HBB.out]; simpa using HX.out⟩
          case measure => simp [intOf]; try omega
    · have E : Hid (placeOf l (bytesS name) = -1) := placeOf_none fun j hj => HB.out j (by omega)
      go_wp2_with fail
      go_ret
      exact ⟨by rw [E.out]; rfl, rfl⟩
set_option maxHeartbeats 1000000 in
theorem i_PlaceOf (w : World) (v : Value) (l : List UInt8) (h : BytesAt w v l) (name : ByteArray) :
    Calls Try.prog 25 #[v, .string name] w fun e w' => e = .returned (.int .i64 (placeOf l (bytesS name))) ∧ w = w' := by
  obtain ⟨a, cap, rfl, hcap, hmax, hnone, hcell⟩ := h.form
  unfold maxLen at hmax
  have H := Lib.hid h
  clear h hnone hcell
  go_enter Try.func25, Try.ntmps25
  go_wp2_with fail
  go_loop [10] (fun i => ∃ k : Nat, k ≤ l.length ∧ i = .int .i64 k ∧ Hid (∀ j, j < k → nameAtL l (j : Int) ≠ some (bytesS name))) (fun i => l.length - (intOf i).toNat)
  case atStart => exact ⟨0, Nat.zero_le _, rfl, fun j hj => absurd hj (Nat.not_lt_zero _)⟩
  case round =>
    obtain ⟨k, hk, rfl, HB⟩ := hrel
    by_cases hlt : k < l.length
    · rcases hn : nameAtL l (k : Int) with _ | b
      · have HN := Lib.hid hn
        clear hn
        go_wp2_with fail
        refine (i_NameAt w _ l H.out _).mono ?_
        rintro e w' ⟨rfl, rfl⟩
        rw [HN.out]
        unfold optV
        simp only [Option.getD_none, Option.isSome_none]
        go_wp2_with fail
        go_round
        case rel => exact ⟨k + 1, by omega, by go_num, fun j hj => by
          rcases Nat.lt_succ_iff_lt_or_eq.1 hj with h | rfl
          · exact HB.out j h
          · rw [HN.out]; simp⟩
        case measure => simp [intOf]; try omega
      · have HN := Lib.hid hn
        clear hn
        obtain ⟨sb, hsb⟩ : ∃ sb : ByteArray, ⟨b.toArray⟩ = sb := ⟨_, rfl⟩
        have hbb : bytesS sb = b := by rw [← hsb]; exact bytesS_mk b
        have HSB := Lib.hid hsb
        have HBB := Lib.hid hbb
        clear hsb hbb
        by_cases hb : bytesS sb = bytesS name
        · have hs := str_eq hb
          have E : Hid (placeOf l (bytesS name) = k) := placeOf_hit hlt (by rw [HN.out, ← HBB.out, hb]) HB.out
          clear hb
          go_wp2_with fail
          refine (i_NameAt w _ l H.out _).mono ?_
          rintro e w' ⟨rfl, rfl⟩
          rw [HN.out]
          unfold optV
          simp only [Option.getD_some, Option.isSome_some]
          rw [HSB.out]
          go_wp2_with fail
          go_ret
          exact ⟨by rw [E.out]; rfl, rfl⟩
        · have hs := str_ne hb
          have HX := Lib.hid hb
          clear hb
          go_wp2_with fail
          refine (i_NameAt w _ l H.out _).mono ?_
          rintro e w' ⟨rfl, rfl⟩
          rw [HN.out]
          unfold optV
          simp only [Option.getD_some, Option.isSome_some]
          rw [HSB.out]
          go_wp2_with fail
          go_round
          case rel => exact ⟨k + 1, by omega, by go_num, fun j hj => by
            rcases Nat.lt_succ_iff_lt_or_eq.1 hj with h | rfl
            · exact HB.out j h
            · rw [HN.out, ← HBB.out]; simpa using HX.out⟩
          case measure => simp [intOf]; try omega
    · have E : Hid (placeOf l (bytesS name) = -1) := placeOf_none fun j hj => HB.out j (by omega)
      go_wp2_with fail
      go_ret
      exact ⟨by rw [E.out]; rfl, rfl⟩
/-! PutHead -/
open Go.ChangeShapes Go.WideShapes Go.ChangeAt Go.RowKit Go.Joins
set_option linter.unusedSimpArgs false
set_option linter.unusedVariables false
set_option maxRecDepth 100000

/-- The bytes of a header; none of an invalid one. -/
def putHead (a b c d : Int) : List UInt8 := if headerB a b c d then [111, 98, 106, 1, UInt8.ofNat a.toNat, UInt8.ofNat b.toNat, UInt8.ofNat c.toNat] ++ leBytes 2 d.toNat ++ [0] else []
theorem putHead_length (a b c d : Int) : (putHead a b c d).length ≤ 10 := by
  unfold putHead
  split
  · simp [leBytes]
  · simp

set_option maxHeartbeats 1000000 in
theorem i_PutHeader (w : World) (a b c d : Int) :
    Calls Try.prog 22 #[headerV a b c d] w (RetB w (putHead a b c d)) := by
  cases hv : headerB a b c d
  · have E : putHead a b c d = [] := by simp [putHead, hv]
    rw [E]
    go_enter Try.func22, Try.ntmps22
    go_wp2_with fail
    refine (i_HeaderValid _ _ _ _ _).mono ?_
    rintro e w1 ⟨rfl, h1⟩
    have F1 := ((From.start w).alloc _).call h1
    rw [hv]
    clear h1
    go_wp2_with fail
    go_ret
    first
      | exact retB_nil _ _ _ rfl F1.below
      | exact ⟨_, rfl, World.ownsRow_lit w1 #[] 0 F1.le (Nat.zero_le _) rfl, (F1.alloc _).below⟩
  · have hh := hv
    simp only [headerB, Bool.and_eq_true] at hh
    obtain ⟨⟨⟨q1, q2⟩, q3⟩, q4⟩ := hh
    have q1 := (withinB_iff _ _ _).1 q1
    have q2 := (withinB_iff _ _ _).1 q2
    have q3 := (withinB_iff _ _ _).1 q3
    have q4 := (withinB_iff _ _ _).1 q4
    obtain ⟨A, rfl⟩ := Int.eq_ofNat_of_zero_le q1.1
    obtain ⟨B, rfl⟩ := Int.eq_ofNat_of_zero_le q2.1
    obtain ⟨C, rfl⟩ := Int.eq_ofNat_of_zero_le q3.1
    obtain ⟨D, rfl⟩ := Int.eq_ofNat_of_zero_le (show 0 ≤ d by omega)
    have q1 := q1.2
    have q2 := q2.2
    have q3 := q3.2
    obtain ⟨q4, q5⟩ := q4
    have E : putHead A B C D = [111, 98, 106, 1, UInt8.ofNat A, UInt8.ofNat B, UInt8.ofNat C] ++ leBytes 2 D ++ [0] := by simp [putHead, hv]
    have En : putNum (D : Int) 2 = leBytes 2 D := by
      unfold putNum numB
      rw [show withinB 2 1 4 = true from rfl, (withinB_iff _ _ _).2 (show 0 ≤ (D : Int) ∧ (D : Int) ≤ pow256 2 - 1 by show _ ∧ _ ≤ 65536 - 1; omega)]
      rfl
    have hcells : ([.int .u8 111, .int .u8 98, .int .u8 106, .int .u8 1, .int .u8 A, .int .u8 B, .int .u8 C] : List Value) = bvs [111, 98, 106, 1, UInt8.ofNat A, UInt8.ofNat B, UInt8.ofNat C] := by
      have f : ∀ n : Nat, n ≤ 255 → ((UInt8.ofNat n).toNat : Int) = n := fun n hn => by rw [UInt8.toNat_ofNat']; omega
      simp only [bvs, List.map_cons, List.map_nil, f A (by omega), f B (by omega), f C (by omega)]
      rfl
    obtain ⟨i0, hi, hz0, hz1, hz2⟩ := info_parts info_u8
    have EN := Lib.hid En
    have EE := Lib.hid E
    have HV := Lib.hid hv
    have HCL := Lib.hid hcells
    clear E En hv hcells
    go_enter Try.func22, Try.ntmps22
    go_wp2_with fail
    refine (i_HeaderValid _ _ _ _ _).mono ?_
    rintro e w1 ⟨rfl, h1⟩
    have F1 := ((From.start w).alloc _).call h1
    have b1 := (Blk.new w _ _).call h1
    have c1 := b1.cell
    have z1 := b1.lt
    rw [HV.out]
    clear h1
    go_wp2_with fail
    refine (i_PutNumber _ _ _).mono ?_
    rw [EN.out]
    rintro e w2 ⟨r, rfl, o2, h2⟩
    have hl2 : (leBytes 2 D).length = 2 := leBytes_length 2 D
    have F2 := (F1.alloc _).call h2
    have O2 : w2.ownsRow w.heap.size 5 1 (.slice (some ⟨w1.heap.size, 0, none⟩) 7 7) 7 [.int .u8 111, .int .u8 98, .int .u8 106, .int .u8 1, .int .u8 A, .int .u8 B, .int .u8 C] :=
      owns_call (World.ownsRow_lit (size := 1) w1 #[.int .u8 111, .int .u8 98, .int .u8 106, .int .u8 1, .int .u8 A, .int .u8 B, .int .u8 C] 7 F1.le (by decide) rfl) h2
    have S2 := src_reads Try.underlying22 o2.reads (bvs_one _)
    have HF := Lib.hid F2
    have HO := Lib.hid O2
    have HS := Lib.hid S2
    clear h2 o2 F1 b1 c1 F2 O2 S2 z1
    go_wp2_with (at_builtin; refine wpList_append_src rfl (.tmp 17) (.tmp 20) 22 22 rfl w.heap.size 5 i0 (.int .u8 0) 1 1 Try.underlying22 hi hz0 hz1 hz2 rfl (by decide) _ _ _ rfl HO.out _ _ _ rfl HS.out ?c1 ?c2 ?c3 ?_)
    case c1 => rw [hl2]; unfold maxLen; omega
    case c2 => rw [hl2]; omega
    case c3 => exact HF.out.le
    intro v3 w3 hown3 hgr3
    have F3 := HF.out.grown hgr3 (owns_block HO.out)
    have HF3 := Lib.hid F3
    have hown3' : w3.ownsRow w.heap.size 5 1 v3 9 (bvs ([111, 98, 106, 1, UInt8.ofNat A, UInt8.ofNat B, UInt8.ofNat C] ++ leBytes 2 D)) := by
      rw [bvs_append, ← HCL.out]; exact hown3
    have HO3 := Lib.hid hown3'
    clear hown3'
    clear hown3 F3 hgr3 HF HO HS
    go_wp2_with (at_builtin; refine wpList_append_src rfl _ _ 22 22 rfl w.heap.size 5 i0 (.int .u8 0) 1 1 Try.underlying22 hi hz0 hz1 hz2 rfl (by decide) _ _ _ rfl (HO3.out.alloc _) _ 1 [_] rfl (src_new Try.underlying22 _ [_] 1 1 1 _ rfl ?c0) ?c4 ?c5 ?c6 ?_)
    case c0 => intro u hu; obtain rfl := List.mem_singleton.1 hu; rfl
    case c4 => unfold maxLen; omega
    case c5 => omega
    case c6 => have := HF3.out.le; simp; omega
    intro v4 w4 hown4 hgr4
    have F4 := (HF3.out.alloc _).grown hgr4 (owns_block HO3.out)
    have HF4 := Lib.hid F4
    have HO4 : Hid (OwnB w4 w.heap.size v4 (putHead A B C D)) := by
      show OwnB _ _ _ _
      rw [EE.out]
      unfold OwnB
      rw [bvs_append, List.length_append, List.length_append, hl2]
      exact hown4
    clear hown4 F4 hgr4 HF3 HO3
    go_wp2_with fail
    go_ret
    exact ⟨_, rfl, HO4.out, HF4.out.below⟩
set_option maxHeartbeats 1000000 in
theorem s_PutHeader (w : World) (a b c d : Int) :
    Calls Try.prog 29 #[headerV a b c d] w (RetB w (putHead a b c d)) := by
  cases hv : headerB a b c d
  · have E : putHead a b c d = [] := by simp [putHead, hv]
    rw [E]
    go_enter Try.func29, Try.ntmps29
    go_wp2_with fail
    refine (s_HeaderValid _ _ _ _ _).mono ?_
    rintro e w1 ⟨rfl, h1⟩
    have F1 := ((From.start w).alloc _).call h1
    rw [hv]
    clear h1
    go_wp2_with fail
    go_ret
    first
      | exact retB_nil _ _ _ rfl F1.below
      | exact ⟨_, rfl, World.ownsRow_lit w1 #[] 0 F1.le (Nat.zero_le _) rfl, (F1.alloc _).below⟩
  · have hh := hv
    simp only [headerB, Bool.and_eq_true] at hh
    obtain ⟨⟨⟨q1, q2⟩, q3⟩, q4⟩ := hh
    have q1 := (withinB_iff _ _ _).1 q1
    have q2 := (withinB_iff _ _ _).1 q2
    have q3 := (withinB_iff _ _ _).1 q3
    have q4 := (withinB_iff _ _ _).1 q4
    obtain ⟨A, rfl⟩ := Int.eq_ofNat_of_zero_le q1.1
    obtain ⟨B, rfl⟩ := Int.eq_ofNat_of_zero_le q2.1
    obtain ⟨C, rfl⟩ := Int.eq_ofNat_of_zero_le q3.1
    obtain ⟨D, rfl⟩ := Int.eq_ofNat_of_zero_le (show 0 ≤ d by omega)
    have q1 := q1.2
    have q2 := q2.2
    have q3 := q3.2
    obtain ⟨q4, q5⟩ := q4
    have E : putHead A B C D = [111, 98, 106, 1, UInt8.ofNat A, UInt8.ofNat B, UInt8.ofNat C] ++ leBytes 2 D ++ [0] := by simp [putHead, hv]
    have En : putNum (D : Int) 2 = leBytes 2 D := by
      unfold putNum numB
      rw [show withinB 2 1 4 = true from rfl, (withinB_iff _ _ _).2 (show 0 ≤ (D : Int) ∧ (D : Int) ≤ pow256 2 - 1 by show _ ∧ _ ≤ 65536 - 1; omega)]
      rfl
    have hcells : ([.int .u8 111, .int .u8 98, .int .u8 106, .int .u8 1, .int .u8 A, .int .u8 B, .int .u8 C] : List Value) = bvs [111, 98, 106, 1, UInt8.ofNat A, UInt8.ofNat B, UInt8.ofNat C] := by
      have f : ∀ n : Nat, n ≤ 255 → ((UInt8.ofNat n).toNat : Int) = n := fun n hn => by rw [UInt8.toNat_ofNat']; omega
      simp only [bvs, List.map_cons, List.map_nil, f A (by omega), f B (by omega), f C (by omega)]
      rfl
    obtain ⟨i0, hi, hz0, hz1, hz2⟩ := info_parts info_u8
    have EN := Lib.hid En
    have EE := Lib.hid E
    have HV := Lib.hid hv
    have HCL := Lib.hid hcells
    clear E En hv hcells
    go_enter Try.func29, Try.ntmps29
    go_wp2_with fail
    refine (s_HeaderValid _ _ _ _ _).mono ?_
    rintro e w1 ⟨rfl, h1⟩
    have F1 := ((From.start w).alloc _).call h1
    have b1 := (Blk.new w _ _).call h1
    have c1 := b1.cell
    have z1 := b1.lt
    rw [HV.out]
    clear h1
    go_wp2_with fail
    refine (s_PutNumber _ _ _).mono ?_
    rw [EN.out]
    rintro e w2 ⟨r, rfl, o2, h2⟩
    have hl2 : (leBytes 2 D).length = 2 := leBytes_length 2 D
    have F2 := (F1.alloc _).call h2
    have O2 : w2.ownsRow w.heap.size 5 1 (.slice (some ⟨w1.heap.size, 0, none⟩) 7 7) 7 [.int .u8 111, .int .u8 98, .int .u8 106, .int .u8 1, .int .u8 A, .int .u8 B, .int .u8 C] :=
      owns_call (World.ownsRow_lit (size := 1) w1 #[.int .u8 111, .int .u8 98, .int .u8 106, .int .u8 1, .int .u8 A, .int .u8 B, .int .u8 C] 7 F1.le (by decide) rfl) h2
    have S2 := src_reads Try.underlying22 o2.reads (bvs_one _)
    have HF := Lib.hid F2
    have HO := Lib.hid O2
    have HS := Lib.hid S2
    clear h2 o2 F1 b1 c1 F2 O2 S2 z1
    go_wp2_with (at_builtin; refine wpList_append_src rfl (.tmp 18) (.tmp 21) 22 22 rfl w.heap.size 5 i0 (.int .u8 0) 1 1 Try.underlying22 hi hz0 hz1 hz2 rfl (by decide) _ _ _ rfl HO.out _ _ _ rfl HS.out ?c1 ?c2 ?c3 ?_)
    case c1 => rw [hl2]; unfold maxLen; omega
    case c2 => rw [hl2]; omega
    case c3 => exact HF.out.le
    intro v3 w3 hown3 hgr3
    have F3 := HF.out.grown hgr3 (owns_block HO.out)
    have HF3 := Lib.hid F3
    have hown3' : w3.ownsRow w.heap.size 5 1 v3 9 (bvs ([111, 98, 106, 1, UInt8.ofNat A, UInt8.ofNat B, UInt8.ofNat C] ++ leBytes 2 D)) := by
      rw [bvs_append, ← HCL.out]; exact hown3
    have HO3 := Lib.hid hown3'
    clear hown3'
    clear hown3 F3 hgr3 HF HO HS
    go_wp2_with (at_builtin; refine wpList_append_src rfl _ _ 22 22 rfl w.heap.size 5 i0 (.int .u8 0) 1 1 Try.underlying22 hi hz0 hz1 hz2 rfl (by decide) _ _ _ rfl (HO3.out.alloc _) _ 1 [_] rfl (src_new Try.underlying22 _ [_] 1 1 1 _ rfl ?c0) ?c4 ?c5 ?c6 ?_)
    case c0 => intro u hu; obtain rfl := List.mem_singleton.1 hu; rfl
    case c4 => unfold maxLen; omega
    case c5 => omega
    case c6 => have := HF3.out.le; simp; omega
    intro v4 w4 hown4 hgr4
    have F4 := (HF3.out.alloc _).grown hgr4 (owns_block HO3.out)
    have HF4 := Lib.hid F4
    have HO4 : Hid (OwnB w4 w.heap.size v4 (putHead A B C D)) := by
      show OwnB _ _ _ _
      rw [EE.out]
      unfold OwnB
      rw [bvs_append, List.length_append, List.length_append, hl2]
      exact hown4
    clear hown4 F4 hgr4 HF3 HO3
    go_wp2_with fail
    go_ret
    exact ⟨_, rfl, HO4.out, HF4.out.below⟩
/-! PlainA -/
theorem getNum_good {l : List UInt8} {a wide : Int} (h : 0 ≤ getNum l a wide) : withinB wide 1 4 = true ∧ withinB a 0 ((l.length : Int) - wide) = true ∧ getNum l a wide = leNum ((l.drop a.toNat).take wide.toNat) := by
  unfold getNum at h ⊢
  split at h
  · rename_i hc
    simp only [Bool.and_eq_true] at hc
    exact ⟨hc.1, hc.2, by rw [if_pos (by simp [hc.1, hc.2])]⟩
  · omega
theorem getNum_of {l : List UInt8} {a wide : Int} (h1 : withinB wide 1 4 = true) (h2 : withinB a 0 ((l.length : Int) - wide) = true) : getNum l a wide = leNum ((l.drop a.toNat).take wide.toNat) := by
  unfold getNum
  rw [if_pos (by simp [h1, h2])]
theorem leNum_append : ∀ a b : List UInt8, leNum (a ++ b) = leNum a + 256 ^ a.length * leNum b
  | [], b => by simp [leNum]
  | c :: r, b => by
    have ih := leNum_append r b
    simp only [List.cons_append, leNum, ih, List.length_cons, Int.pow_succ]
    rw [Int.mul_add, ← Int.mul_assoc, Int.mul_comm 256 (256 ^ r.length)]
    omega
theorem numJoin (l : List UInt8) (a : Int) (h : 0 ≤ getNum l a 4) : getNum l a 4 = getNum l a 2 + 65536 * getNum l (a + 2) 2 ∧ 0 ≤ a ∧ a + 4 ≤ l.length := by
  obtain ⟨_, h2, h3⟩ := getNum_good h
  have hb := (withinB_iff _ _ _).1 h2
  rw [h3, getNum_of (wide := 2) rfl ((withinB_iff _ _ _).2 ⟨hb.1, by omega⟩), getNum_of (wide := 2) rfl ((withinB_iff _ _ _).2 ⟨by omega, by omega⟩)]
  refine ⟨?_, hb.1, by omega⟩
  have e1 : (a + 2).toNat = a.toNat + 2 := by omega
  have hs : (l.drop a.toNat).take (4 : Int).toNat = (l.drop a.toNat).take (2 : Int).toNat ++ (l.drop (a + 2).toNat).take (2 : Int).toNat := by
    rw [e1, ← List.drop_drop]
    show (l.drop a.toNat).take (2 + 2) = _
    rw [List.take_add]
    rfl
  rw [hs, leNum_append]
  congr 2
  rw [List.length_take, List.length_drop]
  have : min (2 : Int).toNat (l.length - a.toNat) = 2 := by show min 2 _ = 2; omega
  rw [this]
  rfl
theorem leBytes_leNum : ∀ l : List UInt8, leBytes l.length (leNum l).toNat = l
  | [] => rfl
  | c :: r => by
    have hc := u8_lt c
    have hr := leNum_nonneg r
    have e : (leNum (c :: r)).toNat = c.toNat + 256 * (leNum r).toNat := by simp only [leNum]; omega
    simp only [List.length_cons, leBytes, e]
    rw [show (c.toNat + 256 * (leNum r).toNat) % 256 = c.toNat by omega, show (c.toNat + 256 * (leNum r).toNat) / 256 = (leNum r).toNat by omega, leBytes_leNum r]
    simp
theorem leNum_lt : ∀ l : List UInt8, leNum l < 256 ^ l.length
  | [] => by simp [leNum]
  | c :: r => by
    have hc := u8_lt c
    have ih := leNum_lt r
    simp only [leNum, List.length_cons, Int.pow_succ]
    omega
theorem leNum_leBytes : ∀ (k n : Nat), n < 256 ^ k → leNum (leBytes k n) = n
  | 0, n, h => by simp at h; subst h; rfl
  | k + 1, n, h => by
    have h2 : n / 256 < 256 ^ k := by rw [Nat.pow_succ] at h; omega
    simp only [leBytes, leNum, leNum_leBytes k _ h2, UInt8.toNat_ofNat']
    omega
theorem pow256_nat {wide : Int} (h : withinB wide 1 4 = true) : pow256 wide = ((256 ^ wide.toNat : Nat) : Int) := by
  rcases wide_four h with rfl | rfl | rfl | rfl <;> rfl
theorem putNum_getNum {l : List UInt8} {a wide : Int} (h : 0 ≤ getNum l a wide) : putNum (getNum l a wide) wide = (l.drop a.toNat).take wide.toNat ∧ 0 ≤ a ∧ a + wide ≤ l.length ∧ 1 ≤ wide := by
  obtain ⟨h1, h2, h3⟩ := getNum_good h
  have hb := (withinB_iff _ _ _).1 h2
  have hw := (withinB_iff _ _ _).1 h1
  have hlen : ((l.drop a.toNat).take wide.toNat).length = wide.toNat := by rw [List.length_take, List.length_drop]; omega
  refine ⟨?_, hb.1, by omega, hw.1⟩
  rw [h3]
  have h5 := leNum_lt ((l.drop a.toNat).take wide.toNat)
  have h6 := leBytes_leNum ((l.drop a.toNat).take wide.toNat)
  have h7 := leNum_nonneg ((l.drop a.toNat).take wide.toNat)
  rw [hlen] at h5 h6
  unfold putNum numB
  rw [if_pos]
  · exact h6
  · rw [h1, pow256_nat h1]
    simp only [Bool.true_and]
    refine (withinB_iff _ _ _).2 ⟨h7, ?_⟩
    have e5 : ((256 ^ wide.toNat : Nat) : Int) = (256 : Int) ^ wide.toNat := by rw [Int.natCast_pow]; rfl
    rw [e5]
    omega
theorem putNum_good {n wide : Int} (h : putNum n wide ≠ []) : numB n wide = true := by
  unfold putNum at h
  split at h
  · assumption
  · exact absurd rfl h
theorem getNum_putNum {n wide : Int} (h : numB n wide = true) : ((putNum n wide).length : Int) = wide ∧ getNum (putNum n wide) 0 wide = n := by
  have hh := h
  unfold numB at hh
  rw [Bool.and_eq_true] at hh
  have hw := (withinB_iff _ _ _).1 hh.1
  have hn := (withinB_iff _ _ _).1 hh.2
  have e : putNum n wide = leBytes wide.toNat n.toNat := by unfold putNum; rw [if_pos h]
  have hl : ((putNum n wide).length : Int) = wide := by rw [e, leBytes_length]; omega
  refine ⟨hl, ?_⟩
  rw [getNum_of hh.1 ((withinB_iff _ _ _).2 ⟨Int.le_refl _, by omega⟩)]
  have hl2 : (leBytes wide.toNat n.toNat).length = wide.toNat := leBytes_length _ _
  show leNum (List.take wide.toNat (List.drop 0 _)) = n
  rw [List.drop_zero, e, List.take_of_length_le (by omega), leNum_leBytes]
  · omega
  · rw [pow256_nat hh.1] at hn
    omega
theorem signedOf_law (n wide : Int) (h : numB n wide = true) : (signedOf n wide = n ∨ signedOf n wide = n - pow256 wide) ∧ - pow256 wide ≤ 2 * signedOf n wide ∧ 2 * signedOf n wide < pow256 wide := by
  have hh := h
  unfold numB at hh
  rw [Bool.and_eq_true] at hh
  have hn := (withinB_iff _ _ _).1 hh.2
  unfold signedOf
  rw [if_pos h]
  rcases wide_four hh.1 with rfl | rfl | rfl | rfl <;> simp only [pow256] at * <;> split <;> simp at * <;> omega
theorem alignUp_law (n to : Int) (h : 0 ≤ alignUp n to) : alignB to = true ∧ n ≤ alignUp n to ∧ alignUp n to < n + to ∧ alignUp n to % to = 0 ∧ 0 ≤ n ∧ n ≤ 1000000 := by
  unfold alignUp at h ⊢
  split at h
  · rename_i hc
    rw [if_pos hc]
    rw [Bool.and_eq_true] at hc
    have hn := (withinB_iff _ _ _).1 hc.2
    rcases (alignB_iff _).1 hc.1 with rfl | rfl | rfl | rfl <;> refine ⟨hc.1, ?_⟩ <;> omega
  · omega
theorem alignUp_neg (n to : Int) (h : ¬ 0 ≤ alignUp n to) : alignUp n to = -1 := by
  unfold alignUp at h ⊢
  split at h
  · rename_i hc
    rw [Bool.and_eq_true] at hc
    have hn := (withinB_iff _ _ _).1 hc.2
    exfalso; apply h
    rcases (alignB_iff _).1 hc.1 with rfl | rfl | rfl | rfl <;> omega
  · rename_i hc; rw [if_neg hc]
/-! BytesEq -/
open Go.ChangeShapes Go.WideShapes Go.ChangeAt Go.RowKit Go.Joins
set_option linter.unusedSimpArgs false
set_option linter.unusedVariables false
set_option maxRecDepth 100000
theorem bytesEqual_any (w : World) (v1 v2 : Value) (l1 l2 : List UInt8) (h1 : BytesAt w v1 l1) (h2 : BytesAt w v2 l2) :
    Calls Try.prog 41 #[v1, v2] w fun e w' => e = .returned (.bool (eqB l1 l2)) ∧ w = w' := by
  have k1 := conv_at w v1 l1 h1
  have k2 := conv_at w v2 l2 h2
  clear h1 h2
  have E : Hid (eqB l1 l2 = (l1 == l2)) := by show _ = _; unfold eqB; exact Bool.eq_iff_iff.2 (by simp)
  go_enter Try.func41, Try.ntmps41
  go_wp2_with fail
  go_ret
  exact ⟨by rw [E.out]; rfl, rfl⟩
/-! PlainT -/
/-! PlainN -/
theorem nameB_blank (s : ByteArray) : nameB (s ++ ⟨#[32]⟩) = false := by
  have hs : (s ++ ⟨#[32]⟩ : ByteArray).size = s.size + 1 := by rw [ByteArray.size_append]; rfl
  unfold nameB
  rw [Bool.and_eq_false_iff]
  left
  rw [decide_eq_false_iff_not]
  intro h
  have h1 := h s.size (by omega)
  have h2 : (s ++ ⟨#[32]⟩ : ByteArray)[s.size]'(by omega) = 32 := by
    rw [ByteArray.getElem_append_right (by omega)]
    simp
    rfl
  rw [h2] at h1
  simp [charB, letterB, digitB] at h1
theorem nameB_first {s t : ByteArray} (h : nameB s = true) (h1 : t.size = 1) (h2 : ∀ (a : 0 < t.size) (b : 0 < s.size), t[0] = s[0]) : nameB t = true := by
  unfold nameB at h ⊢
  simp only [Bool.and_eq_true, decide_eq_true_eq] at h ⊢
  have hb := (withinB_iff _ _ _).1 h.2
  refine ⟨fun i hi => ?_, (withinB_iff _ _ _).2 (by omega)⟩
  obtain rfl : i = 0 := by omega
  rw [h2 hi (by omega)]
  exact h.1 0 (by omega)
theorem nameB_size {s : ByteArray} (h : nameB s = true) : 1 ≤ s.size ∧ s.size ≤ 8 := by
  unfold nameB at h
  rw [Bool.and_eq_true] at h
  have hb := (withinB_iff _ _ _).1 h.2
  omega
/-- What a text in a table is. -/
theorem textAt_some : ∀ {l s : List UInt8}, textAt l = some s → ∃ r, l = s ++ 0 :: r ∧ ∀ c ∈ s, c ≠ 0
  | [], s, h => by simp [textAt] at h
  | c :: l, s, h => by
    unfold textAt at h
    split at h
    · rename_i hc
      simp at h
      subst h hc
      exact ⟨l, rfl, fun c hc => by cases hc⟩
    · rename_i hc
      rw [Option.map_eq_some_iff] at h
      obtain ⟨s', hs, rfl⟩ := h
      obtain ⟨r, rfl, h2⟩ := textAt_some hs
      refine ⟨r, rfl, fun d hd => ?_⟩
      rcases List.mem_cons.1 hd with rfl | hd
      · exact hc
      · exact h2 d hd
theorem textAt_of : ∀ {s r : List UInt8}, (∀ c ∈ s, c ≠ 0) → textAt (s ++ 0 :: r) = some s
  | [], r, _ => by simp [textAt]
  | c :: s, r, h => by
    have h1 : c ≠ 0 := h c (by simp)
    rw [List.cons_append, textAt, if_neg h1, textAt_of (fun d hd => h d (by simp [hd]))]
    rfl
theorem nameAtL_rest {l : List UInt8} {a : Int} {c : UInt8} {s : List UInt8} (h : nameAtL l a = some (c :: s)) :
    nameAtL l (a + 1) = some s ∧ 0 ≤ a ∧ a + ((c :: s).length : Int) < l.length ∧ l[(a + ((c :: s).length : Int)).toNat]? = some 0 := by
  unfold nameAtL at h
  split at h
  · rename_i hw
    have hw := (withinB_iff _ _ _).1 hw
    obtain ⟨r, hr, hne⟩ := textAt_some h
    have hl : (l.drop a.toNat).length = (c :: s).length + 1 + r.length := by rw [hr]; simp; omega
    rw [List.length_drop] at hl
    simp only [List.length_cons] at hl ⊢
    have hd : l.drop (a + 1).toNat = s ++ 0 :: r := by
      rw [show (a + 1).toNat = a.toNat + 1 by omega, ← List.drop_drop, hr]; rfl
    refine ⟨?_, hw.1, by omega, ?_⟩
    · unfold nameAtL
      rw [if_pos ((withinB_iff _ _ _).2 (by omega)), hd]
      exact textAt_of fun d hd => hne d (by simp [hd])
    · have : (l.drop a.toNat)[s.length + 1]? = some 0 := by
        rw [hr, List.getElem?_append_right (by simp)]; simp
      rw [List.getElem?_drop] at this
      rw [← this]
      congr 1
      omega
  · cases h
/-! PlainT -/
/-- The order of texts by their bytes. -/
abbrev less := Op.bytesLess
theorem less_irrefl : ∀ a : List UInt8, less a a = false
  | [] => rfl
  | c :: r => by simp [less, Op.bytesLess, less_irrefl r]
theorem less_trans : ∀ {a b c : List UInt8}, less a b = true → less b c = true → less a c = true
  | _, _, [], _, h => by simp [less, Op.bytesLess] at h
  | _, [], _ :: _, h, _ => by simp [less, Op.bytesLess] at h
  | [], _ :: _, _ :: _, _, _ => rfl
  | x :: a, y :: b, z :: c, h1, h2 => by
    simp only [less, Op.bytesLess, Bool.or_eq_true, decide_eq_true_eq, Bool.and_eq_true, beq_iff_eq] at h1 h2 ⊢
    rcases h1 with h1 | ⟨rfl, h1⟩
    · rcases h2 with h2 | ⟨rfl, h2⟩
      · exact .inl (UInt8.lt_trans h1 h2)
      · exact .inl h1
    · rcases h2 with h2 | ⟨rfl, h2⟩
      · exact .inl h2
      · exact .inr ⟨rfl, less_trans h1 h2⟩
theorem less_total : ∀ {a b : List UInt8}, less a b = false → a = b ∨ less b a = true
  | [], [], _ => .inl rfl
  | _ :: _, [], _ => .inr rfl
  | [], _ :: _, h => by simp [less, Op.bytesLess] at h
  | x :: a, y :: b, h => by
    simp only [less, Op.bytesLess, Bool.or_eq_false_iff, decide_eq_false_iff_not, Bool.and_eq_false_iff, beq_eq_false_iff_ne] at h
    simp only [less, Op.bytesLess, Bool.or_eq_true, decide_eq_true_eq, Bool.and_eq_true, beq_iff_eq]
    by_cases e : x = y
    · subst e
      rcases less_total (h.2.resolve_left (by simp)) with h1 | h1
      · exact .inl (by rw [h1])
      · exact .inr (.inr ⟨rfl, h1⟩)
    · right; left
      have h1 := h.1
      rw [UInt8.lt_iff_toNat_lt] at h1 ⊢
      have : x.toNat ≠ y.toNat := fun h => e (UInt8.toNat_inj.1 h)
      omega
/-- Ascending, each once. -/
def Asc (l : List (List UInt8)) : Prop := l.Pairwise fun a b => less a b = true
theorem asc_ext : ∀ {l k : List (List UInt8)}, Asc l → Asc k → (∀ x, x ∈ l ↔ x ∈ k) → l = k
  | [], [], _, _, _ => rfl
  | [], y :: k, _, _, h => by have := (h y).2 (by simp); cases this
  | x :: l, [], _, _, h => by have := (h x).1 (by simp); cases this
  | x :: l, y :: k, hl, hk, h => by
    have h1 := List.pairwise_cons.1 hl
    have h2 := List.pairwise_cons.1 hk
    have e : x = y := by
      rcases List.mem_cons.1 ((h x).1 (by simp)) with e | hx
      · exact e
      rcases List.mem_cons.1 ((h y).2 (by simp)) with e | hy
      · exact e.symm
      have a := h2.1 x hx
      have b := h1.1 y hy
      have := less_trans a b
      rw [less_irrefl] at this
      cases this
    subst e
    congr 1
    refine asc_ext h1.2 h2.2 fun z => ?_
    constructor
    · intro hz
      rcases List.mem_cons.1 ((h z).1 (by simp [hz])) with e | hz'
      · subst e; have := h1.1 z hz; rw [less_irrefl] at this; cases this
      · exact hz'
    · intro hz
      rcases List.mem_cons.1 ((h z).2 (by simp [hz])) with e | hz'
      · subst e; have := h2.1 z hz; rw [less_irrefl] at this; cases this
      · exact hz'
/-- A text put into an ascending list, once. -/
def insS (s : List UInt8) : List (List UInt8) → List (List UInt8)
  | [] => [s]
  | x :: r => if less x s = true then x :: insS s r else if x = s then x :: r else s :: x :: r
theorem mem_insS (s x : List UInt8) : ∀ l, x ∈ insS s l ↔ x = s ∨ x ∈ l
  | [] => by simp [insS]
  | y :: r => by
    have ih := mem_insS s x r
    unfold insS
    split
    · simp only [List.mem_cons, ih]; constructor
      · rintro (h | h | h) <;> simp [h]
      · rintro (h | h | h) <;> simp [h]
    · split
      · rename_i h; subst h; simp
      · simp
theorem insS_asc (s : List UInt8) : ∀ {l}, Asc l → Asc (insS s l)
  | [], _ => by simp [insS, Asc]
  | y :: r, h => by
    have h1 := List.pairwise_cons.1 h
    unfold insS
    split
    · rename_i hy
      refine List.pairwise_cons.2 ⟨fun z hz => ?_, insS_asc s h1.2⟩
      rcases (mem_insS s z r).1 hz with rfl | hz
      · exact hy
      · exact h1.1 z hz
    · rename_i hy
      split
      · exact h
      · rename_i hne
        have hs : less s y = true := (less_total (by simpa using hy)).resolve_left hne
        refine List.pairwise_cons.2 ⟨fun z hz => ?_, h⟩
        rcases List.mem_cons.1 hz with rfl | hz
        · exact hs
        · exact less_trans hs (h1.1 z hz)
/-- Texts by their bytes, each once. -/
def sortS (l : List (List UInt8)) : List (List UInt8) := l.foldl (fun a s => insS s a) []
theorem foldl_ins (l : List (List UInt8)) : ∀ a, Asc a → Asc (l.foldl (fun a s => insS s a) a) ∧ ∀ x, x ∈ l.foldl (fun a s => insS s a) a ↔ x ∈ a ∨ x ∈ l := by
  induction l with
  | nil => intro a h; exact ⟨h, fun x => by simp⟩
  | cons s r ih =>
    intro a h
    obtain ⟨h1, h2⟩ := ih _ (insS_asc s h)
    refine ⟨h1, fun x => ?_⟩
    rw [List.foldl_cons, h2, mem_insS, List.mem_cons]
    constructor
    · rintro ((h | h) | h) <;> simp [h]
    · rintro (h | h | h) <;> simp [h]
theorem sortS_asc (l : List (List UInt8)) : Asc (sortS l) := (foldl_ins l [] List.Pairwise.nil).1
theorem mem_sortS (l : List (List UInt8)) (x : List UInt8) : x ∈ sortS l ↔ x ∈ l := by
  have := (foldl_ins l [] List.Pairwise.nil).2 x
  simpa [sortS] using this
theorem sortS_eq {l k : List (List UInt8)} (hk : Asc k) (h : ∀ x, x ∈ k ↔ x ∈ l) : k = sortS l :=
  asc_ext hk (sortS_asc l) fun x => (h x).trans (mem_sortS l x).symm
theorem sortS_congr {l k : List (List UInt8)} (h : ∀ x, x ∈ k ↔ x ∈ l) : sortS k = sortS l :=
  sortS_eq (sortS_asc k) fun x => (mem_sortS k x).trans (h x)
theorem sortS_snoc (l : List (List UInt8)) (s : List UInt8) : sortS (l ++ [s]) = insS s (sortS l) := by simp [sortS]
theorem insS_length (s : List UInt8) : ∀ l, (insS s l).length ≤ l.length + 1
  | [] => by simp [insS]
  | y :: r => by
    have := insS_length s r
    unfold insS
    split
    · simp; omega
    · split <;> simp
theorem sortS_length (l : List (List UInt8)) : (sortS l).length ≤ l.length := by
  suffices h : ∀ (l a : List (List UInt8)), (l.foldl (fun a s => insS s a) a).length ≤ a.length + l.length by simpa [sortS] using h l []
  intro l
  induction l with
  | nil => intro a; simp
  | cons s r ih => intro a; have := ih (insS s a); have := insS_length s a; simp only [List.foldl_cons, List.length_cons]; omega

/-- Whether a text is the end of another one of a list. -/
def endB (l : List (List UInt8)) (s : List UInt8) : Bool := l.any fun x => decide (x ≠ s) && s.isSuffixOf x
theorem endB_iff (l : List (List UInt8)) (s : List UInt8) : endB l s = true ↔ ∃ x ∈ l, x ≠ s ∧ s <:+ x := by
  simp [endB]
/-- The texts of a list that are no end, each with a byte 0 behind it. -/
def tabBody (all : List (List UInt8)) : List (List UInt8) → List UInt8
  | [] => []
  | s :: r => (if endB all s then [] else s ++ [0]) ++ tabBody all r
theorem tabBody_append (all : List (List UInt8)) : ∀ l k, tabBody all (l ++ k) = tabBody all l ++ tabBody all k
  | [], k => rfl
  | s :: r, k => by simp [tabBody, tabBody_append all r k]
/-- The table of sorted texts. -/
def tabOf (l : List (List UInt8)) : List UInt8 := 0 :: tabBody l l
theorem tabBody_length (all : List (List UInt8)) (h : ∀ s ∈ all, s.length ≤ 8) : ∀ l, (∀ s ∈ l, s ∈ all) → (tabBody all l).length ≤ 9 * l.length
  | [], _ => by simp [tabBody]
  | s :: r, hl => by
    have ih := tabBody_length all h r fun x hx => hl x (by simp [hx])
    have := h s (hl s (by simp))
    simp only [tabBody, List.length_append, List.length_cons]
    split <;> simp <;> omega
theorem tabBody_congr {a b : List (List UInt8)} (h : ∀ s, endB a s = endB b s) : ∀ l, tabBody a l = tabBody b l
  | [] => rfl
  | s :: r => by simp [tabBody, h s, tabBody_congr h r]
/-- A text that ends nothing stands in the table. -/
theorem tabBody_mem {all : List (List UInt8)} {s : List UInt8} (h : endB all s = false) : ∀ {l}, s ∈ l → ∃ a b, tabBody all l = a ++ s ++ 0 :: b
  | x :: r, hx => by
    rcases List.mem_cons.1 hx with rfl | hx
    · exact ⟨[], tabBody all r, by simp [tabBody, h]⟩
    · obtain ⟨a, b, e⟩ := tabBody_mem h hx
      exact ⟨(if endB all x then [] else x ++ [0]) ++ a, b, by simp [tabBody, e]⟩
/-- Each text is the end of one that ends nothing. -/
theorem end_of {all : List (List UInt8)} (hb : ∀ s ∈ all, s.length ≤ 8) : ∀ (n : Nat) (s : List UInt8), s ∈ all → 8 ≤ s.length + n → ∃ x ∈ all, s <:+ x ∧ endB all x = false
  | n, s, hs, hn => by
    cases he : endB all s with
    | false => exact ⟨s, hs, List.suffix_refl s, he⟩
    | true =>
      obtain ⟨x, hx, hne, hsuf⟩ := (endB_iff _ _).1 he
      have hlt : s.length < x.length := by
        rcases Nat.lt_or_ge s.length x.length with h | h
        · exact h
        · exact absurd (hsuf.eq_of_length_le h).symm hne
      have hx8 := hb x hx
      cases n with
      | zero => omega
      | succ n =>
        obtain ⟨y, hy, h1, h2⟩ := end_of hb n x hx (by omega)
        exact ⟨y, hy, hsuf.trans h1, h2⟩
theorem placeOf_found {l nm : List UInt8} {k : Nat} (hk : k < l.length) (h : nameAtL l (k : Int) = some nm) : nameAtL l (placeOf l nm) = some nm ∧ 0 ≤ placeOf l nm := by
  unfold placeOf
  cases hf : (List.range l.length).find? (fun i : Nat => decide (nameAtL l (i : Int) = some nm)) with
  | none =>
    rw [List.find?_eq_none] at hf
    have := hf k (List.mem_range.2 hk)
    simp [h] at this
  | some i =>
    have := List.find?_some hf
    exact ⟨by simpa using this, by simp⟩
/-- The table has each of its texts. -/
theorem tab_has {all : List (List UInt8)} (hb : ∀ s ∈ all, s.length ≤ 8) (hz : ∀ s ∈ all, ∀ c ∈ s, c ≠ 0) {s : List UInt8} (hs : s ∈ all) :
    nameAtL (tabOf all) (placeOf (tabOf all) s) = some s ∧ 0 ≤ placeOf (tabOf all) s := by
  obtain ⟨x, hx, ⟨p, hp⟩, he⟩ := end_of hb 8 s hs (by omega)
  obtain ⟨a, b, e⟩ := tabBody_mem he hx
  have ht : tabOf all = (0 :: a ++ p) ++ (s ++ 0 :: b) := by
    unfold tabOf
    rw [e, ← hp]
    simp
  have hlt : (0 :: a ++ p).length < (tabOf all).length := by rw [ht]; simp; omega
  refine placeOf_found (k := (0 :: a ++ p).length) hlt ?_
  unfold nameAtL
  rw [if_pos ((withinB_iff _ _ _).2 ⟨by omega, by omega⟩), Int.toNat_natCast, ht, List.drop_left]
  exact textAt_of (hz s hs)
/-- An end of a text of the table, put in, changes nothing. -/
theorem tab_end {l : List (List UInt8)} {x e : List UInt8} (hx : x ∈ l) (he : e <:+ x) (hne : e.length < x.length) : tabOf (sortS (l ++ [e])) = tabOf (sortS l) := by
  have hmem : ∀ y, y ∈ sortS (l ++ [e]) ↔ y = e ∨ y ∈ l := by intro y; rw [mem_sortS]; simp [or_comm]
  have hE : ∀ s, endB (sortS (l ++ [e])) s = endB (sortS l) s := by
    intro s
    rw [Bool.eq_iff_iff, endB_iff, endB_iff]
    constructor
    · rintro ⟨y, hy, h1, h2⟩
      rcases (hmem y).1 hy with rfl | hy
      · refine ⟨x, (mem_sortS _ _).2 hx, ?_, h2.trans he⟩
        rintro rfl
        have := h2.length_le
        omega
      · exact ⟨y, (mem_sortS _ _).2 hy, h1, h2⟩
    · rintro ⟨y, hy, h1, h2⟩
      exact ⟨y, (hmem y).2 (.inr ((mem_sortS _ _).1 hy)), h1, h2⟩
  have hEe : endB (sortS l) e = true := (endB_iff _ _).2 ⟨x, (mem_sortS _ _).2 hx, by rintro rfl; omega, he⟩
  unfold tabOf
  rw [tabBody_congr hE, sortS_snoc]
  congr 1
  suffices h : ∀ k, tabBody (sortS l) (insS e k) = tabBody (sortS l) k from h _
  intro k
  induction k with
  | nil => simp [insS, tabBody, hEe]
  | cons y r ih =>
    unfold insS
    split
    · simp [tabBody, ih]
    · split
      · rfl
      · simp [tabBody, hEe]
/-- A text put into a list of texts, once. -/
def insB (s : ByteArray) : List ByteArray → List ByteArray
  | [] => [s]
  | x :: r => if less (bytesS x) (bytesS s) = true then x :: insB s r else if bytesS x = bytesS s then x :: r else s :: x :: r
theorem insB_map (s : ByteArray) : ∀ l, (insB s l).map bytesS = insS (bytesS s) (l.map bytesS)
  | [] => rfl
  | x :: r => by
    simp only [insB, List.map_cons, insS]
    split
    · simp [insB_map s r]
    · split <;> simp
theorem insB_same (s : ByteArray) : ∀ (l : List ByteArray) (k : Nat) (hk : k < l.length), (∀ j (hj : j < k), less (bytesS (l[j]'(by omega))) (bytesS s) = true) → less (bytesS l[k]) (bytesS s) = false → bytesS l[k] = bytesS s → insB s l = l
  | [], k, hk, _, _, _ => by simp at hk
  | x :: r, 0, _, _, h1, h2 => by
    have h1' : less (bytesS x) (bytesS s) = false := h1
    have h2' : bytesS x = bytesS s := h2
    rw [insB, if_neg (by rw [h1']; simp), if_pos h2']
  | x :: r, k + 1, hk, h, h1, h2 => by
    have h0 : less (bytesS x) (bytesS s) = true := h 0 (by omega)
    have ih := insB_same s r k (by simpa using hk) (fun j hj => h (j + 1) (by omega)) h1 h2
    simp [insB, h0, ih]
theorem insB_new (s : ByteArray) : ∀ (l : List ByteArray) (k : Nat) (hk : k ≤ l.length), (∀ j (hj : j < k), less (bytesS (l[j]'(by omega))) (bytesS s) = true) → (∀ h : k < l.length, less (bytesS l[k]) (bytesS s) = false ∧ bytesS l[k] ≠ bytesS s) → insB s l = l.take k ++ [s] ++ l.drop k
  | [], k, hk, _, _ => by simp [insB]
  | x :: r, 0, _, _, h => by
    have h1 : less (bytesS x) (bytesS s) = false := (h (by simp)).1
    have h2 : bytesS x ≠ bytesS s := (h (by simp)).2
    simp [insB, h1, h2]
  | x :: r, k + 1, hk, h, h1 => by
    have h0 : less (bytesS x) (bytesS s) = true := h 0 (by omega)
    have ih := insB_new s r k (by simpa using hk) (fun j hj => h (j + 1) (by omega)) (fun h' => h1 (by simpa using h'))
    simp [insB, h0, ih]
def sortB (l : List ByteArray) : List ByteArray := l.foldl (fun a s => insB s a) []
theorem sortB_map (l : List ByteArray) : (sortB l).map bytesS = sortS (l.map bytesS) := by
  unfold sortB sortS
  suffices h : ∀ (l a : List ByteArray), (l.foldl (fun a s => insB s a) a).map bytesS = (l.map bytesS).foldl (fun a s => insS s a) (a.map bytesS) from h l []
  intro l
  induction l with
  | nil => intro a; rfl
  | cons s r ih => intro a; rw [List.foldl_cons, ih, insB_map]; rfl
theorem sortB_snoc (l : List ByteArray) (s : ByteArray) : sortB (l ++ [s]) = insB s (sortB l) := by simp [sortB]
theorem insB_length (s : ByteArray) : ∀ l, (insB s l).length ≤ l.length + 1
  | [] => by simp [insB]
  | y :: r => by
    have := insB_length s r
    unfold insB
    split
    · simp; omega
    · split <;> simp
theorem sortB_length (l : List ByteArray) : (sortB l).length ≤ l.length := by
  suffices h : ∀ (l a : List ByteArray), (l.foldl (fun a s => insB s a) a).length ≤ a.length + l.length by simpa [sortB] using h l []
  intro l
  induction l with
  | nil => intro a; simp
  | cons s r ih => intro a; have := ih (insB s a); have := insB_length s a; simp only [List.foldl_cons, List.length_cons]; omega
theorem mem_insB (s x : ByteArray) : ∀ l, x ∈ insB s l → x = s ∨ x ∈ l
  | [], h => by simp [insB] at h; exact .inl h
  | y :: r, h => by
    unfold insB at h
    split at h
    · rcases List.mem_cons.1 h with rfl | h
      · exact .inr (by simp)
      · rcases mem_insB s x r h with h | h
        · exact .inl h
        · exact .inr (by simp [h])
    · split at h
      · exact .inr h
      · rcases List.mem_cons.1 h with h | h
        · exact .inl h
        · exact .inr h
theorem mem_sortB (l : List ByteArray) (x : ByteArray) (h : x ∈ sortB l) : x ∈ l := by
  suffices H : ∀ (l a : List ByteArray), x ∈ l.foldl (fun a s => insB s a) a → x ∈ a ∨ x ∈ l by simpa using H l [] h
  intro l
  induction l with
  | nil => intro a h; exact .inl h
  | cons s r ih =>
    intro a h
    rcases ih _ h with h | h
    · rcases mem_insB s x a h with rfl | h
      · exact .inr (by simp)
      · exact .inl h
    · exact .inr (by simp [h])
/-- Whether one of the first j texts of an ascending list, but not the k-th, ends with the k-th. -/
def endUp (L : List (List UInt8)) (k j : Nat) : Bool := (List.range j).any fun i => decide (i ≠ k) && (L.getD k []).isSuffixOf (L.getD i [])
theorem endUp_succ (L : List (List UInt8)) (k j : Nat) : endUp L k (j + 1) = (endUp L k j || (decide (j ≠ k) && (L.getD k []).isSuffixOf (L.getD j []))) := by
  simp [endUp, List.range_succ]
theorem endUp_all {L : List (List UInt8)} (h : Asc L) {k : Nat} (hk : k < L.length) : endUp L k L.length = endB L L[k] := by
  rw [Bool.eq_iff_iff]
  have hg : L.getD k [] = L[k] := by simp [List.getD, List.getElem?_eq_getElem hk]
  simp only [endUp, endB, List.any_eq_true, List.mem_range, Bool.and_eq_true, decide_eq_true_eq, hg]
  constructor
  · rintro ⟨i, hi, hne, hs⟩
    have hgi : L.getD i [] = L[i] := by simp [List.getD, List.getElem?_eq_getElem hi]
    rw [hgi] at hs
    refine ⟨L[i], List.getElem_mem hi, ?_, hs⟩
    intro e
    rcases Nat.lt_or_gt_of_ne hne with h1 | h1
    · have := (List.pairwise_iff_getElem.1 h) i k hi hk h1
      rw [e, less_irrefl] at this
      cases this
    · have := (List.pairwise_iff_getElem.1 h) k i hk hi h1
      rw [e, less_irrefl] at this
      cases this
  · rintro ⟨x, hx, hne, hs⟩
    obtain ⟨i, hi, rfl⟩ := List.getElem_of_mem hx
    refine ⟨i, hi, fun e => hne (by subst e; rfl), ?_⟩
    simpa [List.getD, List.getElem?_eq_getElem hi] using hs
/-! PlainC -/
set_option linter.unusedSimpArgs false
set_option linter.unusedVariables false
theorem lt_less : ∀ {a b : List UInt8}, a < b ↔ less a b = true
  | a, [] => by cases a <;> simp [less, Op.bytesLess]
  | [], y :: b => by simp [less, Op.bytesLess]
  | x :: a, y :: b => by
    rw [List.cons_lt_cons_iff, lt_less (a := a) (b := b)]
    simp [less, Op.bytesLess]
theorem le_less {a b : List UInt8} : a ≤ b ↔ less b a = false := by
  show ¬ b < a ↔ _
  rw [lt_less]
  simp
theorem le_cases {a b : List UInt8} (h : less b a = false) : a = b ∨ less a b = true := by
  rcases less_total h with h | h
  · exact .inl h.symm
  · exact .inr h
theorem compactUpTo_sorted (d : Array (List UInt8)) (h : ∀ i j, i < j → j < d.size → less d[j]! d[i]! = false) : ∀ m, m ≤ d.size → Asc (Lib.compactUpTo d m) ∧ ∀ x, x ∈ Lib.compactUpTo d m ↔ ∃ j, j < m ∧ d[j]! = x
  | 0, _ => by simp [Lib.compactUpTo, Asc]
  | m + 1, hm => by
    obtain ⟨h1, h2⟩ := compactUpTo_sorted d h m (by omega)
    rw [Lib.compactUpTo_succ]
    cases hk : Lib.keeps d m
    · simp only [Bool.false_eq_true, if_false, List.append_nil]
      refine ⟨h1, fun x => ?_⟩
      rw [h2]
      have hk' : ¬ (m = 0 ∨ d[m]! ≠ d[m - 1]!) := by simpa [Lib.keeps] using hk
      have hm0 : m ≠ 0 := fun e => hk' (.inl e)
      have he : d[m]! = d[m - 1]! := Classical.byContradiction fun e => hk' (.inr e)
      constructor
      · rintro ⟨j, hj, e⟩; exact ⟨j, by omega, e⟩
      · rintro ⟨j, hj, e⟩
        by_cases hjm : j < m
        · exact ⟨j, hjm, e⟩
        · obtain rfl : j = m := by omega
          exact ⟨j - 1, by omega, by rw [← he]; exact e⟩
    · simp only [if_true]
      have hk' : m = 0 ∨ d[m]! ≠ d[m - 1]! := by simpa [Lib.keeps] using hk
      refine ⟨List.pairwise_append.2 ⟨h1, by simp, fun a ha b hb => ?_⟩, fun x => ?_⟩
      · obtain rfl := List.mem_singleton.1 hb
        obtain ⟨j, hj, rfl⟩ := (h2 a).1 ha
        have hne : d[m]! ≠ d[m - 1]! := hk'.resolve_left (by omega)
        have h3 : less d[m - 1]! d[m]! = true := (le_cases (h (m - 1) m (by omega) (by omega))).resolve_left (Ne.symm hne)
        by_cases hjm : j = m - 1
        · rw [hjm]; exact h3
        · rcases le_cases (h j (m - 1) (by omega) (by omega)) with e | e
          · rw [e]; exact h3
          · exact less_trans e h3
      · rw [List.mem_append, h2, List.mem_singleton]
        constructor
        · rintro (⟨j, hj, e⟩ | e)
          · exact ⟨j, by omega, e⟩
          · exact ⟨m, by omega, e.symm⟩
        · rintro ⟨j, hj, e⟩
          by_cases hjm : j < m
          · exact .inl ⟨j, hjm, e⟩
          · obtain rfl : j = m := by omega
            exact .inr e.symm
theorem get_bang (zs : List (List UInt8)) (j : Nat) (hj : j < zs.length) : zs.toArray[j]! = zs[j] := by simp [hj]
theorem compact_sorted (zs : List (List UInt8)) (h : zs.Pairwise fun a b => less b a = false) : Asc (Lib.compact zs) ∧ ∀ x, x ∈ Lib.compact zs ↔ x ∈ zs := by
  have h0 := compactUpTo_sorted zs.toArray (fun i j hij hj => by
    have hj' : j < zs.length := by simpa using hj
    rw [get_bang zs j hj', get_bang zs i (by omega)]
    exact List.pairwise_iff_getElem.1 h i j (by omega) hj' hij) zs.length (by simp)
  refine ⟨h0.1, fun x => ?_⟩
  unfold Lib.compact
  rw [h0.2]
  constructor
  · rintro ⟨j, hj, e⟩
    rw [get_bang zs j hj] at e
    exact e ▸ List.getElem_mem hj
  · intro hx
    obtain ⟨j, hj, e⟩ := List.getElem_of_mem hx
    exact ⟨j, hj, by rw [get_bang zs j hj]; exact e⟩
theorem less_trans_le {a b c : List UInt8} (h1 : less b a = false) (h2 : less c b = false) : less c a = false := by
  cases h : less c a with
  | false => rfl
  | true =>
    rcases le_cases h2 with e | e
    · subst e; rw [h] at h1; cases h1
    · have := less_trans e h; rw [this] at h1; cases h1
/-- The library's way: sorted, then each once. -/
theorem sort_compact (zs : List (List UInt8)) : Lib.compact (zs.mergeSort fun x y => decide (x ≤ y)) = sortS zs := by
  have hp := List.pairwise_mergeSort (le := fun x y : List UInt8 => decide (x ≤ y)) (fun a b c h1 h2 => by
    simp only [decide_eq_true_eq, le_less] at h1 h2 ⊢
    exact less_trans_le h1 h2) (fun a b => by
    simp only [Bool.or_eq_true, decide_eq_true_eq, le_less]
    cases h : less b a with
    | false => exact .inl rfl
    | true =>
      right
      cases h2 : less a b with
      | false => rfl
      | true => have := less_trans h h2; rw [less_irrefl] at this; cases this) zs
  have h := compact_sorted (zs.mergeSort fun x y => decide (x ≤ y)) (hp.imp fun h => by simpa [le_less] using h)
  exact sortS_eq h.1 fun x => (h.2 x).trans List.mem_mergeSort
end Go.Proofs.Ytkefbhidfbnipaa
