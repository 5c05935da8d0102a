/- Slices of bytes: copied, compared, marked. -/
import Derived.Test.YtnompmdnonelhaaBase
import Derived.Test.YtnompmdnonelhaaNum
import Derived.BigQuiet
import Derived.Deep.QuietTactic
namespace Go.Proofs.Ytnompmdnonelhaa
open Go.ChangeShapes Go.WideShapes Go.ChangeAt Go.RowKit Go.Joins
set_option linter.unusedSimpArgs false
set_option linter.unusedVariables false
set_option maxRecDepth 100000

/-- What a function ends in that hands back bytes of its own. -/
def RetB (w : World) (l : List UInt8) (e : Ending) (w' : World) : Prop := ∃ r, e = .returned r ∧ OwnB w' w.heap.size r l ∧ Below w.heap.size w w'

theorem set_fill (l : List UInt8) (k : Nat) (hk : k < l.length) :
    (bvs (l.take k) ++ List.replicate (l.length - k) (Value.int .u8 0)).set k (.int .u8 (l[k].toNat : Int)) = bvs (l.take (k + 1)) ++ List.replicate (l.length - (k + 1)) (Value.int .u8 0) := by
  have hl : (bvs (l.take k)).length = k := by rw [bvs_length, List.length_take]; omega
  rw [List.set_append, if_neg (by omega), hl, Nat.sub_self, List.take_succ_eq_append_getElem hk, bvs_append, List.append_assoc]
  congr 1
  rw [show l.length - k = (l.length - (k + 1)) + 1 by omega, List.replicate_succ]
  rfl

set_option maxHeartbeats 1000000 in
theorem toByteS_any (w : World) (v : Value) (l : List UInt8) (h : BytesAt w v l) (hl : l.length ≤ 1073741824) :
    Calls Try.prog 134 #[v] w (RetB w l) := by
  obtain ⟨a, cap, rfl, hcap, hmax, hnone, hcell⟩ := h.form
  obtain ⟨i0, hi, hz0, hz1, hz2⟩ := info_parts info_u8
  have HH := Lib.hid hcell
  clear h hcell hnone
  go_enter Try.func134, Try.ntmps134
  go_wp2_with (at_make; refine wpList_make_full _ rfl _ _ 22 rfl w.heap.size 5 i0 (.int .u8 0) 1 Try.underlying22 hi hz0 hz1 _ _ _ _ l.length rfl rfl rfl rfl ?c1 ?c2 ?c3 ?_)
  case c1 => rw [hz2]; omega
  case c2 => unfold maxLen; omega
  case c3 => exact Nat.le_refl _
  intro w1 hown hgr
  have F1 := (From.start w).grown hgr (fun k h => by cases h)
  clear hgr
  have hsz : w.heap.size = w.heap.size := rfl
  go_wp2_with fail
  go_loopw [4] (fun i wr => ∃ k : Nat, k ≤ l.length ∧ i = .int .i64 k ∧
      wr.ownsRow w.heap.size 5 1 (.slice (some ⟨w.heap.size, 0, none⟩) l.length l.length) l.length (bvs (l.take k) ++ List.replicate (l.length - k) (Value.int .u8 0)) ∧ From w.heap.size w wr) (fun i _ => l.length - (intOf i).toNat)
  case atStart => exact ⟨0, Nat.zero_le _, rfl, by simpa [toList_madeCells_one, bvs] using hown, F1⟩
  case round =>
    obtain ⟨k, hk, rfl, hown, F⟩ := hrel
    by_cases hlt : k < l.length
    · obtain ⟨b, off, rfl, hc⟩ := HH.out (by omega)
      have hsrc := hc k hlt
      have hb : b < w.heap.size := World.block_lt_of_cell? w _ hsrc
      have hsrc' : wr.cell? ⟨b, off + k, none⟩ = some (.int .u8 (l[k].toNat : Int)) := by rw [F.below.cell (p := ⟨b, off + k, none⟩) hb]; exact hsrc
      have hd := hown.cellAt k (by omega)
      have hf := hown.frozenAt k
      have hd' : ∃ u, wr.cell? ⟨w.heap.size, k, none⟩ = some u := ⟨_, hd.trans (List.getElem?_eq_getElem (by rw [hown.1]; omega))⟩
      obtain ⟨u0, hd'⟩ := hd'
      have HO := Lib.hid hown
      have HF := Lib.hid F
      clear hsrc hc hd hown F
      go_wp2_with fail
      go_roundw
      case rel =>
        refine ⟨k + 1, by omega, by go_num, ?_, HF.out.setCell (Nat.le_refl _) _⟩
        rw [← set_fill l k hlt]
        exact (HO.out.stored k _).1
      case measure => simp [intOf]; omega
    · obtain rfl : k = l.length := by omega
      go_wp2_with fail
      go_ret
      refine ⟨_, rfl, ?_, F.below⟩
      simpa [OwnB] using hown

/-- Whether bytes are equal. -/
def eqB (a b : List UInt8) : Bool := decide (a = b)
theorem eqB_self (a : List UInt8) : eqB a a = true := by simp [eqB]
theorem eqB_len {a b : List UInt8} (h : a.length ≠ b.length) : eqB a b = false := by
  unfold eqB; rw [decide_eq_false_iff_not]; intro e; rw [e] at h; exact h rfl
theorem eqB_bad {a b : List UInt8} {k : Nat} (ha : k < a.length) (hb : k < b.length) (h : a[k] ≠ b[k]) : eqB a b = false := by
  unfold eqB; rw [decide_eq_false_iff_not]; intro e; subst e; exact h rfl
theorem eqB_all {a b : List UInt8} (hl : a.length = b.length) (h : ∀ j, (h1 : j < a.length) → (h2 : j < b.length) → a[j] = b[j]) : eqB a b = true := by
  unfold eqB; rw [decide_eq_true_eq]
  exact List.ext_getElem hl h
theorem u8_ne {a b : UInt8} (h : a ≠ b) : ((a.toNat : Int) != (b.toNat : Int)) = true := by
  rw [bne_iff_ne]; intro e; exact h (UInt8.toNat_inj.1 (by omega))
theorem u8_eq {a b : UInt8} (h : a = b) : ((a.toNat : Int) != (b.toNat : Int)) = false := by subst h; simp
theorem ret_bool' {a b : Bool} (h : a = b) : Ending.returned (.bool a) = .returned (.bool b) := by rw [h]

set_option maxHeartbeats 1000000 in
theorem l_eqByteS (w : World) (v1 v2 : Value) (l1 l2 : List UInt8) (h1 : BytesAt w v1 l1) (h2 : BytesAt w v2 l2) :
    Calls Try.prog 44 #[v1, v2] w fun e w' => e = .returned (.bool (eqB l1 l2)) ∧ Below w.heap.size w w' := by
  obtain ⟨a1, cap1, rfl, hcap1, hmax1, hnone1, hcell1⟩ := h1.form
  obtain ⟨a2, cap2, rfl, hcap2, hmax2, hnone2, hcell2⟩ := h2.form
  have H1 := Lib.hid hcell1
  have H2 := Lib.hid hcell2
  clear h1 h2 hcell1 hcell2 hnone1 hnone2
  unfold maxLen at hmax1 hmax2
  by_cases hlen : l1.length = l2.length
  · have hb : ((l1.length : Int) != (l2.length : Int)) = false := by rw [hlen]; simp
    have HL := Lib.hid hlen
    clear hlen
    go_enter Try.func44, Try.ntmps44
    go_wp2_with fail
    go_loopw [5] (fun i wr => ∃ k : Nat, k ≤ l1.length ∧ i = .int .i64 k ∧ (∃ d, wr = w.drewN d) ∧ Hid (∀ j, (h1 : j < l1.length) → (h2 : j < l2.length) → j < k → l1[j] = l2[j])) (fun i _ => l1.length - (intOf i).toNat)
    case atStart => exact ⟨0, Nat.zero_le _, rfl, ⟨0, rfl⟩, fun j _ _ h => absurd h (Nat.not_lt_zero _)⟩
    case round =>
      obtain ⟨k, hk, rfl, ⟨d, rfl⟩, hall⟩ := hrel
      by_cases hlt : k < l1.length
      · have hlt2 : k < l2.length := by rw [← HL.out]; exact hlt
        obtain ⟨b1, off1, rfl, hc1⟩ := H1.out (by omega)
        obtain ⟨b2, off2, rfl, hc2⟩ := H2.out (by omega)
        have g1 := hc1 k hlt
        have g2 := hc2 k hlt2
        have i1 : (k : Int) < (l1.length : Int) := by omega
        have i2 : (k : Int) < (l2.length : Int) := by omega
        have i3 : (0 : Int) ≤ (k : Int) := by omega
        clear hc1 hc2
        by_cases he : l1[k] = l2[k]
        · have hbe := u8_eq he
          have HE := Lib.hid he
          clear he
          go_wp2_with fail
          go_quiet (fail)
          go_wp2_with fail
          go_roundw
          case rel =>
            refine ⟨k + 1, by omega, by go_num, ⟨_, rfl⟩, fun j h1 h2 hj => ?_⟩
            rcases Nat.lt_succ_iff_lt_or_eq.1 hj with h | rfl
            · exact hall.out j h1 h2 h
            · exact HE.out
          case measure => simp [intOf]; omega
        · have hbe := u8_ne he
          have HE := Lib.hid he
          clear he
          go_wp2_with fail
          go_quiet (fail)
          go_wp2_with fail
          go_ret
          exact ⟨ret_bool' (eqB_bad hlt hlt2 HE.out).symm, (((From.start w).drewN _).drewN _).below⟩
      · have E : Hid (eqB l1 l2 = true) := eqB_all HL.out fun j h1 h2 => hall.out j h1 h2 (by omega)
        go_wp2_with fail
        go_ret
        exact ⟨by rw [E.out]; rfl, ((From.start w).drewN _).below⟩
  · have hb : ((l1.length : Int) != (l2.length : Int)) = true := by rw [bne_iff_ne]; omega
    have E : Hid (eqB l1 l2 = false) := eqB_len hlen
    clear hlen
    go_enter Try.func44, Try.ntmps44
    go_wp2_with fail
    go_ret
    exact ⟨by rw [E.out]; rfl, Below.refl _ _⟩
set_option maxHeartbeats 1000000 in
theorem l_sameBytes (w : World) (v1 v2 : Value) (l1 l2 : List UInt8) (h1 : BytesAt w v1 l1) (h2 : BytesAt w v2 l2) :
    Calls Try.prog 39 #[v1, v2] w fun e w' => e = .returned (.bool (eqB l1 l2)) ∧ Below w.heap.size w w' := by
  obtain ⟨a1, cap1, rfl, hcap1, hmax1, hnone1, hcell1⟩ := h1.form
  obtain ⟨a2, cap2, rfl, hcap2, hmax2, hnone2, hcell2⟩ := h2.form
  have H1 := Lib.hid hcell1
  have H2 := Lib.hid hcell2
  clear h1 h2 hcell1 hcell2 hnone1 hnone2
  unfold maxLen at hmax1 hmax2
  by_cases hlen : l1.length = l2.length
  · have hb : ((l1.length : Int) != (l2.length : Int)) = false := by rw [hlen]; simp
    have HL := Lib.hid hlen
    clear hlen
    go_enter Try.func39, Try.ntmps39
    go_wp2_with fail
    go_loopw [5] (fun i wr => ∃ k : Nat, k ≤ l1.length ∧ i = .int .i64 k ∧ (∃ d, wr = w.drewN d) ∧ Hid (∀ j, (h1 : j < l1.length) → (h2 : j < l2.length) → j < k → l1[j] = l2[j])) (fun i _ => l1.length - (intOf i).toNat)
    case atStart => exact ⟨0, Nat.zero_le _, rfl, ⟨0, rfl⟩, fun j _ _ h => absurd h (Nat.not_lt_zero _)⟩
    case round =>
      obtain ⟨k, hk, rfl, ⟨d, rfl⟩, hall⟩ := hrel
      by_cases hlt : k < l1.length
      · have hlt2 : k < l2.length := by rw [← HL.out]; exact hlt
        obtain ⟨b1, off1, rfl, hc1⟩ := H1.out (by omega)
        obtain ⟨b2, off2, rfl, hc2⟩ := H2.out (by omega)
        have g1 := hc1 k hlt
        have g2 := hc2 k hlt2
        have i1 : (k : Int) < (l1.length : Int) := by omega
        have i2 : (k : Int) < (l2.length : Int) := by omega
        have i3 : (0 : Int) ≤ (k : Int) := by omega
        clear hc1 hc2
        by_cases he : l1[k] = l2[k]
        · have hbe := u8_eq he
          have HE := Lib.hid he
          clear he
          go_wp2_with fail
          go_quiet (fail)
          go_wp2_with fail
          go_roundw
          case rel =>
            refine ⟨k + 1, by omega, by go_num, ⟨_, rfl⟩, fun j h1 h2 hj => ?_⟩
            rcases Nat.lt_succ_iff_lt_or_eq.1 hj with h | rfl
            · exact hall.out j h1 h2 h
            · exact HE.out
          case measure => simp [intOf]; omega
        · have hbe := u8_ne he
          have HE := Lib.hid he
          clear he
          go_wp2_with fail
          go_quiet (fail)
          go_wp2_with fail
          go_ret
          exact ⟨ret_bool' (eqB_bad hlt hlt2 HE.out).symm, (((From.start w).drewN _).drewN _).below⟩
      · have E : Hid (eqB l1 l2 = true) := eqB_all HL.out fun j h1 h2 => hall.out j h1 h2 (by omega)
        go_wp2_with fail
        go_ret
        exact ⟨by rw [E.out]; rfl, ((From.start w).drewN _).below⟩
  · have hb : ((l1.length : Int) != (l2.length : Int)) = true := by rw [bne_iff_ne]; omega
    have E : Hid (eqB l1 l2 = false) := eqB_len hlen
    clear hlen
    go_enter Try.func39, Try.ntmps39
    go_wp2_with fail
    go_ret
    exact ⟨by rw [E.out]; rfl, Below.refl _ _⟩

/-- The number of bytes, the lowest first. -/
def leNum : List UInt8 → Int
  | [] => 0
  | c :: r => (c.toNat : Int) + 256 * leNum r
theorem leNum_nonneg : ∀ l : List UInt8, 0 ≤ leNum l
  | [] => Int.le_refl _
  | c :: r => by have := leNum_nonneg r; show 0 ≤ (c.toNat : Int) + 256 * leNum r; omega
theorem u8_lt (c : UInt8) : c.toNat < 256 := c.toNat_lt
theorem leNum_3 (l : List UInt8) (h : l.length ≤ 3) : leNum l ≤ 16777215 := by
  match l, h with
  | [], _ => decide
  | [a], _ => have := u8_lt a; simp only [leNum]; omega
  | [a, b], _ => have := u8_lt a; have := u8_lt b; simp only [leNum]; omega
  | [a, b, c], _ => have := u8_lt a; have := u8_lt b; have := u8_lt c; simp only [leNum]; omega
  | a :: b :: c :: d :: r, h => simp only [List.length_cons] at h; omega
theorem leNum_4 (l : List UInt8) (h : l.length ≤ 4) : leNum l ≤ 4294967295 := by
  match l, h with
  | [], _ => decide
  | a :: r, h => have := leNum_3 r (by simpa using h); have := u8_lt a; simp only [leNum]; omega
/-- The number of bytes from a place on, -1 if they are not there. -/
def getNum (l : List UInt8) (at' wide : Int) : Int := if withinB wide 1 4 && withinB at' 0 ((l.length : Int) - wide) then leNum ((l.drop at'.toNat).take wide.toNat) else -1
theorem getNum_range (l : List UInt8) (at' wide : Int) : -1 ≤ getNum l at' wide ∧ getNum l at' wide ≤ 4294967295 := by
  unfold getNum
  split
  · rename_i h
    simp only [Bool.and_eq_true] at h
    have h1 := (withinB_iff _ _ _).1 h.1
    have a := leNum_nonneg ((l.drop at'.toNat).take wide.toNat)
    have b := leNum_4 ((l.drop at'.toNat).take wide.toNat) (by rw [List.length_take]; omega)
    omega
  · omega
theorem leNum_step (l : List UInt8) (A W j : Nat) (hj : j < W) (hA : A + W ≤ l.length) :
    leNum ((l.drop (A + j)).take (W - j)) = (l[A + j].toNat : Int) + 256 * leNum ((l.drop (A + (j + 1))).take (W - (j + 1))) := by
  rw [List.drop_eq_getElem_cons (by omega), show W - j = (W - (j + 1)) + 1 by omega, List.take_succ_cons]
  rfl


/-- The bytes of a number, the lowest first. -/
def leBytes : Nat → Nat → List UInt8
  | 0, _ => []
  | k + 1, n => UInt8.ofNat (n % 256) :: leBytes k (n / 256)
theorem leBytes_length : ∀ k n, (leBytes k n).length = k
  | 0, _ => rfl
  | k + 1, n => by simp [leBytes, leBytes_length k]
theorem leBytes_snoc : ∀ k n, leBytes (k + 1) n = leBytes k n ++ [UInt8.ofNat (n / 256 ^ k % 256)]
  | 0, n => by simp [leBytes]
  | k + 1, n => by
    rw [leBytes, leBytes_snoc k (n / 256)]
    show _ = UInt8.ofNat (n % 256) :: leBytes k (n / 256) ++ _
    rw [List.cons_append, Nat.div_div_eq_div_mul, show 256 ^ (k + 1) = 256 * 256 ^ k by rw [Nat.pow_succ, Nat.mul_comm]]
def putNum (n wide : Int) : List UInt8 := if numB n wide then leBytes wide.toNat n.toNat else []
theorem putNum_length (n wide : Int) : (putNum n wide).length ≤ 4 := by
  unfold putNum
  split
  · rename_i h
    rw [leBytes_length]
    unfold numB at h
    simp only [Bool.and_eq_true] at h
    have := (withinB_iff _ _ _).1 h.1
    omega
  · simp

theorem owns_snoc {w : World} {base : Nat} {v : Value} {l : List UInt8} {c : UInt8} {x : Int} (h : w.ownsRow base 5 1 v (l.length + 1) (bvs l ++ [Value.int .u8 x])) (hx : x = (c.toNat : Int)) : OwnB w base v (l ++ [c]) := by
  subst hx
  unfold OwnB
  rw [List.length_append, bvs_append]
  exact h

end Go.Proofs.Ytnompmdnonelhaa
