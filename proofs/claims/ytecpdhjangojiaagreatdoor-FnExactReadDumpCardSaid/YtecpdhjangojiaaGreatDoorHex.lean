/- Hexadecimal digits: both functions compute the same. -/
import Derived.Test.YtecpdhjangojiaaGreatDoorBytes
import Derived.Deep.RegionLaw
import Derived.BigQuiet
import Derived.Deep.QuietTactic
namespace Go.Proofs.YtecpdhjangojiaaGreatDoor
open Go.ChangeShapes Go.WideShapes Go.ChangeAt Go.RowKit Go.Joins
set_option linter.unusedSimpArgs false
set_option linter.unusedVariables false
set_option maxRecDepth 100000

/-- The digit of a number. -/
def hexC (n : Nat) : UInt8 := if n < 10 then UInt8.ofNat (48 + n) else UInt8.ofNat (87 + n)
def hexText : List UInt8 → List UInt8
  | [] => []
  | c :: r => hexC (c.toNat / 16) :: hexC (c.toNat % 16) :: hexText r
theorem hexText_length : ∀ l, (hexText l).length = 2 * l.length
  | [] => rfl
  | c :: r => by simp [hexText, hexText_length r]; omega
theorem hexText_append : ∀ l k, hexText (l ++ k) = hexText l ++ hexText k
  | [], _ => rfl
  | c :: r, k => by simp [hexText, hexText_append r k]
theorem hexText_take (l : List UInt8) (k : Nat) (hk : k < l.length) : hexText (l.take (k + 1)) = hexText (l.take k) ++ [hexC (l[k].toNat / 16), hexC (l[k].toNat % 16)] := by
  rw [List.take_succ_eq_append_getElem hk, hexText_append]; rfl

/-- The digits, as the program has them. -/
@[reducible] def hexS : ByteArray := ⟨#[48, 49, 50, 51, 52, 53, 54, 55, 56, 57, 97, 98, 99, 100, 101, 102]⟩
theorem digit_at_0 (w : World) : (Instr.index 9 (.string hexS) (.int .u8 0)).run Tryz.prog w = .ok (.int .u8 ((hexC 0).toNat : Int)) w := by kernel_rfl
theorem digit_at_1 (w : World) : (Instr.index 9 (.string hexS) (.int .u8 1)).run Tryz.prog w = .ok (.int .u8 ((hexC 1).toNat : Int)) w := by kernel_rfl
theorem digit_at_2 (w : World) : (Instr.index 9 (.string hexS) (.int .u8 2)).run Tryz.prog w = .ok (.int .u8 ((hexC 2).toNat : Int)) w := by kernel_rfl
theorem digit_at_3 (w : World) : (Instr.index 9 (.string hexS) (.int .u8 3)).run Tryz.prog w = .ok (.int .u8 ((hexC 3).toNat : Int)) w := by kernel_rfl
theorem digit_at_4 (w : World) : (Instr.index 9 (.string hexS) (.int .u8 4)).run Tryz.prog w = .ok (.int .u8 ((hexC 4).toNat : Int)) w := by kernel_rfl
theorem digit_at_5 (w : World) : (Instr.index 9 (.string hexS) (.int .u8 5)).run Tryz.prog w = .ok (.int .u8 ((hexC 5).toNat : Int)) w := by kernel_rfl
theorem digit_at_6 (w : World) : (Instr.index 9 (.string hexS) (.int .u8 6)).run Tryz.prog w = .ok (.int .u8 ((hexC 6).toNat : Int)) w := by kernel_rfl
theorem digit_at_7 (w : World) : (Instr.index 9 (.string hexS) (.int .u8 7)).run Tryz.prog w = .ok (.int .u8 ((hexC 7).toNat : Int)) w := by kernel_rfl
theorem digit_at_8 (w : World) : (Instr.index 9 (.string hexS) (.int .u8 8)).run Tryz.prog w = .ok (.int .u8 ((hexC 8).toNat : Int)) w := by kernel_rfl
theorem digit_at_9 (w : World) : (Instr.index 9 (.string hexS) (.int .u8 9)).run Tryz.prog w = .ok (.int .u8 ((hexC 9).toNat : Int)) w := by kernel_rfl
theorem digit_at_10 (w : World) : (Instr.index 9 (.string hexS) (.int .u8 10)).run Tryz.prog w = .ok (.int .u8 ((hexC 10).toNat : Int)) w := by kernel_rfl
theorem digit_at_11 (w : World) : (Instr.index 9 (.string hexS) (.int .u8 11)).run Tryz.prog w = .ok (.int .u8 ((hexC 11).toNat : Int)) w := by kernel_rfl
theorem digit_at_12 (w : World) : (Instr.index 9 (.string hexS) (.int .u8 12)).run Tryz.prog w = .ok (.int .u8 ((hexC 12).toNat : Int)) w := by kernel_rfl
theorem digit_at_13 (w : World) : (Instr.index 9 (.string hexS) (.int .u8 13)).run Tryz.prog w = .ok (.int .u8 ((hexC 13).toNat : Int)) w := by kernel_rfl
theorem digit_at_14 (w : World) : (Instr.index 9 (.string hexS) (.int .u8 14)).run Tryz.prog w = .ok (.int .u8 ((hexC 14).toNat : Int)) w := by kernel_rfl
theorem digit_at_15 (w : World) : (Instr.index 9 (.string hexS) (.int .u8 15)).run Tryz.prog w = .ok (.int .u8 ((hexC 15).toNat : Int)) w := by kernel_rfl
theorem digit_at (n : Nat) (h : n < 16) (x : Int) (hx : x = (n : Int)) : ∀ w : World, (Instr.index 9 (.string hexS) (.int .u8 x)).run Tryz.prog w = .ok (.int .u8 ((hexC n).toNat : Int)) w := by
  subst hx
  have hn : n = 0 ∨ n = 1 ∨ n = 2 ∨ n = 3 ∨ n = 4 ∨ n = 5 ∨ n = 6 ∨ n = 7 ∨ n = 8 ∨ n = 9 ∨ n = 10 ∨ n = 11 ∨ n = 12 ∨ n = 13 ∨ n = 14 ∨ n = 15 := by omega
  rcases hn with rfl | rfl | rfl | rfl | rfl | rfl | rfl | rfl | rfl | rfl | rfl | rfl | rfl | rfl | rfl | rfl
  · exact digit_at_0
  · exact digit_at_1
  · exact digit_at_2
  · exact digit_at_3
  · exact digit_at_4
  · exact digit_at_5
  · exact digit_at_6
  · exact digit_at_7
  · exact digit_at_8
  · exact digit_at_9
  · exact digit_at_10
  · exact digit_at_11
  · exact digit_at_12
  · exact digit_at_13
  · exact digit_at_14
  · exact digit_at_15
theorem digits_at_0 (w : World) : (Instr.slice 9 (.string hexS) (some (.int .u8 0)) (some (.int .u8 (0 + 1))) none).run Tryz.prog w = .ok (.string ⟨#[hexC 0]⟩) w := by kernel_rfl
theorem digits_at_1 (w : World) : (Instr.slice 9 (.string hexS) (some (.int .u8 1)) (some (.int .u8 (1 + 1))) none).run Tryz.prog w = .ok (.string ⟨#[hexC 1]⟩) w := by kernel_rfl
theorem digits_at_2 (w : World) : (Instr.slice 9 (.string hexS) (some (.int .u8 2)) (some (.int .u8 (2 + 1))) none).run Tryz.prog w = .ok (.string ⟨#[hexC 2]⟩) w := by kernel_rfl
theorem digits_at_3 (w : World) : (Instr.slice 9 (.string hexS) (some (.int .u8 3)) (some (.int .u8 (3 + 1))) none).run Tryz.prog w = .ok (.string ⟨#[hexC 3]⟩) w := by kernel_rfl
theorem digits_at_4 (w : World) : (Instr.slice 9 (.string hexS) (some (.int .u8 4)) (some (.int .u8 (4 + 1))) none).run Tryz.prog w = .ok (.string ⟨#[hexC 4]⟩) w := by kernel_rfl
theorem digits_at_5 (w : World) : (Instr.slice 9 (.string hexS) (some (.int .u8 5)) (some (.int .u8 (5 + 1))) none).run Tryz.prog w = .ok (.string ⟨#[hexC 5]⟩) w := by kernel_rfl
theorem digits_at_6 (w : World) : (Instr.slice 9 (.string hexS) (some (.int .u8 6)) (some (.int .u8 (6 + 1))) none).run Tryz.prog w = .ok (.string ⟨#[hexC 6]⟩) w := by kernel_rfl
theorem digits_at_7 (w : World) : (Instr.slice 9 (.string hexS) (some (.int .u8 7)) (some (.int .u8 (7 + 1))) none).run Tryz.prog w = .ok (.string ⟨#[hexC 7]⟩) w := by kernel_rfl
theorem digits_at_8 (w : World) : (Instr.slice 9 (.string hexS) (some (.int .u8 8)) (some (.int .u8 (8 + 1))) none).run Tryz.prog w = .ok (.string ⟨#[hexC 8]⟩) w := by kernel_rfl
theorem digits_at_9 (w : World) : (Instr.slice 9 (.string hexS) (some (.int .u8 9)) (some (.int .u8 (9 + 1))) none).run Tryz.prog w = .ok (.string ⟨#[hexC 9]⟩) w := by kernel_rfl
theorem digits_at_10 (w : World) : (Instr.slice 9 (.string hexS) (some (.int .u8 10)) (some (.int .u8 (10 + 1))) none).run Tryz.prog w = .ok (.string ⟨#[hexC 10]⟩) w := by kernel_rfl
theorem digits_at_11 (w : World) : (Instr.slice 9 (.string hexS) (some (.int .u8 11)) (some (.int .u8 (11 + 1))) none).run Tryz.prog w = .ok (.string ⟨#[hexC 11]⟩) w := by kernel_rfl
theorem digits_at_12 (w : World) : (Instr.slice 9 (.string hexS) (some (.int .u8 12)) (some (.int .u8 (12 + 1))) none).run Tryz.prog w = .ok (.string ⟨#[hexC 12]⟩) w := by kernel_rfl
theorem digits_at_13 (w : World) : (Instr.slice 9 (.string hexS) (some (.int .u8 13)) (some (.int .u8 (13 + 1))) none).run Tryz.prog w = .ok (.string ⟨#[hexC 13]⟩) w := by kernel_rfl
theorem digits_at_14 (w : World) : (Instr.slice 9 (.string hexS) (some (.int .u8 14)) (some (.int .u8 (14 + 1))) none).run Tryz.prog w = .ok (.string ⟨#[hexC 14]⟩) w := by kernel_rfl
theorem digits_at_15 (w : World) : (Instr.slice 9 (.string hexS) (some (.int .u8 15)) (some (.int .u8 (15 + 1))) none).run Tryz.prog w = .ok (.string ⟨#[hexC 15]⟩) w := by kernel_rfl
theorem digits_at (n : Nat) (h : n < 16) (x : Int) (hx : x = (n : Int)) : ∀ w : World, (Instr.slice 9 (.string hexS) (some (.int .u8 x)) (some (.int .u8 (x + 1))) none).run Tryz.prog w = .ok (.string ⟨#[hexC n]⟩) w := by
  subst hx
  have hn : n = 0 ∨ n = 1 ∨ n = 2 ∨ n = 3 ∨ n = 4 ∨ n = 5 ∨ n = 6 ∨ n = 7 ∨ n = 8 ∨ n = 9 ∨ n = 10 ∨ n = 11 ∨ n = 12 ∨ n = 13 ∨ n = 14 ∨ n = 15 := by omega
  rcases hn with rfl | rfl | rfl | rfl | rfl | rfl | rfl | rfl | rfl | rfl | rfl | rfl | rfl | rfl | rfl | rfl
  · exact digits_at_0
  · exact digits_at_1
  · exact digits_at_2
  · exact digits_at_3
  · exact digits_at_4
  · exact digits_at_5
  · exact digits_at_6
  · exact digits_at_7
  · exact digits_at_8
  · exact digits_at_9
  · exact digits_at_10
  · exact digits_at_11
  · exact digits_at_12
  · exact digits_at_13
  · exact digits_at_14
  · exact digits_at_15
theorem and15 (c : Nat) (h : c < 256) : bits BinOp.and IntKind.u8 (c : Int) 15 = (c : Int) % 16 := by
  have : ∀ c ∈ List.range 256, bits BinOp.and IntKind.u8 (c : Int) 15 = (c : Int) % 16 := by decide +kernel
  exact this c (List.mem_range.2 h)

set_option maxHeartbeats 1000000 in
theorem i_HexText (w : World) (v : Value) (l : List UInt8) (h : BytesAt w v l) (hl : l.length ≤ 1073741824) :
    Calls Tryz.prog 36 #[v] w fun e w' => e = .returned (.string ⟨(hexText l).toArray⟩) ∧ Below w.heap.size w w' := by
  obtain ⟨a, cap, rfl, hcap, hmax, hnone, hcell⟩ := h.form
  obtain ⟨i0, hi, hz0, hz1, hz2⟩ := info_parts info_u8
  have HC := Lib.hid hcell
  clear h hnone hcell
  unfold maxLen at hmax
  go_enter Tryz.func36, Tryz.ntmps36
  go_wp2_with fail
  go_loopw [3, 9] (fun out i wr => ∃ k : Nat, k ≤ l.length ∧ i = .int .i64 k ∧ Hid (OwnB wr w.heap.size out (hexText (l.take k))) ∧ From w.heap.size w wr) (fun _ i _ => l.length - (intOf i).toNat)
  case atStart => exact ⟨0, Nat.zero_le _, rfl, World.ownsRow_lit w #[] 0 (Nat.le_refl _) (Nat.zero_le _) rfl, (From.start w).alloc _⟩
  case round =>
    obtain ⟨k, hk, rfl, HO, F⟩ := hrel
    by_cases hlt : k < l.length
    · obtain ⟨b, off, rfl, hc⟩ := HC.out (by omega)
      have hsrc := hc k hlt
      have hb : b < w.heap.size := World.block_lt_of_cell? w _ hsrc
      have hsrc' : wr.cell? ⟨b, off + k, none⟩ = some (.int .u8 (l[k].toNat : Int)) := by rw [F.below.cell (p := ⟨b, off + k, none⟩) hb]; exact hsrc
      have HF := Lib.hid F
      have hlen : (hexText (l.take k)).length ≤ 2147483648 := by rw [hexText_length, List.length_take]; omega
      have c0 := u8_lt l[k]
      have c15 := and15 l[k].toNat c0
      have d1 := digit_at (l[k].toNat / 16) (by omega) ((l[k].toNat : Int) / 16) (by omega)
      have d2 := digit_at (l[k].toNat % 16) (by omega) ((l[k].toNat : Int) % 16) (by omega)
      clear hsrc hc F
      go_wp2_with fail
      go_region_law (refine step_append_src rfl (.tmp 13) (.tmp 20) 22 22 rfl w.heap.size 5 i0 (.int .u8 0) 1 1 Tryz.underlying22 hi hz0 hz1 hz2 rfl (by decide) u3 _ _ (by simp [Act.eval, Act.put]) (HO.out.drew.alloc _) _ 2 [.int .u8 ((hexC (l[k].toNat / 16)).toNat : Int), .int .u8 ((hexC (l[k].toNat % 16)).toNat : Int)] (by simp [Act.eval, Act.put]) (src_blk Tryz.underlying22 _ wr.heap.size [_, _] 1 2 2 5 (by exact heap_alloc_new wr _) rfl (by simp [Value.oneCell'])) (by unfold maxLen; omega) (by omega) (by have := HF.out.le; simp; omega) ?_; intro v' w1 hown1 hgr1)
      all_goals
        have F1 := (HF.out.drew.alloc _).grown hgr1 (owns_block HO.out)
        have hown2 : OwnB w1 w.heap.size v' (hexText (l.take (k + 1))) := by
          rw [hexText_take l k hlt]
          unfold OwnB
          rw [List.length_append, bvs_append]
          exact hown1
        have HO2 := Lib.hid hown2
        have HF2 := Lib.hid F1
        clear hown2 hown1 F1 hgr1 HO HF hsrc' d1 d2 c15
        go_wp2_with fail
        go_roundw
        case rel => exact ⟨k + 1, by omega, by go_num, HO2, HF2.out⟩
        case measure => simp [intOf]; try omega
    · obtain rfl : k = l.length := by omega
      have hr : BytesAt wr u3 (hexText l) := by
        have := HO.out.reads
        rw [List.take_length] at this
        exact this
      have kc := conv_at wr u3 _ hr
      have HF := Lib.hid F
      clear hr F
      go_wp2_with fail
      go_ret
      exact ⟨rfl, HF.out.below⟩
/-- The sum of two texts, under a name, for a walk. -/
theorem str_sum (a b : ByteArray) (h : a.size + b.size ≤ 9223372036854775807) : ∃ s : ByteArray, s = a ++ b ∧ ∀ w : World, (Op.stringOp .add a b).run Tryz.prog w = .ok (.string s) w :=
  ⟨_, rfl, fun w => run_string_add_sum w a b h⟩
set_option maxHeartbeats 1000000 in
theorem s_HexText (w : World) (v : Value) (l : List UInt8) (h : BytesAt w v l) (hl : l.length ≤ 1073741824) :
    Calls Tryz.prog 46 #[v] w fun e w' => e = .returned (.string ⟨(hexText l).toArray⟩) ∧ Below w.heap.size w w' := by
  obtain ⟨a, cap, rfl, hcap, hmax, hnone, hcell⟩ := h.form
  have HC := Lib.hid hcell
  clear h hnone hcell
  unfold maxLen at hmax
  go_enter Tryz.func46, Tryz.ntmps46
  go_wp2_with fail
  go_loopw [3, 4] (fun out i wr => ∃ (k : Nat) (s : ByteArray), k ≤ l.length ∧ i = .int .i64 k ∧ out = .string s ∧ Hid (s = ⟨(hexText (l.take k)).toArray⟩) ∧ (∃ d, wr = w.drewN d)) (fun _ i _ => l.length - (intOf i).toNat)
  case atStart => exact ⟨0, _, Nat.zero_le _, rfl, rfl, by show _ = _; rfl, 0, rfl⟩
  case round =>
    obtain ⟨k, s, hk, rfl, rfl, HS, d, rfl⟩ := hrel
    by_cases hlt : k < l.length
    · obtain ⟨b, off, rfl, hc⟩ := HC.out (by omega)
      have hsrc := hc k hlt
      have c0 := u8_lt l[k]
      have i1 : (k : Int) < (l.length : Int) := by omega
      have i3 : (0 : Int) ≤ (k : Int) := by omega
      have d1 := digits_at (l[k].toNat / 16) (by omega) ((l[k].toNat : Int) / 16) (by omega)
      have d2 := digits_at (l[k].toNat % 16) (by omega) ((l[k].toNat : Int) % 16) (by omega)
      have x1 : IntKind.u8.wrap ((l[k].toNat : Int) / 16) = (l[k].toNat : Int) / 16 := by rw [IntKind.wrap_u8]; omega
      have x2 : IntKind.u8.wrap ((l[k].toNat : Int) / 16 + 1) = (l[k].toNat : Int) / 16 + 1 := by rw [IntKind.wrap_u8]; omega
      have x3 : (l[k].toNat : Int).tmod 16 = (l[k].toNat : Int) % 16 := Int.tmod_eq_emod_of_nonneg (by omega)
      have x4 : IntKind.u8.wrap ((l[k].toNat : Int) % 16) = (l[k].toNat : Int) % 16 := by rw [IntKind.wrap_u8]; omega
      have x5 : IntKind.u8.wrap ((l[k].toNat : Int) % 16 + 1) = (l[k].toNat : Int) % 16 + 1 := by rw [IntKind.wrap_u8]; omega
      have z1 : s.size ≤ 2147483648 := by
        rw [HS.out]
        show (hexText (l.take k)).toArray.size ≤ _
        rw [List.size_toArray, hexText_length, List.length_take]; omega
      have z2 : ∀ c : UInt8, (ByteArray.mk #[c]).size = 1 := fun c => rfl
      obtain ⟨s1, e1, k1⟩ := str_sum s ⟨#[hexC (l[k].toNat / 16)]⟩ (by rw [z2]; omega)
      have y1 : s1.size ≤ 2147483649 := by rw [e1, ByteArray.size_append, z2]; omega
      obtain ⟨s2, e2, k2⟩ := str_sum s1 ⟨#[hexC (l[k].toNat % 16)]⟩ (by rw [z2]; omega)
      have E1 := Lib.hid e1
      have E2 := Lib.hid e2
      clear hc e1 e2 z1 z2 y1
      go_wp2_with fail
      go_quiet (fail)
      go_wp2_with fail
      go_roundw
      case rel =>
        refine ⟨k + 1, _, by omega, by go_num, rfl, ?_, _, rfl⟩
        show _ = _
        rw [E2.out, E1.out, HS.out, hexText_take l k hlt]
        apply ByteArray.ext
        simp [ByteArray.data_append]
      case measure => simp [intOf]; try omega
    · obtain rfl : k = l.length := by omega
      have E : Hid (s = ⟨(hexText l).toArray⟩) := by
        have := HS.out
        rw [List.take_length] at this
        exact this
      go_wp2_with fail
      go_ret
      exact ⟨by rw [← E.out]; rfl, ((From.start w).drewN _).below⟩
end Go.Proofs.YtecpdhjangojiaaGreatDoor
