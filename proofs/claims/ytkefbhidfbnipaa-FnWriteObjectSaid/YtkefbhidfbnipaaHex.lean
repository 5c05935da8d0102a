/- Hexadecimal digits: both functions compute the same. -/
import Derived.Test.YtkefbhidfbnipaaBytes
import Derived.Deep.RegionLaw
import Derived.BigQuiet
import Derived.Deep.QuietTactic
namespace Go.Proofs.Ytkefbhidfbnipaa
open Go.ChangeShapes Go.WideShapes Go.ChangeAt Go.RowKit Go.Joins
set_option linter.unusedSimpArgs false
set_option linter.unusedVariables false
set_option maxRecDepth 100000

/-- The digit of a number. -/
def hexC (n : Nat) : UInt8 := if n < 10 then UInt8.ofNat (48 + n) else UInt8.ofNat (87 + n)
def hexText : List UInt8 → List UInt8
  | [] => []
  | c :: r => hexC (c.toNat / 16) :: hexC (c.toNat % 16) :: hexText r
theorem hexText_length : ∀ l, (hexText l).length = 2 * l.length
  | [] => rfl
  | c :: r => by simp [hexText, hexText_length r]; omega
theorem hexText_append : ∀ l k, hexText (l ++ k) = hexText l ++ hexText k
  | [], _ => rfl
  | c :: r, k => by simp [hexText, hexText_append r k]
theorem hexText_take (l : List UInt8) (k : Nat) (hk : k < l.length) : hexText (l.take (k + 1)) = hexText (l.take k) ++ [hexC (l[k].toNat / 16), hexC (l[k].toNat % 16)] := by
  rw [List.take_succ_eq_append_getElem hk, hexText_append]; rfl

/-- The digits, as the program has them. -/
@[reducible] def hexS : ByteArray := ⟨#[48, 49, 50, 51, 52, 53, 54, 55, 56, 57, 97, 98, 99, 100, 101, 102]⟩
theorem digit_at_0 (w : World) : (Instr.index 9 (.string hexS) (.int .u8 0)).run Try.prog w = .ok (.int .u8 ((hexC 0).toNat : Int)) w := by kernel_rfl
theorem digit_at_1 (w : World) : (Instr.index 9 (.string hexS) (.int .u8 1)).run Try.prog w = .ok (.int .u8 ((hexC 1).toNat : Int)) w := by kernel_rfl
theorem digit_at_2 (w : World) : (Instr.index 9 (.string hexS) (.int .u8 2)).run Try.prog w = .ok (.int .u8 ((hexC 2).toNat : Int)) w := by kernel_rfl
theorem digit_at_3 (w : World) : (Instr.index 9 (.string hexS) (.int .u8 3)).run Try.prog w = .ok (.int .u8 ((hexC 3).toNat : Int)) w := by kernel_rfl
theorem digit_at_4 (w : World) : (Instr.index 9 (.string hexS) (.int .u8 4)).run Try.prog w = .ok (.int .u8 ((hexC 4).toNat : Int)) w := by kernel_rfl
theorem digit_at_5 (w : World) : (Instr.index 9 (.string hexS) (.int .u8 5)).run Try.prog w = .ok (.int .u8 ((hexC 5).toNat : Int)) w := by kernel_rfl
theorem digit_at_6 (w : World) : (Instr.index 9 (.string hexS) (.int .u8 6)).run Try.prog w = .ok (.int .u8 ((hexC 6).toNat : Int)) w := by kernel_rfl
theorem digit_at_7 (w : World) : (Instr.index 9 (.string hexS) (.int .u8 7)).run Try.prog w = .ok (.int .u8 ((hexC 7).toNat : Int)) w := by kernel_rfl
theorem digit_at_8 (w : World) : (Instr.index 9 (.string hexS) (.int .u8 8)).run Try.prog w = .ok (.int .u8 ((hexC 8).toNat : Int)) w := by kernel_rfl
theorem digit_at_9 (w : World) : (Instr.index 9 (.string hexS) (.int .u8 9)).run Try.prog w = .ok (.int .u8 ((hexC 9).toNat : Int)) w := by kernel_rfl
theorem digit_at_10 (w : World) : (Instr.index 9 (.string hexS) (.int .u8 10)).run Try.prog w = .ok (.int .u8 ((hexC 10).toNat : Int)) w := by kernel_rfl
theorem digit_at_11 (w : World) : (Instr.index 9 (.string hexS) (.int .u8 11)).run Try.prog w = .ok (.int .u8 ((hexC 11).toNat : Int)) w := by kernel_rfl
theorem digit_at_12 (w : World) : (Instr.index 9 (.string hexS) (.int .u8 12)).run Try.prog w = .ok (.int .u8 ((hexC 12).toNat : Int)) w := by kernel_rfl
theorem digit_at_13 (w : World) : (Instr.index 9 (.string hexS) (.int .u8 13)).run Try.prog w = .ok (.int .u8 ((hexC 13).toNat : Int)) w := by kernel_rfl
theorem digit_at_14 (w : World) : (Instr.index 9 (.string hexS) (.int .u8 14)).run Try.prog w = .ok (.int .u8 ((hexC 14).toNat : Int)) w := by kernel_rfl
theorem digit_at_15 (w : World) : (Instr.index 9 (.string hexS) (.int .u8 15)).run Try.prog w = .ok (.int .u8 ((hexC 15).toNat : Int)) w := by kernel_rfl
theorem digit_at (n : Nat) (h : n < 16) (x : Int) (hx : x = (n : Int)) : ∀ w : World, (Instr.index 9 (.string hexS) (.int .u8 x)).run Try.prog w = .ok (.int .u8 ((hexC n).toNat : Int)) w := by
  subst hx
  have hn : n = 0 ∨ n = 1 ∨ n = 2 ∨ n = 3 ∨ n = 4 ∨ n = 5 ∨ n = 6 ∨ n = 7 ∨ n = 8 ∨ n = 9 ∨ n = 10 ∨ n = 11 ∨ n = 12 ∨ n = 13 ∨ n = 14 ∨ n = 15 := by omega
  rcases hn with rfl | rfl | rfl | rfl | rfl | rfl | rfl | rfl | rfl | rfl | rfl | rfl | rfl | rfl | rfl | rfl
  · exact digit_at_0
  · exact digit_at_1
  · exact digit_at_2
  · exact digit_at_3
  · exact digit_at_4
  · exact digit_at_5
  · exact digit_at_6
  · exact digit_at_7
  · exact digit_at_8
  · exact digit_at_9
  · exact digit_at_10
  · exact digit_at_11
  · exact digit_at_12
  · exact digit_at_13
  · exact digit_at_14
  · exact digit_at_15
theorem digits_at_0 (w : World) : (Instr.slice 9 (.string hexS) (some (.int .u8 0)) (some (.int .u8 (0 + 1))) none).run Try.prog w = .ok (.string ⟨#[hexC 0]⟩) w := by kernel_rfl
theorem digits_at_1 (w : World) : (Instr.slice 9 (.string hexS) (some (.int .u8 1)) (some (.int .u8 (1 + 1))) none).run Try.prog w = .ok (.string ⟨#[hexC 1]⟩) w := by kernel_rfl
theorem digits_at_2 (w : World) : (Instr.slice 9 (.string hexS) (some (.int .u8 2)) (some (.int .u8 (2 + 1))) none).run Try.prog w = .ok (.string ⟨#[hexC 2]⟩) w := by kernel_rfl
theorem digits_at_3 (w : World) : (Instr.slice 9 (.string hexS) (some (.int .u8 3)) (some (.int .u8 (3 + 1))) none).run Try.prog w = .ok (.string ⟨#[hexC 3]⟩) w := by kernel_rfl
theorem digits_at_4 (w : World) : (Instr.slice 9 (.string hexS) (some (.int .u8 4)) (some (.int .u8 (4 + 1))) none).run Try.prog w = .ok (.string ⟨#[hexC 4]⟩) w := by kernel_rfl
theorem digits_at_5 (w : World) : (Instr.slice 9 (.string hexS) (some (.int .u8 5)) (some (.int .u8 (5 + 1))) none).run Try.prog w = .ok (.string ⟨#[hexC 5]⟩) w := by kernel_rfl
theorem digits_at_6 (w : World) : (Instr.slice 9 (.string hexS) (some (.int .u8 6)) (some (.int .u8 (6 + 1))) none).run Try.prog w = .ok (.string ⟨#[hexC 6]⟩) w := by kernel_rfl
theorem digits_at_7 (w : World) : (Instr.slice 9 (.string hexS) (some (.int .u8 7)) (some (.int .u8 (7 + 1))) none).run Try.prog w = .ok (.string ⟨#[hexC 7]⟩) w := by kernel_rfl
theorem digits_at_8 (w : World) : (Instr.slice 9 (.string hexS) (some (.int .u8 8)) (some (.int .u8 (8 + 1))) none).run Try.prog w = .ok (.string ⟨#[hexC 8]⟩) w := by kernel_rfl
theorem digits_at_9 (w : World) : (Instr.slice 9 (.string hexS) (some (.int .u8 9)) (some (.int .u8 (9 + 1))) none).run Try.prog w = .ok (.string ⟨#[hexC 9]⟩) w := by kernel_rfl
theorem digits_at_10 (w : World) : (Instr.slice 9 (.string hexS) (some (.int .u8 10)) (some (.int .u8 (10 + 1))) none).run Try.prog w = .ok (.string ⟨#[hexC 10]⟩) w := by kernel_rfl
theorem digits_at_11 (w : World) : (Instr.slice 9 (.string hexS) (some (.int .u8 11)) (some (.int .u8 (11 + 1))) none).run Try.prog w = .ok (.string ⟨#[hexC 11]⟩) w := by kernel_rfl
theorem digits_at_12 (w : World) : (Instr.slice 9 (.string hexS) (some (.int .u8 12)) (some (.int .u8 (12 + 1))) none).run Try.prog w = .ok (.string ⟨#[hexC 12]⟩) w := by kernel_rfl
theorem digits_at_13 (w : World) : (Instr.slice 9 (.string hexS) (some (.int .u8 13)) (some (.int .u8 (13 + 1))) none).run Try.prog w = .ok (.string ⟨#[hexC 13]⟩) w := by kernel_rfl
theorem digits_at_14 (w : World) : (Instr.slice 9 (.string hexS) (some (.int .u8 14)) (some (.int .u8 (14 + 1))) none).run Try.prog w = .ok (.string ⟨#[hexC 14]⟩) w := by kernel_rfl
theorem digits_at_15 (w : World) : (Instr.slice 9 (.string hexS) (some (.int .u8 15)) (some (.int .u8 (15 + 1))) none).run Try.prog w = .ok (.string ⟨#[hexC 15]⟩) w := by kernel_rfl
theorem digits_at (n : Nat) (h : n < 16) (x : Int) (hx : x = (n : Int)) : ∀ w : World, (Instr.slice 9 (.string hexS) (some (.int .u8 x)) (some (.int .u8 (x + 1))) none).run Try.prog w = .ok (.string ⟨#[hexC n]⟩) w := by
  subst hx
  have hn : n = 0 ∨ n = 1 ∨ n = 2 ∨ n = 3 ∨ n = 4 ∨ n = 5 ∨ n = 6 ∨ n = 7 ∨ n = 8 ∨ n = 9 ∨ n = 10 ∨ n = 11 ∨ n = 12 ∨ n = 13 ∨ n = 14 ∨ n = 15 := by omega
  rcases hn with rfl | rfl | rfl | rfl | rfl | rfl | rfl | rfl | rfl | rfl | rfl | rfl | rfl | rfl | rfl | rfl
  · exact digits_at_0
  · exact digits_at_1
  · exact digits_at_2
  · exact digits_at_3
  · exact digits_at_4
  · exact digits_at_5
  · exact digits_at_6
  · exact digits_at_7
  · exact digits_at_8
  · exact digits_at_9
  · exact digits_at_10
  · exact digits_at_11
  · exact digits_at_12
  · exact digits_at_13
  · exact digits_at_14
  · exact digits_at_15
theorem and15 (c : Nat) (h : c < 256) : bits BinOp.and IntKind.u8 (c : Int) 15 = (c : Int) % 16 := by
  have : ∀ c ∈ List.range 256, bits BinOp.and IntKind.u8 (c : Int) 15 = (c : Int) % 16 := by decide +kernel
  exact this c (List.mem_range.2 h)

/-- The sum of two texts, under a name, for a walk. -/
theorem str_sum (a b : ByteArray) (h : a.size + b.size ≤ 9223372036854775807) : ∃ s : ByteArray, s = a ++ b ∧ ∀ w : World, (Op.stringOp .add a b).run Try.prog w = .ok (.string s) w :=
  ⟨_, rfl, fun w => run_string_add_sum w a b h⟩
end Go.Proofs.Ytkefbhidfbnipaa
