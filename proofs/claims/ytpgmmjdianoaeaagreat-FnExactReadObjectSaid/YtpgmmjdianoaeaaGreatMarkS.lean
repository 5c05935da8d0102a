/- Texts that a law copies, compares, measures, writes over (marks). -/
import Derived.Test.YtpgmmjdianoaeaaGreatBase
import Derived.Test.YtpgmmjdianoaeaaGreatBytes
import Derived.Test.YtpgmmjdianoaeaaGreatHex
import Derived.Test.YtpgmmjdianoaeaaGreatSec
namespace Go.Proofs.YtpgmmjdianoaeaaGreat
open Go.ChangeShapes Go.WideShapes Go.ChangeAt Go.RowKit Go.Joins
set_option linter.unusedSimpArgs false
set_option linter.unusedVariables false
set_option maxRecDepth 100000
/-- What a function ends in that hands back texts of its own. -/
def RetS (w : World) (l : List ByteArray) (e : Ending) (w' : World) : Prop := ∃ r, e = .returned r ∧ OwnS w' w.heap.size r l ∧ r ≠ .slice none 0 0 ∧ Below w.heap.size w w'
theorem set_fillS (l : List ByteArray) (k : Nat) (hk : k < l.length) :
    (svs (l.take k) ++ List.replicate (l.length - k) (Value.string ⟨#[]⟩)).set k (.string l[k]) = svs (l.take (k + 1)) ++ List.replicate (l.length - (k + 1)) (Value.string ⟨#[]⟩) := by
  have hl : (svs (l.take k)).length = k := by rw [svs_length, List.length_take]; omega
  rw [List.set_append, if_neg (by omega), hl, Nat.sub_self, List.take_succ_eq_append_getElem hk, svs_append, List.append_assoc]
  congr 1
  rw [show l.length - k = (l.length - (k + 1)) + 1 by omega, List.replicate_succ]
  rfl
/-- The digits of a number ahead of others. -/
def digs (n : Nat) (acc : List UInt8) : List UInt8 := if h : n = 0 then acc else digs (n / 10) (UInt8.ofNat (48 + n % 10) :: acc)
termination_by n
decreasing_by omega
/-- The text that marks. -/
def markB (k : Nat) : ByteArray := if k = 0 then ⟨#[109, 48]⟩ else (⟨#[109]⟩ : ByteArray) ++ ⟨(digs k []).toArray⟩
theorem bytesS_app (a b : ByteArray) : bytesS (a ++ b) = bytesS a ++ bytesS b := by
  unfold bytesS
  rw [ByteArray.data_append, Array.toList_append]
set_option maxHeartbeats 1000000 in
theorem markText_any (w : World) (k : Nat) (hk : k ≤ 1073741824) :
    Calls Tryz.prog 79 #[.int .i64 k] w fun e w' => e = .returned (.string (markB k)) ∧ Below w.heap.size w w' := by
  by_cases h0 : k = 0
  · subst h0
    go_enter Tryz.func79, Tryz.ntmps79
    go_wp2_with fail
    go_ret
    exact ⟨rfl, Below.refl _ _⟩
  have hkp : (0 : Int) < (k : Int) := by omega
  have HM : Hid (markB k = (⟨#[109]⟩ : ByteArray) ++ ⟨(digs k []).toArray⟩) := by show _ = _; unfold markB; rw [if_neg h0]
  clear h0
  go_enter Tryz.func79, Tryz.ntmps79
  go_wp2_with fail
  go_loopw [0, 3] (fun nv sv wr => ∃ (n : Nat) (s : ByteArray), nv = .int .i64 n ∧ sv = .string s ∧ n ≤ 1073741824 ∧ s.size + n ≤ 1073741824 ∧ Hid (digs n (bytesS s) = digs k []) ∧ Hid (From w.heap.size w wr)) (fun nv _ _ => (intOf nv).toNat)
  case atStart => exact ⟨k, ⟨#[]⟩, rfl, rfl, hk, by show 0 + k ≤ _; omega, rfl, From.start w⟩
  case round =>
    obtain ⟨n, s, rfl, rfl, hn, hsn, HD, HF⟩ := hrel
    by_cases hn0 : 0 < n
    · have hnp : (0 : Int) < (n : Int) := by omega
      have k1 : IntKind.u8.wrap (48 + (n : Int) % 10) = 48 + (n : Int) % 10 := IntWalk.u8_in _ (by omega)
      have hcc : (((UInt8.ofNat (48 + n % 10)).toNat : Nat) : Int) = 48 + (n : Int) % 10 := by rw [UInt8.toNat_ofNat']; omega
      have HD2 : Hid (digs (n / 10) (UInt8.ofNat (48 + n % 10) :: bytesS s) = digs k []) := by
        show _ = _
        rw [← HD.out]
        conv => rhs; rw [digs]
        rw [dif_neg (by omega)]
      generalize UInt8.ofNat (48 + n % 10) = cc at *
      have hcv : (convert 22 9 (.slice (some ⟨wr.heap.size, 0, none⟩) 1 1)).run Tryz.prog (wr.alloc (.cells #[.int .u8 (48 + (n : Int) % 10)] 5)) = .ok (.string ⟨#[cc]⟩) (wr.alloc (.cells #[.int .u8 (48 + (n : Int) % 10)] 5)) :=
        conv_at _ _ [cc] (by
          have := reads_of_owns (World.ownsRow_lit wr #[Value.int .u8 (48 + (n : Int) % 10)] (e := 5) (size := 1) 1 (Nat.le_refl _) (by decide) rfl)
          show Reads _ 1 _ 1 [Value.int .u8 (cc.toNat : Int)]
          rw [hcc]
          exact this)
      clear hcc
      obtain ⟨s1, hs1, hr1⟩ := str_sum ⟨#[cc]⟩ s (by show 1 + s.size ≤ _; omega)
      have hsz : s1.size = 1 + s.size := by rw [hs1, ByteArray.size_append]; rfl
      have HB1 : Hid (bytesS s1 = cc :: bytesS s) := by show _ = _; rw [hs1, bytesS_app]; rfl
      have hdiv : ((n / 10 : Nat) : Int) = (n : Int) / 10 := by omega
      have HSZ := Lib.hid hsz
      have HF2 := Lib.hid (HF.out.alloc (.cells #[.int .u8 (48 + (n : Int) % 10)] 5))
      clear hs1 hsz HD hdiv
      go_wp2_with fail
      go_roundw
      case rel => exact ⟨n / 10, s1, by go_num, rfl, by omega, by rw [HSZ.out]; omega, by rw [HB1.out]; exact HD2, HF2⟩
      case measure => simp [intOf]; try omega
    · obtain rfl : n = 0 := by omega
      have hnz : ¬ (0 : Int) < ((0 : Nat) : Int) := by omega
      have HE : Hid (s = ⟨(digs k []).toArray⟩) := by
        show _ = _
        rw [← HD.out, digs, dif_pos rfl]
        unfold bytesS
        cases s; simp
      obtain ⟨s1, hs1, hr1⟩ := str_sum ⟨#[109]⟩ s (by show 1 + s.size ≤ _; omega)
      have HS1 : Hid (s1 = markB k) := by show _ = _; rw [hs1, HM.out, HE.out]
      clear hs1
      go_wp2_with fail
      go_ret
      exact ⟨by rw [← HS1.out]; try rfl, HF.out.below⟩
/-- The texts that mark, from a number on. -/
def marksS (k n : Nat) : List ByteArray := (List.range n).map fun i => markB (k + i)
theorem marksS_length (k n : Nat) : (marksS k n).length = n := by simp [marksS]
theorem marksS_get (k n i : Nat) (h : i < n) : (marksS k n)[i]'(by rw [marksS_length]; exact h) = markB (k + i) := by simp [marksS]
theorem marksS_step (k : Nat) (l : List ByteArray) (i : Nat) (h : i < l.length) :
    (svs (marksS k i ++ l.drop i)).set i (.string (markB (k + i))) = svs (marksS k (i + 1) ++ l.drop (i + 1)) := by
  rw [svs_append, List.set_append, if_neg (by rw [svs_length, marksS_length]; omega), svs_length, marksS_length, Nat.sub_self, List.drop_eq_getElem_cons h]
  have : marksS k (i + 1) = marksS k i ++ [markB (k + i)] := by simp [marksS, List.range_succ]
  rw [this, List.append_assoc, svs_append]
  rfl
end Go.Proofs.YtpgmmjdianoaeaaGreat
