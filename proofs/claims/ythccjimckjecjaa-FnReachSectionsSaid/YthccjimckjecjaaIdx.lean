/- Whether a text, or a number, is in a slice. -/
import Derived.Test.YthccjimckjecjaaInts
import Derived.Test.YthccjimckjecjaaObjVal
import Derived.Test.YthccjimckjecjaaBase
import Derived.Test.YthccjimckjecjaaMarkS
import Derived.Test.YthccjimckjecjaaPlainR
namespace Go.Proofs.Ythccjimckjecjaa
open Go.ChangeShapes Go.WideShapes Go.ChangeAt Go.RowKit Go.Joins
set_option linter.unusedSimpArgs false
set_option linter.unusedVariables false
set_option maxRecDepth 100000
theorem inB_findI (names : List ByteArray) (s : ByteArray) : inB names s = decide (0 ≤ findI (fun n => decide (n = s)) names) := by
  unfold inB
  by_cases h : 0 ≤ findI (fun n => decide (n = s)) names
  · rw [decide_eq_true h]; exact (findI_nonneg _ _).1 h
  · rw [decide_eq_false h]
    cases hq : names.any fun n => decide (n = s) with
    | false => rfl
    | true => exact absurd ((findI_nonneg _ _).2 hq) h
set_option maxHeartbeats 1000000 in
theorem indexStr_any (w : World) (v : Value) (l : List ByteArray) (s : ByteArray) (h : StrsAt w v l) :
    Calls Try.prog 135 #[v, .string s] w fun e w' => e = .returned (.int .i64 (findI (fun n => decide (n = s)) l)) ∧ Below w.heap.size w w' := by
  obtain ⟨a, cap, rfl, hcap, hmax, hnone, hcell⟩ := h.form
  have HC := Lib.hid hcell
  clear h hcell hnone
  unfold maxLen at hmax
  go_enter Try.func135, Try.ntmps135
  go_wp2_with fail
  go_loopw [8] (fun i wr => ∃ k : Nat, k ≤ l.length ∧ i = .int .i64 k ∧ Hid (∀ x ∈ l.take k, (fun n => decide (n = s)) x = false) ∧ Hid (From w.heap.size w wr)) (fun i _ => l.length - (intOf i).toNat)
  case atStart => exact ⟨0, Nat.zero_le _, rfl, (fun x hx => by simp at hx), From.start w⟩
  case round =>
    obtain ⟨k, hk, rfl, HB, HF⟩ := hrel
    by_cases hlt : k < l.length
    · obtain ⟨b, off, rfl, hc⟩ := HC.out (by omega)
      have c0 := hc k hlt
      have hbl : b < w.heap.size := World.block_lt_of_cell? w _ c0
      have g0 := (HF.out.below.cell (p := ⟨b, off + k, none⟩) hbl).trans c0
      have i1 : (k : Int) < (l.length : Int) := by omega
      have i3 : (0 : Int) ≤ (k : Int) := by omega
      have HG := Lib.hid (take_bad (p := fun n => decide (n = s)) hlt HB.out)
      have HH := Lib.hid (fun h => findI_hit hlt h HB.out : (fun n => decide (n = s)) l[k] = true → findI (fun n => decide (n = s)) l = k)
      clear hc c0
      generalize l[k] = x at *
      by_cases hq : bytesS s = bytesS x
      · have e1 := str_eq hq
        have E := Lib.hid (HH.out (by simpa using (bytesS_inj hq).symm))
        clear HG HH HB
        go_wp2_with fail
        go_ret
        exact ⟨by rw [E.out]; try rfl, HF.out.below⟩
      · have e1 := str_ne hq
        have HG2 := Lib.hid (HG.out (by simpa using fun e : x = s => hq (by rw [e])))
        clear HG HH HB
        go_wp2_with fail
        go_roundw
        case rel => exact ⟨k + 1, by omega, by go_num, HG2, HF⟩
        case measure => simp [intOf]; try omega
    · obtain rfl : k = l.length := by omega
      have E : Hid (findI (fun n => decide (n = s)) l = -1) := findI_miss (by have := HB.out; rwa [List.take_length] at this)
      go_wp2_with fail
      go_ret
      exact ⟨by rw [E.out]; try rfl, HF.out.below⟩
set_option maxHeartbeats 1000000 in
theorem containsStr_any (w : World) (v : Value) (l : List ByteArray) (s : ByteArray) (h : StrsAt w v l) :
    Calls Try.prog 74 #[v, .string s] w fun e w' => e = .returned (.bool (inB l s)) ∧ Below w.heap.size w w' := by
  have E := Lib.hid (inB_findI l s)
  obtain ⟨a, cap, rfl, -⟩ := h.form
  have H := Lib.hid h
  clear h
  go_enter Try.func74, Try.ntmps74
  go_wp2_with fail
  refine (indexStr_any w _ l s H.out).mono ?_
  rintro e w2 ⟨rfl, h2⟩
  have HF := Lib.hid ((From.start w).call h2)
  clear h2
  go_wp2_with fail
  go_ret
  exact ⟨by rw [E.out]; try rfl, HF.out.below⟩
end Go.Proofs.Ythccjimckjecjaa
