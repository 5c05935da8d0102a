/- Texts in tables: both functions compute the same. -/
import Derived.Test.YthccjimckjecjaaBytes
import Derived.Lib.BytesEntry
namespace Go.Proofs.Ythccjimckjecjaa
open Go.ChangeShapes Go.WideShapes Go.ChangeAt Go.RowKit Go.Joins
set_option linter.unusedSimpArgs false
set_option linter.unusedVariables false
set_option maxRecDepth 100000

/-- The text up to the first byte 0, if there is one. -/
def textAt : List UInt8 → Option (List UInt8)
  | [] => none
  | c :: r => if c = 0 then some [] else (textAt r).map (c :: ·)
/-- The text from a place of a table on. -/
def nameAtL (l : List UInt8) (at' : Int) : Option (List UInt8) := if withinB at' 0 ((l.length : Int) - 1) then textAt (l.drop at'.toNat) else none
/-- How a text is handed back. -/
def optV (o : Option (List UInt8)) : Ending := .returned (.tuple #[.string ⟨(o.getD []).toArray⟩, .bool o.isSome])

theorem textAt_index : ∀ l : List UInt8, textAt l = if Lib.indexByte l 0 < 0 then none else some (l.take (Lib.indexByte l 0).toNat)
  | [] => rfl
  | c :: r => by
    have ih := textAt_index r
    have hg := Lib.indexByte_ge r 0
    unfold textAt Lib.indexByte
    by_cases h : c = 0
    · subst h; simp
    · have hb : (c == 0) = false := by simpa using h
      rw [if_neg h, ih, hb]
      by_cases h1 : Lib.indexByte r 0 < 0
      · have : Lib.indexByte r 0 = -1 := by omega
        simp [this]
      · have h2 : (Lib.indexByte r 0 == -1) = false := by simp; omega
        have h3 : ¬ (Lib.indexByte r 0 + 1 < 0) := by omega
        simp only [h2, if_neg h1, if_neg h3, Option.map_some, Bool.false_eq_true, if_false]
        rw [show (Lib.indexByte r 0 + 1).toNat = (Lib.indexByte r 0).toNat + 1 by omega, List.take_succ_cons]
theorem indexByte_lt : ∀ (l : List UInt8) (c : UInt8), Lib.indexByte l c < l.length ∨ (Lib.indexByte l c = -1)
  | [], _ => .inr rfl
  | b :: r, c => by
    have ih := indexByte_lt r c
    have hg := Lib.indexByte_ge r c
    unfold Lib.indexByte
    simp only [List.length_cons]
    split
    · left; omega
    · split
      · right; rfl
      · rename_i h; have : Lib.indexByte r c ≠ -1 := by simpa using h
        left; omega

theorem textAt_cons_zero (l : List UInt8) (k : Nat) (hk : k < l.length) (h : l[k] = 0) : textAt (l.drop k) = some [] := by
  rw [List.drop_eq_getElem_cons hk, textAt, if_pos h]
theorem textAt_cons_ne (l : List UInt8) (k : Nat) (hk : k < l.length) (h : l[k] ≠ 0) : textAt (l.drop k) = (textAt (l.drop (k + 1))).map (l[k] :: ·) := by
  rw [List.drop_eq_getElem_cons hk, textAt, if_neg h]
theorem textAt_step (l : List UInt8) (A k : Nat) (hA : A ≤ k) (hk : k < l.length) (h : l[k] ≠ 0) (o : Option (List UInt8)) (e : o = (textAt (l.drop k)).map ((l.drop A).take (k - A) ++ ·)) :
    o = (textAt (l.drop (k + 1))).map ((l.drop A).take (k + 1 - A) ++ ·) := by
  have ht : (l.drop A).take (k + 1 - A) = (l.drop A).take (k - A) ++ [l[k]] := by
    rw [show k + 1 - A = (k - A) + 1 by omega, List.take_succ_eq_append_getElem (by simp; omega)]
    congr 2
    simp [show A + (k - A) = k by omega]
  rw [e, textAt_cons_ne l k hk h, ht]
  cases textAt (l.drop (k + 1)) <;> simp
theorem u8_zero {c : UInt8} (h : c = 0) : ((c.toNat : Int) == 0) = true := by subst h; rfl
theorem u8_nonzero {c : UInt8} (h : c ≠ 0) : ((c.toNat : Int) == 0) = false := by
  rw [beq_eq_false_iff_ne]; intro e; exact h (UInt8.toNat_inj.1 (by simp; omega))

/-- string(b) of bytes that read. -/
theorem conv_bytes (w : World) (b off cap : Nat) (l : List UInt8) (A n : Nat) (hn : A + n ≤ l.length) (hc : ∀ j (hj : j < l.length), w.cell? ⟨b, off + j, none⟩ = some (.int .u8 (l[j].toNat : Int))) :
    (convert 22 9 (.slice (some ⟨b, off + A, none⟩) n cap)).run Try.prog w = .ok (.string ⟨((l.drop A).take n).toArray⟩) w := by
  have hl : ((l.drop A).take n).length = n := by simp; omega
  have := run_convert_bytes_back (P := Try.prog) w 22 9 5 ⟨b, off + A, none⟩ cap ((l.drop A).take n) Try.underlying22 Try.underlying5 Try.underlying9 (fun j hj => by
    rw [hl] at hj
    rw [Addr.add_lit, Nat.add_assoc, hc (A + j) (by omega)]
    simp)
  rw [hl] at this
  exact this

/-- string(b) of any bytes that read. -/
theorem conv_at (w : World) (v : Value) (l : List UInt8) (h : BytesAt w v l) : (convert 22 9 v).run Try.prog w = .ok (.string ⟨l.toArray⟩) w := by
  obtain ⟨a, cap, rfl, hcap, hmax, hnone, hcell⟩ := h.form
  rcases Nat.eq_zero_or_pos l.length with h0 | hpos
  · obtain rfl : l = [] := List.eq_nil_of_length_eq_zero h0
    cases a with
    | none => rw [run_convert_bytes_string w 22 9 5 none _ _ Try.underlying22 Try.underlying5 Try.underlying9]; rfl
    | some a => exact run_convert_bytes_back (P := Try.prog) w 22 9 5 a cap [] Try.underlying22 Try.underlying5 Try.underlying9 (fun j hj => absurd hj (Nat.not_lt_zero _))
  · obtain ⟨b, off, rfl, hc⟩ := hcell hpos
    exact run_convert_bytes_back (P := Try.prog) w 22 9 5 ⟨b, off, none⟩ cap l Try.underlying22 Try.underlying5 Try.underlying9 (fun j hj => by rw [Addr.add_lit]; exact hc j hj)

set_option maxHeartbeats 1000000 in
theorem s_NameAt (w : World) (v : Value) (l : List UInt8) (h : BytesAt w v l) (at' : Int) :
    Calls Try.prog 156 #[v, .int .i64 at'] w fun e w' => e = optV (nameAtL l at') ∧ w = w' := by
  obtain ⟨a, cap, rfl, hcap, hmax, hnone, hcell⟩ := h.form
  unfold maxLen at hmax
  cases hat : withinB at' 0 ((l.length : Int) - 1)
  · have E : Hid (nameAtL l at' = none) := by show _ = _; simp [nameAtL, hat]
    clear h hnone hcell
    go_enter Try.func156, Try.ntmps156
    go_wp2_with (first | (go_at_call 114; (with_reducible refine (l1In_any _ _ _ _).mono ?_); rintro e w' ⟨rfl, rfl⟩))
    go_ret2
    exact ⟨by rw [E.out]; rfl, rfl⟩
  · have hA := (withinB_iff _ _ _).1 hat
    obtain ⟨A, rfl⟩ := Int.eq_ofNat_of_zero_le hA.1
    obtain ⟨b, off, rfl, hc⟩ := hcell (by omega)
    have E : Hid (nameAtL l A = textAt (l.drop A)) := by show _ = _; simp [nameAtL, hat]
    have HC := Lib.hid hc
    have hA2 : (A : Int) < (l.length : Int) := by omega
    clear h hnone hcell hc hA
    go_enter Try.func156, Try.ntmps156
    go_wp2_with (first | (go_at_call 114; (with_reducible refine (l1In_any _ _ _ _).mono ?_); rintro e w' ⟨rfl, rfl⟩))
    go_loop [6] (fun i => ∃ k : Nat, A ≤ k ∧ k ≤ l.length ∧ i = .int .i64 k ∧ Hid (textAt (l.drop A) = (textAt (l.drop k)).map ((l.drop A).take (k - A) ++ ·))) (fun i => l.length - (intOf i).toNat)
    case atStart => exact ⟨A, Nat.le_refl _, by omega, rfl, by show _ = _; simp⟩
    case round =>
      obtain ⟨k, hAk, hk, rfl, hT⟩ := hrel
      by_cases hlt : k < l.length
      · have g := HC.out k hlt
        by_cases hz : l[k] = 0
        · have hzb := u8_zero hz
          have E2 : Hid (textAt (l.drop A) = some ((l.drop A).take (k - A))) := by
            show _ = _; rw [hT.out, textAt_cons_zero l k hlt hz]; simp
          have kc := conv_bytes w b off (cap - A) l A (k - A) (by omega) HC.out
          have hne : ¬ cap = A := by omega
          clear hz hT
          go_wp2_with fail
          go_ret2
          exact ⟨by rw [E.out, E2.out]; rfl, rfl⟩
        · have hzb := u8_nonzero hz
          have HZ := Lib.hid hz
          clear hz
          go_wp2_with fail
          go_round
          case rel => exact ⟨k + 1, by omega, by omega, by go_num, textAt_step l A k hAk hlt HZ.out _ hT.out⟩
          case measure => simp [intOf]; try omega
      · obtain rfl : k = l.length := by omega
        have E2 : Hid (textAt (l.drop A) = none) := by
          show _ = _; rw [hT.out, List.drop_length]; rfl
        clear hT
        go_wp2_with fail
        go_ret2
        exact ⟨by rw [E.out, E2.out]; rfl, rfl⟩
set_option maxHeartbeats 1000000 in
theorem bytes_IndexByte (w : World) (b off n cap : Nat) (l : List UInt8) (hl : l.length = n) (hc : ∀ j (hj : j < l.length), w.cell? ⟨b, off + j, none⟩ = some (.int .u8 (l[j].toNat : Int))) (c : UInt8) (x : Int) (hx : x = (c.toNat : Int)) :
    Calls Try.prog 158 #[.slice (some ⟨b, off, none⟩) n cap, .int .u8 x] w fun e w' => e = .returned (.int .i64 (Lib.indexByte l c)) ∧ w = w' := by
  subst hx
  have key := Lib.run_indexByteSlice (P := Try.prog) w b off n cap (l.map fun c => (c.toNat : Int)) (by simpa using hl) (fun i hi => by
    rw [hc i (by omega)]; simp [List.getD, show i < l.length by omega]) (c.toNat : Int)
  have e1 : Lib.bytesOf (l.map fun c => (c.toNat : Int)) = l := by
    simp [Lib.bytesOf, Function.comp_def]
  have e2 : ((c.toNat : Int).toNat).toUInt8 = c := by simp
  rw [e1, e2] at key
  have KEY := Lib.hid key
  clear key e1 e2 hc
  go_enter Try.func158, Try.ntmps158
  go_wp2
  rw [run_callFunc_extern Try.func175 (by kernel_rfl) (by kernel_rfl) (by kernel_rfl) (e := Extern.BytealgIndexByte.indexByte) (by kernel_rfl), KEY.out]
  simp only [Result.andThen]
  rw [Oper.upon_value]
  go_wp2
  go_ret
  exact ⟨rfl, rfl⟩
set_option maxHeartbeats 1000000 in
theorem i_NameAt (w : World) (v : Value) (l : List UInt8) (h : BytesAt w v l) (at' : Int) :
    Calls Try.prog 110 #[v, .int .i64 at'] w fun e w' => e = optV (nameAtL l at') ∧ w = w' := by
  obtain ⟨a, cap, rfl, hcap, hmax, hnone, hcell⟩ := h.form
  unfold maxLen at hmax
  cases hat : withinB at' 0 ((l.length : Int) - 1)
  · have E : Hid (nameAtL l at' = none) := by show _ = _; simp [nameAtL, hat]
    clear h hnone hcell
    go_enter Try.func110, Try.ntmps110
    go_wp2_with (first | (go_at_call 123; (with_reducible refine (within_any _ _ _ _).mono ?_); rintro e w' ⟨rfl, rfl⟩))
    go_ret2
    exact ⟨by rw [E.out]; rfl, rfl⟩
  · have hA := (withinB_iff _ _ _).1 hat
    obtain ⟨A, rfl⟩ := Int.eq_ofNat_of_zero_le hA.1
    obtain ⟨b, off, rfl, hc⟩ := hcell (by omega)
    have E : Hid (nameAtL l A = textAt (l.drop A)) := by show _ = _; simp [nameAtL, hat]
    have HC := Lib.hid hc
    have hA2 : (A : Int) < (l.length : Int) := by omega
    have hne : ¬ cap = A := by omega
    have hi1 := indexByte_lt (l.drop A) 0
    have hi2 := Lib.indexByte_ge (l.drop A) 0
    have ET := textAt_index (l.drop A)
    have HT := Lib.hid ET
    rw [List.length_drop] at hi1
    clear h hnone hcell hc hA ET
    generalize hq : Lib.indexByte (l.drop A) 0 = q at hi1 hi2 HT
    have HQ := Lib.hid hq
    clear hq
    go_enter Try.func110, Try.ntmps110
    go_wp2_with (first | (go_at_call 123; (with_reducible refine (within_any _ _ _ _).mono ?_); rintro e w' ⟨rfl, rfl⟩))
    refine (bytes_IndexByte w b (off + A) _ _ (l.drop A) (by simp) (fun j hj => by
      rw [Nat.add_assoc, HC.out (A + j) (by simp at hj; omega)]; simp) 0 0 rfl).mono ?_
    rintro e w' ⟨rfl, rfl⟩
    rw [HQ.out]
    by_cases hq0 : q < 0
    · have E2 : Hid (textAt (l.drop A) = none) := by show _ = _; rw [HT.out, if_pos hq0]
      clear hi1
      go_wp2_with fail
      go_ret2
      exact ⟨by rw [E.out, E2.out]; rfl, rfl⟩
    · obtain ⟨n, rfl⟩ := Int.eq_ofNat_of_zero_le (show 0 ≤ q by omega)
      have E2 : Hid (textAt (l.drop A) = some ((l.drop A).take n)) := by show _ = _; rw [HT.out, if_neg hq0]; simp
      have hn : (A : Int) + (n : Int) < (l.length : Int) := by omega
      have kc := conv_bytes w b off (cap - A) l A n (by omega) HC.out
      clear hi1 hi2
      go_wp2_with fail
      go_ret2
      exact ⟨by rw [E.out, E2.out]; rfl, rfl⟩
end Go.Proofs.Ythccjimckjecjaa
