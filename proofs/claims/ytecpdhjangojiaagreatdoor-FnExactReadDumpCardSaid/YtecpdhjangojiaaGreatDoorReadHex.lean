/- Reading hexadecimal digits: both functions compute the same. -/
import Derived.Test.YtecpdhjangojiaaGreatDoorHex
import Derived.Test.YtecpdhjangojiaaGreatDoorBytes
namespace Go.Proofs.YtecpdhjangojiaaGreatDoor
open Go.ChangeShapes Go.WideShapes Go.ChangeAt Go.RowKit Go.Joins
set_option linter.unusedSimpArgs false
set_option linter.unusedVariables false
set_option maxRecDepth 100000

/-- The number of a digit; -1 if it is none. -/
def hexN (c : UInt8) : Int := Lib.indexByte [48, 49, 50, 51, 52, 53, 54, 55, 56, 57, 97, 98, 99, 100, 101, 102] c
theorem hexN_range (c : UInt8) : -1 ≤ hexN c ∧ hexN c ≤ 15 := by
  have h1 := Lib.indexByte_ge [48, 49, 50, 51, 52, 53, 54, 55, 56, 57, 97, 98, 99, 100, 101, 102] c
  have h2 := indexByte_lt [48, 49, 50, 51, 52, 53, 54, 55, 56, 57, 97, 98, 99, 100, 101, 102] c
  unfold hexN
  simp only [List.length_cons, List.length_nil] at h2
  omega
/-- The bytes of digits, two for each; none if a sign is no digit or there is one too many. -/
def readHexL : List UInt8 → Option (List UInt8)
  | [] => some []
  | [_] => none
  | a :: b :: r => if hexN a < 0 then none else if hexN b < 0 then none else (readHexL r).map (UInt8.ofNat (16 * hexN a + hexN b).toNat :: ·)
/-- How bytes and whether they are there are handed back. -/
def RetO (w : World) (o : Option (List UInt8)) (e : Ending) (w' : World) : Prop := ∃ r, e = .returned (.tuple #[r, .bool o.isSome]) ∧ OwnB w' w.heap.size r (o.getD []) ∧ Below w.heap.size w w'

theorem readHexL_cc (a b : UInt8) (r : List UInt8) : readHexL (a :: b :: r) = if hexN a < 0 then none else if hexN b < 0 then none else (readHexL r).map (UInt8.ofNat (16 * hexN a + hexN b).toNat :: ·) := rfl
theorem readHexL_odd : ∀ l : List UInt8, l.length % 2 = 1 → readHexL l = none
  | [], h => by simp at h
  | [_], _ => rfl
  | a :: b :: r, h => by
    have ih := readHexL_odd r (by simp only [List.length_cons] at h; omega)
    rw [readHexL_cc, ih]
    split <;> (try split) <;> rfl
theorem readHexL_length : ∀ (l b : List UInt8), readHexL l = some b → 2 * b.length = l.length
  | [], b, h => by simp [readHexL] at h; subst h; rfl
  | [_], b, h => by simp [readHexL] at h
  | x :: y :: r, b, h => by
    unfold readHexL at h
    split at h
    · cases h
    · split at h
      · cases h
      · rw [Option.map_eq_some_iff] at h
        obtain ⟨b', hb, rfl⟩ := h
        have := readHexL_length r b' hb
        simp; omega
/-- Good digits up to an even place, then the rest. -/
theorem readHexL_append : ∀ (l k : List UInt8) (b : List UInt8), readHexL l = some b → readHexL (l ++ k) = (readHexL k).map (b ++ ·)
  | [], k, b, h => by simp [readHexL] at h; subst h; simp
  | [_], k, b, h => by simp [readHexL] at h
  | x :: y :: r, k, b, h => by
    unfold readHexL at h
    split at h
    · cases h
    · rename_i h1
      split at h
      · cases h
      · rename_i h2
        rw [Option.map_eq_some_iff] at h
        obtain ⟨b', hb, rfl⟩ := h
        have ih := readHexL_append r k b' hb
        show readHexL (x :: y :: (r ++ k)) = _
        rw [readHexL_cc, if_neg h1, if_neg h2, ih]
        cases readHexL k <;> simp
theorem readHexL_step (l : List UInt8) (k : Nat) (b : List UInt8) (h0 : k + 1 < l.length) (h : readHexL (l.take k) = some b) (ha : ¬ hexN l[k] < 0) (hb : ¬ hexN l[k + 1] < 0) :
    readHexL (l.take (k + 2)) = some (b ++ [UInt8.ofNat (16 * hexN l[k] + hexN l[k + 1]).toNat]) := by
  have e : l.take (k + 2) = l.take k ++ [l[k], l[k + 1]] := by
    rw [List.take_succ_eq_append_getElem (i := k + 1) h0, List.take_succ_eq_append_getElem (i := k) (by omega), List.append_assoc]; rfl
  rw [e, readHexL_append _ _ b h]
  simp [readHexL, ha, hb]
theorem readHexL_bad (l : List UInt8) (k : Nat) (b : List UInt8) (h0 : k + 1 < l.length) (h : readHexL (l.take k) = some b) (hx : hexN l[k] < 0 ∨ hexN l[k + 1] < 0) : readHexL l = none := by
  have e0 : l.drop k = l[k] :: l[k + 1] :: l.drop (k + 2) := by
    rw [List.drop_eq_getElem_cons (show k < l.length by omega), List.drop_eq_getElem_cons (show k + 1 < l.length by omega)]
  have e : readHexL l = readHexL (l.take k ++ (l[k] :: l[k + 1] :: l.drop (k + 2))) := by rw [← e0, List.take_append_drop]
  rw [e, readHexL_append _ _ b h, readHexL_cc]
  by_cases h1 : hexN l[k] < 0
  · rw [if_pos h1]; rfl
  · rw [if_neg h1, if_pos (by rcases hx with hx | hx; exact absurd hx h1; exact hx)]; rfl

theorem quiet_left {P : Program} {f : FuncId} {args : Array Value} {w : World} {n : Nat} {v : Value}
    (h : Calls P f args (w.drewN n) fun e w' => e = .returned v ∧ w.drewN n = w') : Calls P f args (w.drewN n) fun e w'' => e = .returned v ∧ ∃ m, w'' = w.drewN m :=
  h.mono fun _ _ ⟨he, hm⟩ => ⟨he, n, hm.symm⟩
/-- The bytes of a text. -/
def bytesT (s : ByteArray) : List UInt8 := s.data.toList
theorem bytesT_length (s : ByteArray) : (bytesT s).length = s.size := by unfold bytesT; rw [Array.length_toList]; rfl
theorem bytesT_get (s : ByteArray) (k : Nat) (h : k < s.size) : (bytesT s)[k]'(by rw [bytesT_length]; exact h) = s[k] := rfl

set_option maxHeartbeats 1000000 in
theorem strings_IndexByte (w : World) (s : ByteArray) (c : UInt8) (x : Int) (hx : x = (c.toNat : Int)) :
    Calls Tryz.prog 74 #[.string s, .int .u8 x] w fun e w' => e = .returned (.int .i64 (Lib.indexByte s.data.toList c)) ∧ w = w' := by
  subst hx
  have key := Lib.run_indexByteString (P := Tryz.prog) s (c.toNat : Int) w
  have e2 : ((c.toNat : Int).toNat).toUInt8 = c := by simp
  rw [e2] at key
  have KEY := Lib.hid key
  clear key e2
  go_enter Tryz.func74, Tryz.ntmps74
  go_wp2
  rw [run_callFunc_extern Tryz.func102 (by kernel_rfl) (by kernel_rfl) (by kernel_rfl) (e := Extern.BytealgIndexByte.indexByte) (by kernel_rfl), KEY.out]
  simp only [Result.andThen]
  rw [Oper.upon_value]
  go_wp2
  go_ret
  exact ⟨rfl, rfl⟩
theorem hexIndex (w : World) (c : UInt8) (x : Int) (hx : x = (c.toNat : Int)) :
    Calls Tryz.prog 74 #[.string hexS, .int .u8 x] w fun e w' => e = .returned (.int .i64 (hexN c)) ∧ w = w' := strings_IndexByte w hexS c x hx
set_option maxHeartbeats 1000000 in
theorem i_ReadHex (w : World) (s : ByteArray) (hs : s.size ≤ 1073741824) :
    Calls Tryz.prog 52 #[.string s] w (RetO w (readHexL (bytesT s))) := by
  obtain ⟨i0, hi, hz0, hz1, hz2⟩ := info_parts info_u8
  by_cases hodd : s.size % 2 = 1
  · have e1 : ((s.size : Int) % 2 == 1) = true := by rw [beq_iff_eq]; omega
    have E : Hid (readHexL (bytesT s) = none) := readHexL_odd _ (by rw [bytesT_length]; exact hodd)
    clear hodd
    go_enter Tryz.func52, Tryz.ntmps52
    go_wp2_with fail
    go_ret2
    rw [E.out]
    exact ⟨_, rfl, World.ownsRow_nil _ _ _ _, ((From.start w).alloc _).below⟩
  · have e1 : ((s.size : Int) % 2 == 1) = false := by rw [beq_eq_false_iff_ne]; omega
    have HE := Lib.hid hodd
    clear hodd
    go_enter Tryz.func52, Tryz.ntmps52
    go_wp2_with fail
    go_loopw [4, 5] (fun out i wr => ∃ (k : Nat) (b : List UInt8), k ≤ s.size ∧ i = .int .i64 k ∧ Hid (k % 2 = 0) ∧ Hid (readHexL ((bytesT s).take k) = some b) ∧ Hid (OwnB wr w.heap.size out b) ∧ Hid (From w.heap.size w wr)) (fun _ i _ => s.size - (intOf i).toNat)
    case atStart => exact ⟨0, [], Nat.zero_le _, rfl, rfl, rfl, World.ownsRow_lit w #[] 0 (Nat.le_refl _) (Nat.zero_le _) rfl, (From.start w).alloc _⟩
    case round =>
      obtain ⟨k, b, hk, rfl, HK, HR, HO, HF⟩ := hrel
      by_cases hlt : k < s.size
      · have hlt1 : k + 1 < s.size := by have := HK.out; have := HE.out; omega
        have i1 : (k : Int) < (s.size : Int) := by omega
        have i3 : (0 : Int) ≤ (k : Int) := by omega
        have x1 : IntKind.i64.wrap ((k : Int) + 1) = (k : Int) + 1 := IntWalk.i64_in _ (by omega)
        have x2 : (0 : Int) ≤ (k : Int) + 1 := by omega
        have x3 : (k : Int) + 1 < (s.size : Int) := by omega
        have x4 : ((k : Int) + 1).toNat = k + 1 := by omega
        have r1 := hexN_range s[k]
        have r2 := hexN_range s[k + 1]
        go_wp2_with fail
        go_quiet (first | (go_at_call 74; exact quiet_left (hexIndex _ _ _ rfl)))
        by_cases hb1 : hexN s[k] < 0
        · have E : Hid (readHexL (bytesT s) = none) := readHexL_bad _ k b (by rw [bytesT_length]; exact hlt1) HR.out (.inl hb1)
          go_wp2_with fail
          go_ret2
          rw [E.out]
          exact ⟨_, rfl, World.ownsRow_nil _ _ _ _, (HF.out.drewN _).below⟩
        by_cases hb2 : hexN s[k + 1] < 0
        · have E : Hid (readHexL (bytesT s) = none) := readHexL_bad _ k b (by rw [bytesT_length]; exact hlt1) HR.out (.inr hb2)
          go_wp2_with fail
          go_ret2
          rw [E.out]
          exact ⟨_, rfl, World.ownsRow_nil _ _ _ _, (HF.out.drewN _).below⟩
        · have ES : Hid (readHexL ((bytesT s).take (k + 2)) = some (b ++ [UInt8.ofNat (16 * hexN s[k] + hexN s[k + 1]).toNat])) :=
            readHexL_step (bytesT s) k b (by rw [bytesT_length]; exact hlt1) HR.out hb1 hb2
          have hbl : b.length ≤ 1073741824 := by
            have := readHexL_length _ _ HR.out
            rw [List.length_take, bytesT_length] at this
            omega
          generalize hexN s[k] = p at r1 hb1 ES ⊢
          generalize hexN s[k + 1] = q at r2 hb2 ES ⊢
          obtain ⟨r1a, r1b⟩ := r1
          obtain ⟨r2a, r2b⟩ := r2
          have p0 : 0 ≤ p := by omega
          have q0 : 0 ≤ q := by omega
          have HOd : Hid (OwnB (wr.drewN nq) w.heap.size u4 b) := HO.out
          have HFd := Lib.hid (HF.out.drewN nq)
          clear HO HF
          generalize wr.drewN nq = w2 at HOd HFd ⊢
          go_wp2_with (at_builtin; refine wpList_append_src rfl _ _ 22 22 rfl w.heap.size 5 i0 (.int .u8 0) 1 1 Tryz.underlying22 hi hz0 hz1 hz2 rfl (by decide) _ _ _ rfl (HOd.out.alloc _) _ 1 [_] rfl (src_new Tryz.underlying22 _ [_] 1 1 1 _ rfl ?c0) ?c1 ?c2 ?c3 ?_)
          case c0 => first | (intro u hu; obtain rfl := List.mem_singleton.1 hu; rfl) | rfl | simp [Value.oneCell']
          case c1 => unfold maxLen; omega
          case c2 => omega
          case c3 => have := HFd.out.le; simp; omega
          intro v' w1 hown1 hgr1
          have F1 := (HFd.out.alloc _).grown hgr1 (owns_block HOd.out)
          have hown2 : OwnB w1 w.heap.size v' (b ++ [UInt8.ofNat (16 * p + q).toNat]) := owns_snoc hown1 (by rw [UInt8.toNat_ofNat']; omega)
          have HO2 := Lib.hid hown2
          have HF2 := Lib.hid F1
          clear hown2 hown1 F1 hgr1 HOd HFd
          go_wp2_with fail
          go_roundw
          case rel => exact ⟨k + 2, _, by omega, by go_num, by show _ = _; have := HK.out; omega, ES, HO2, HF2⟩
          case measure => simp [intOf]; try omega
      · obtain rfl : k = s.size := by omega
        have E : Hid (readHexL (bytesT s) = some b) := by
          have := HR.out
          rw [List.take_of_length_le (by rw [bytesT_length]; exact Nat.le_refl _)] at this
          exact this
        go_wp2_with fail
        go_ret2
        rw [E.out]
        exact ⟨_, rfl, HO.out, HF.out.below⟩
theorem hexC_fin : ∀ n : Fin 256, ∀ j : Fin 16, decide (hexC j.val = UInt8.ofNat n.val) = decide (hexN (UInt8.ofNat n.val) = (j.val : Int)) := by decide +kernel
theorem hexC_iff (c : UInt8) (j : Nat) (hj : j < 16) : hexC j = c ↔ hexN c = (j : Int) := by
  have h := hexC_fin ⟨c.toNat, u8_lt c⟩ ⟨j, hj⟩
  have e : UInt8.ofNat c.toNat = c := by simp
  simp only [e] at h
  constructor
  · intro h1; have := decide_eq_true h1; rw [h] at this; exact of_decide_eq_true this
  · intro h1; have := decide_eq_true h1; rw [← h] at this; exact of_decide_eq_true this
/-- The digit found so far. -/
def hexUp (c : UInt8) (j : Nat) : Int := if 0 ≤ hexN c ∧ hexN c < (j : Int) then hexN c else -1
theorem hexUp_hit {c : UInt8} {j : Nat} (h : hexN c = (j : Int)) : hexUp c (j + 1) = (j : Int) := by
  unfold hexUp; rw [if_pos (by omega), h]
theorem hexUp_miss {c : UInt8} {j : Nat} (h : hexN c ≠ (j : Int)) : hexUp c (j + 1) = hexUp c j := by
  unfold hexUp
  by_cases h1 : 0 ≤ hexN c ∧ hexN c < (j : Int)
  · rw [if_pos h1, if_pos (by omega)]
  · rw [if_neg h1, if_neg (by omega)]
theorem hexUp_all (c : UInt8) : hexUp c 16 = hexN c := by
  have := hexN_range c
  unfold hexUp
  by_cases h1 : 0 ≤ hexN c ∧ hexN c < ((16 : Nat) : Int)
  · rw [if_pos h1]
  · rw [if_neg h1]; omega
theorem digit_i_0 (w : World) : (Instr.index 9 (.string hexS) (.int .i64 0)).run Tryz.prog w = .ok (.int .u8 ((hexC 0).toNat : Int)) w := by kernel_rfl
theorem digit_i_1 (w : World) : (Instr.index 9 (.string hexS) (.int .i64 1)).run Tryz.prog w = .ok (.int .u8 ((hexC 1).toNat : Int)) w := by kernel_rfl
theorem digit_i_2 (w : World) : (Instr.index 9 (.string hexS) (.int .i64 2)).run Tryz.prog w = .ok (.int .u8 ((hexC 2).toNat : Int)) w := by kernel_rfl
theorem digit_i_3 (w : World) : (Instr.index 9 (.string hexS) (.int .i64 3)).run Tryz.prog w = .ok (.int .u8 ((hexC 3).toNat : Int)) w := by kernel_rfl
theorem digit_i_4 (w : World) : (Instr.index 9 (.string hexS) (.int .i64 4)).run Tryz.prog w = .ok (.int .u8 ((hexC 4).toNat : Int)) w := by kernel_rfl
theorem digit_i_5 (w : World) : (Instr.index 9 (.string hexS) (.int .i64 5)).run Tryz.prog w = .ok (.int .u8 ((hexC 5).toNat : Int)) w := by kernel_rfl
theorem digit_i_6 (w : World) : (Instr.index 9 (.string hexS) (.int .i64 6)).run Tryz.prog w = .ok (.int .u8 ((hexC 6).toNat : Int)) w := by kernel_rfl
theorem digit_i_7 (w : World) : (Instr.index 9 (.string hexS) (.int .i64 7)).run Tryz.prog w = .ok (.int .u8 ((hexC 7).toNat : Int)) w := by kernel_rfl
theorem digit_i_8 (w : World) : (Instr.index 9 (.string hexS) (.int .i64 8)).run Tryz.prog w = .ok (.int .u8 ((hexC 8).toNat : Int)) w := by kernel_rfl
theorem digit_i_9 (w : World) : (Instr.index 9 (.string hexS) (.int .i64 9)).run Tryz.prog w = .ok (.int .u8 ((hexC 9).toNat : Int)) w := by kernel_rfl
theorem digit_i_10 (w : World) : (Instr.index 9 (.string hexS) (.int .i64 10)).run Tryz.prog w = .ok (.int .u8 ((hexC 10).toNat : Int)) w := by kernel_rfl
theorem digit_i_11 (w : World) : (Instr.index 9 (.string hexS) (.int .i64 11)).run Tryz.prog w = .ok (.int .u8 ((hexC 11).toNat : Int)) w := by kernel_rfl
theorem digit_i_12 (w : World) : (Instr.index 9 (.string hexS) (.int .i64 12)).run Tryz.prog w = .ok (.int .u8 ((hexC 12).toNat : Int)) w := by kernel_rfl
theorem digit_i_13 (w : World) : (Instr.index 9 (.string hexS) (.int .i64 13)).run Tryz.prog w = .ok (.int .u8 ((hexC 13).toNat : Int)) w := by kernel_rfl
theorem digit_i_14 (w : World) : (Instr.index 9 (.string hexS) (.int .i64 14)).run Tryz.prog w = .ok (.int .u8 ((hexC 14).toNat : Int)) w := by kernel_rfl
theorem digit_i_15 (w : World) : (Instr.index 9 (.string hexS) (.int .i64 15)).run Tryz.prog w = .ok (.int .u8 ((hexC 15).toNat : Int)) w := by kernel_rfl
theorem digit_i (n : Nat) (h : n < 16) (x : Int) (hx : x = (n : Int)) : ∀ w : World, (Instr.index 9 (.string hexS) (.int .i64 x)).run Tryz.prog w = .ok (.int .u8 ((hexC n).toNat : Int)) w := by
  subst hx
  have hn : n = 0 ∨ n = 1 ∨ n = 2 ∨ n = 3 ∨ n = 4 ∨ n = 5 ∨ n = 6 ∨ n = 7 ∨ n = 8 ∨ n = 9 ∨ n = 10 ∨ n = 11 ∨ n = 12 ∨ n = 13 ∨ n = 14 ∨ n = 15 := by omega
  rcases hn with rfl | rfl | rfl | rfl | rfl | rfl | rfl | rfl | rfl | rfl | rfl | rfl | rfl | rfl | rfl | rfl
  · exact digit_i_0
  · exact digit_i_1
  · exact digit_i_2
  · exact digit_i_3
  · exact digit_i_4
  · exact digit_i_5
  · exact digit_i_6
  · exact digit_i_7
  · exact digit_i_8
  · exact digit_i_9
  · exact digit_i_10
  · exact digit_i_11
  · exact digit_i_12
  · exact digit_i_13
  · exact digit_i_14
  · exact digit_i_15
theorem u8_beq {a b : UInt8} (h : a = b) : ((a.toNat : Int) == (b.toNat : Int)) = true := by subst h; simp
theorem u8_bne {a b : UInt8} (h : a ≠ b) : ((a.toNat : Int) == (b.toNat : Int)) = false := by
  rw [beq_eq_false_iff_ne]; intro e; exact h (UInt8.toNat_inj.1 (by omega))
/-- What the reference has after k signs. -/
def HexSt (L : List UInt8) (k : Nat) (b : List UInt8) (n : Int) : Prop :=
  (k % 2 = 0 ∧ n = 0 ∧ readHexL (L.take k) = some b) ∨ (k % 2 = 1 ∧ ∃ h : k - 1 < L.length, n = hexN L[k - 1] ∧ 0 ≤ n ∧ readHexL (L.take (k - 1)) = some b)
theorem HexSt.bad {L : List UInt8} {k : Nat} {b : List UInt8} {n : Int} (h : HexSt L k b n) (hk : k < L.length) (hx : hexN L[k] < 0) : readHexL L = none := by
  rcases h with ⟨h1, _, h3⟩ | ⟨h1, h2, h3, h4, h5⟩
  · by_cases hl : k + 1 < L.length
    · exact readHexL_bad L k b hl h3 (.inl hx)
    · exact readHexL_odd L (by omega)
  · have e : k - 1 + 1 = k := by omega
    refine readHexL_bad L (k - 1) b (by omega) h5 (.inr ?_)
    simp only [e]; exact hx
theorem HexSt.even {L : List UInt8} {k : Nat} {b : List UInt8} {n : Int} (h : HexSt L k b n) (h0 : k % 2 = 0) (hk : k < L.length) (hx : ¬ hexN L[k] < 0) : HexSt L (k + 1) b (16 * n + hexN L[k]) := by
  rcases h with ⟨h1, h2, h3⟩ | ⟨h1, _⟩
  · refine .inr ⟨by omega, by simpa using hk, ?_, ?_, by simpa using h3⟩
    · simp [h2]
    · omega
  · omega
theorem HexSt.odd {L : List UInt8} {k : Nat} {b : List UInt8} {n : Int} (h : HexSt L k b n) (h0 : k % 2 = 1) (hk : k < L.length) (hx : ¬ hexN L[k] < 0) : HexSt L (k + 1) (b ++ [UInt8.ofNat (16 * n + hexN L[k]).toNat]) 0 := by
  rcases h with ⟨h1, _⟩ | ⟨h1, h2, h3, h4, h5⟩
  · omega
  · have e : k - 1 + 1 = k := by omega
    have e2 : k - 1 + 2 = k + 1 := by omega
    have := readHexL_step L (k - 1) b (by omega) h5 (by omega) (by simp only [e]; exact hx)
    simp only [e, e2, ← h3] at this
    exact .inl ⟨by omega, rfl, this⟩
theorem HexSt.range {L : List UInt8} {k : Nat} {b : List UInt8} {n : Int} (h : HexSt L k b n) : 0 ≤ n ∧ n ≤ 15 ∧ 2 * b.length ≤ L.length := by
  rcases h with ⟨h1, h2, h3⟩ | ⟨h1, h2, h3, h4, h5⟩
  · have := readHexL_length _ _ h3
    rw [List.length_take] at this
    omega
  · have := readHexL_length _ _ h5
    rw [List.length_take] at this
    have := hexN_range L[k - 1]
    omega

set_option maxHeartbeats 2000000 in
theorem s_ReadHex (w : World) (s : ByteArray) (hs : s.size ≤ 1073741824) :
    Calls Tryz.prog 30 #[.string s] w (RetO w (readHexL (bytesT s))) := by
  obtain ⟨i0, hi, hz0, hz1, hz2⟩ := info_parts info_u8
  go_enter Tryz.func30, Tryz.ntmps30
  go_wp2_with fail
  go_loopw [4, 5, 6] (fun out m i wr => ∃ (k : Nat) (b : List UInt8) (n : Int), k ≤ s.size ∧ i = .int .i64 k ∧ m = .int .i64 n ∧ Hid (HexSt (bytesT s) k b n) ∧ Hid (OwnB wr w.heap.size out b) ∧ Hid (From w.heap.size w wr)) (fun _ _ i _ => s.size - (intOf i).toNat)
  case atStart => exact ⟨0, [], 0, Nat.zero_le _, rfl, rfl, .inl ⟨rfl, rfl, rfl⟩, World.ownsRow_lit w #[] 0 (Nat.le_refl _) (Nat.zero_le _) rfl, (From.start w).alloc _⟩
  case round =>
    obtain ⟨k, b, n, hk, rfl, rfl, HS, HO, HF⟩ := hrel
    have hn := HS.out.range
    rw [bytesT_length] at hn
    obtain ⟨n0, n1, hbl⟩ := hn
    by_cases hlt : k < s.size
    · have i1 : (k : Int) < (s.size : Int) := by omega
      have i3 : (0 : Int) ≤ (k : Int) := by omega
      obtain ⟨wo, hwo⟩ : ∃ wo : World, wo = wr := ⟨_, rfl⟩
      subst hwo
      go_wp2_with fail
      go_loopw [7, 8] (fun d i wr => ∃ (j : Nat) (x : Int), j ≤ 16 ∧ i = .int .i64 j ∧ d = .int .i64 x ∧ Hid (x = hexUp s[k] j) ∧ (∃ q, wr = wo.drewN q)) (fun _ i _ => 16 - (intOf i).toNat)
      case atStart => exact ⟨0, -1, by omega, rfl, rfl, by show _ = _; unfold hexUp; rw [if_neg (by omega)], 0, rfl⟩
      case round =>
        obtain ⟨j, x, hj, rfl, rfl, hx, q, rfl⟩ := hrel
        by_cases hjt : j < 16
        · have d1 := digit_i j hjt (j : Int) rfl
          by_cases he : hexN s[k] = (j : Int)
          · have hb := u8_beq ((hexC_iff s[k] j hjt).2 he)
            have HE := Lib.hid he
            clear he
            go_wp2_with fail
            go_quiet (fail)
            go_wp2_with fail
            go_roundw
            case rel => exact ⟨j + 1, _, by omega, by go_num, rfl, (hexUp_hit HE.out).symm, _, rfl⟩
            case measure => simp [intOf]; try omega
          · have hb := u8_bne (fun e => he ((hexC_iff s[k] j hjt).1 e))
            have HE := Lib.hid he
            clear he
            go_wp2_with fail
            go_quiet (fail)
            go_wp2_with fail
            go_roundw
            case rel => exact ⟨j + 1, _, by omega, by go_num, rfl, by show _ = _; rw [hexUp_miss HE.out]; exact hx.out, _, rfl⟩
            case measure => simp [intOf]; try omega
        · obtain rfl : j = 16 := by omega
          have hx2 : Hid (x = hexN s[k]) := by show _ = _; rw [← hexUp_all]; exact hx.out
          have r1 : -1 ≤ x ∧ x ≤ 15 := by rw [hx2.out]; exact hexN_range _
          obtain ⟨r1, r2⟩ := r1
          have hkb : k < (bytesT s).length := by rw [bytesT_length]; exact hlt
          clear hx
          by_cases hneg : x < 0
          · have E : Hid (readHexL (bytesT s) = none) := HS.out.bad hkb (by rw [bytesT_get s k hlt, ← hx2.out]; exact hneg)
            go_wp2_with fail
            go_ret2
            rw [E.out]
            exact ⟨_, rfl, World.ownsRow_lit _ #[] 0 (HF.out.drewN q).le (Nat.zero_le _) rfl, ((HF.out.drewN q).alloc _).below⟩
          · by_cases hpar : k % 2 = 1
            · have e1 : ((k : Int) % 2 == 1) = true := by rw [beq_iff_eq]; omega
              have ES : Hid (HexSt (bytesT s) (k + 1) (b ++ [UInt8.ofNat (16 * n + x).toNat]) 0) := by
                rw [hx2.out]; exact HS.out.odd hpar hkb (by rw [bytesT_get s k hlt, ← hx2.out]; exact hneg)
              have HOd : Hid (OwnB (wo.drewN q) w.heap.size u4 b) := HO.out
              have HFd := Lib.hid (HF.out.drewN q)
              have x0 : 0 ≤ x := by omega
              clear HO HF hpar hneg r1
              generalize wo.drewN q = w2 at HOd HFd ⊢
              go_wp2_with (at_builtin; refine wpList_append_src rfl _ _ 22 22 rfl w.heap.size 5 i0 (.int .u8 0) 1 1 Tryz.underlying22 hi hz0 hz1 hz2 rfl (by decide) _ _ _ rfl (HOd.out.alloc _) _ 1 [_] rfl (src_new Tryz.underlying22 _ [_] 1 1 1 _ rfl ?c0) ?c1 ?c2 ?c3 ?_)
              case c0 => first | (intro u hu; obtain rfl := List.mem_singleton.1 hu; rfl) | rfl | simp [Value.oneCell']
              case c1 => unfold maxLen; omega
              case c2 => omega
              case c3 => have := HFd.out.le; simp; omega
              intro v' w1 hown1 hgr1
              have F1 := (HFd.out.alloc _).grown hgr1 (owns_block HOd.out)
              have hown2 : OwnB w1 w.heap.size v' (b ++ [UInt8.ofNat (16 * n + x).toNat]) := owns_snoc hown1 (by rw [UInt8.toNat_ofNat']; omega)
              have HO2 := Lib.hid hown2
              have HF2 := Lib.hid F1
              clear hown2 hown1 F1 hgr1 HOd HFd
              go_wp2_with fail
              go_roundw
              case rel => exact ⟨k + 1, _, 0, by omega, by go_num, rfl, ES, HO2, HF2⟩
              case measure => simp [intOf]; try omega
            · have e1 : ((k : Int) % 2 == 1) = false := by rw [beq_eq_false_iff_ne]; omega
              have ES : Hid (HexSt (bytesT s) (k + 1) b (16 * n + x)) := by
                rw [hx2.out]; exact HS.out.even (by omega) hkb (by rw [bytesT_get s k hlt, ← hx2.out]; exact hneg)
              have HFd := Lib.hid (HF.out.drewN q)
              clear hpar
              go_wp2_with fail
              go_roundw
              case rel => exact ⟨k + 1, _, _, by omega, by go_num, rfl, ES, HO, HFd⟩
              case measure => simp [intOf]; try omega
    · obtain rfl : k = s.size := by omega
      by_cases hodd : s.size % 2 = 1
      · have e1 : ((s.size : Int) % 2 == 1) = true := by rw [beq_iff_eq]; omega
        have E : Hid (readHexL (bytesT s) = none) := readHexL_odd _ (by rw [bytesT_length]; exact hodd)
        clear hodd
        go_wp2_with fail
        go_ret2
        rw [E.out]
        exact ⟨_, rfl, World.ownsRow_lit _ #[] 0 HF.out.le (Nat.zero_le _) rfl, (HF.out.alloc _).below⟩
      · have e1 : ((s.size : Int) % 2 == 1) = false := by rw [beq_eq_false_iff_ne]; omega
        have E : Hid (readHexL (bytesT s) = some b) := by
          rcases HS.out with ⟨_, _, h3⟩ | ⟨h1, _⟩
          · rw [List.take_of_length_le (by rw [bytesT_length]; exact Nat.le_refl _)] at h3
            exact h3
          · omega
        clear hodd
        go_wp2_with fail
        go_ret2
        rw [E.out]
        exact ⟨_, rfl, HO.out, HF.out.below⟩
end Go.Proofs.YtecpdhjangojiaaGreatDoor
