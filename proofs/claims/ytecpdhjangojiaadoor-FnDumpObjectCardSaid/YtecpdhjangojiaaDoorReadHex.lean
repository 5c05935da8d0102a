/- Reading hexadecimal digits: both functions compute the same. -/
import Derived.Test.YtecpdhjangojiaaDoorHex
import Derived.Test.YtecpdhjangojiaaDoorBytes
namespace Go.Proofs.YtecpdhjangojiaaDoor
open Go.ChangeShapes Go.WideShapes Go.ChangeAt Go.RowKit Go.Joins
set_option linter.unusedSimpArgs false
set_option linter.unusedVariables false
set_option maxRecDepth 100000

/-- The number of a digit; -1 if it is none. -/
def hexN (c : UInt8) : Int := Lib.indexByte [48, 49, 50, 51, 52, 53, 54, 55, 56, 57, 97, 98, 99, 100, 101, 102] c
theorem hexN_range (c : UInt8) : -1 ≤ hexN c ∧ hexN c ≤ 15 := by
  have h1 := Lib.indexByte_ge [48, 49, 50, 51, 52, 53, 54, 55, 56, 57, 97, 98, 99, 100, 101, 102] c
  have h2 := indexByte_lt [48, 49, 50, 51, 52, 53, 54, 55, 56, 57, 97, 98, 99, 100, 101, 102] c
  unfold hexN
  simp only [List.length_cons, List.length_nil] at h2
  omega
/-- The bytes of digits, two for each; none if a sign is no digit or there is one too many. -/
def readHexL : List UInt8 → Option (List UInt8)
  | [] => some []
  | [_] => none
  | a :: b :: r => if hexN a < 0 then none else if hexN b < 0 then none else (readHexL r).map (UInt8.ofNat (16 * hexN a + hexN b).toNat :: ·)
/-- How bytes and whether they are there are handed back. -/
def RetO (w : World) (o : Option (List UInt8)) (e : Ending) (w' : World) : Prop := ∃ r, e = .returned (.tuple #[r, .bool o.isSome]) ∧ OwnB w' w.heap.size r (o.getD []) ∧ Below w.heap.size w w'

theorem readHexL_cc (a b : UInt8) (r : List UInt8) : readHexL (a :: b :: r) = if hexN a < 0 then none else if hexN b < 0 then none else (readHexL r).map (UInt8.ofNat (16 * hexN a + hexN b).toNat :: ·) := rfl
theorem readHexL_odd : ∀ l : List UInt8, l.length % 2 = 1 → readHexL l = none
  | [], h => by simp at h
  | [_], _ => rfl
  | a :: b :: r, h => by
    have ih := readHexL_odd r (by simp only [List.length_cons] at h; omega)
    rw [readHexL_cc, ih]
    split <;> (try split) <;> rfl
theorem readHexL_length : ∀ (l b : List UInt8), readHexL l = some b → 2 * b.length = l.length
  | [], b, h => by simp [readHexL] at h; subst h; rfl
  | [_], b, h => by simp [readHexL] at h
  | x :: y :: r, b, h => by
    unfold readHexL at h
    split at h
    · cases h
    · split at h
      · cases h
      · rw [Option.map_eq_some_iff] at h
        obtain ⟨b', hb, rfl⟩ := h
        have := readHexL_length r b' hb
        simp; omega
/-- Good digits up to an even place, then the rest. -/
theorem readHexL_append : ∀ (l k : List UInt8) (b : List UInt8), readHexL l = some b → readHexL (l ++ k) = (readHexL k).map (b ++ ·)
  | [], k, b, h => by simp [readHexL] at h; subst h; simp
  | [_], k, b, h => by simp [readHexL] at h
  | x :: y :: r, k, b, h => by
    unfold readHexL at h
    split at h
    · cases h
    · rename_i h1
      split at h
      · cases h
      · rename_i h2
        rw [Option.map_eq_some_iff] at h
        obtain ⟨b', hb, rfl⟩ := h
        have ih := readHexL_append r k b' hb
        show readHexL (x :: y :: (r ++ k)) = _
        rw [readHexL_cc, if_neg h1, if_neg h2, ih]
        cases readHexL k <;> simp
theorem readHexL_step (l : List UInt8) (k : Nat) (b : List UInt8) (h0 : k + 1 < l.length) (h : readHexL (l.take k) = some b) (ha : ¬ hexN l[k] < 0) (hb : ¬ hexN l[k + 1] < 0) :
    readHexL (l.take (k + 2)) = some (b ++ [UInt8.ofNat (16 * hexN l[k] + hexN l[k + 1]).toNat]) := by
  have e : l.take (k + 2) = l.take k ++ [l[k], l[k + 1]] := by
    rw [List.take_succ_eq_append_getElem (i := k + 1) h0, List.take_succ_eq_append_getElem (i := k) (by omega), List.append_assoc]; rfl
  rw [e, readHexL_append _ _ b h]
  simp [readHexL, ha, hb]
theorem readHexL_bad (l : List UInt8) (k : Nat) (b : List UInt8) (h0 : k + 1 < l.length) (h : readHexL (l.take k) = some b) (hx : hexN l[k] < 0 ∨ hexN l[k + 1] < 0) : readHexL l = none := by
  have e0 : l.drop k = l[k] :: l[k + 1] :: l.drop (k + 2) := by
    rw [List.drop_eq_getElem_cons (show k < l.length by omega), List.drop_eq_getElem_cons (show k + 1 < l.length by omega)]
  have e : readHexL l = readHexL (l.take k ++ (l[k] :: l[k + 1] :: l.drop (k + 2))) := by rw [← e0, List.take_append_drop]
  rw [e, readHexL_append _ _ b h, readHexL_cc]
  by_cases h1 : hexN l[k] < 0
  · rw [if_pos h1]; rfl
  · rw [if_neg h1, if_pos (by rcases hx with hx | hx; exact absurd hx h1; exact hx)]; rfl

theorem quiet_left {P : Program} {f : FuncId} {args : Array Value} {w : World} {n : Nat} {v : Value}
    (h : Calls P f args (w.drewN n) fun e w' => e = .returned v ∧ w.drewN n = w') : Calls P f args (w.drewN n) fun e w'' => e = .returned v ∧ ∃ m, w'' = w.drewN m :=
  h.mono fun _ _ ⟨he, hm⟩ => ⟨he, n, hm.symm⟩
/-- The bytes of a text. -/
def bytesT (s : ByteArray) : List UInt8 := s.data.toList
theorem bytesT_length (s : ByteArray) : (bytesT s).length = s.size := by unfold bytesT; rw [Array.length_toList]; rfl
theorem bytesT_get (s : ByteArray) (k : Nat) (h : k < s.size) : (bytesT s)[k]'(by rw [bytesT_length]; exact h) = s[k] := rfl

set_option maxHeartbeats 1000000 in
theorem strings_IndexByte (w : World) (s : ByteArray) (c : UInt8) (x : Int) (hx : x = (c.toNat : Int)) :
    Calls Tryd.prog 82 #[.string s, .int .u8 x] w fun e w' => e = .returned (.int .i64 (Lib.indexByte s.data.toList c)) ∧ w = w' := by
  subst hx
  have key := Lib.run_indexByteString (P := Tryd.prog) s (c.toNat : Int) w
  have e2 : ((c.toNat : Int).toNat).toUInt8 = c := by simp
  rw [e2] at key
  have KEY := Lib.hid key
  clear key e2
  go_enter Tryd.func82, Tryd.ntmps82
  go_wp2
  rw [run_callFunc_extern Tryd.func111 (by kernel_rfl) (by kernel_rfl) (by kernel_rfl) (e := Extern.BytealgIndexByte.indexByte) (by kernel_rfl), KEY.out]
  simp only [Result.andThen]
  rw [Oper.upon_value]
  go_wp2
  go_ret
  exact ⟨rfl, rfl⟩
theorem hexIndex (w : World) (c : UInt8) (x : Int) (hx : x = (c.toNat : Int)) :
    Calls Tryd.prog 82 #[.string hexS, .int .u8 x] w fun e w' => e = .returned (.int .i64 (hexN c)) ∧ w = w' := strings_IndexByte w hexS c x hx
set_option maxHeartbeats 1000000 in
theorem i_ReadHex (w : World) (s : ByteArray) (hs : s.size ≤ 1073741824) :
    Calls Tryd.prog 62 #[.string s] w (RetO w (readHexL (bytesT s))) := by
  obtain ⟨i0, hi, hz0, hz1, hz2⟩ := info_parts info_u8
  by_cases hodd : s.size % 2 = 1
  · have e1 : ((s.size : Int) % 2 == 1) = true := by rw [beq_iff_eq]; omega
    have E : Hid (readHexL (bytesT s) = none) := readHexL_odd _ (by rw [bytesT_length]; exact hodd)
    clear hodd
    go_enter Tryd.func62, Tryd.ntmps62
    go_wp2_with fail
    go_ret2
    rw [E.out]
    exact ⟨_, rfl, World.ownsRow_nil _ _ _ _, ((From.start w).alloc _).below⟩
  · have e1 : ((s.size : Int) % 2 == 1) = false := by rw [beq_eq_false_iff_ne]; omega
    have HE := Lib.hid hodd
    clear hodd
    go_enter Tryd.func62, Tryd.ntmps62
    go_wp2_with fail
    go_loopw [4, 5] (fun out i wr => ∃ (k : Nat) (b : List UInt8), k ≤ s.size ∧ i = .int .i64 k ∧ Hid (k % 2 = 0) ∧ Hid (readHexL ((bytesT s).take k) = some b) ∧ Hid (OwnB wr w.heap.size out b) ∧ Hid (From w.heap.size w wr)) (fun _ i _ => s.size - (intOf i).toNat)
    case atStart => exact ⟨0, [], Nat.zero_le _, rfl, rfl, rfl, World.ownsRow_lit w #[] 0 (Nat.le_refl _) (Nat.zero_le _) rfl, (From.start w).alloc _⟩
    case round =>
      obtain ⟨k, b, hk, rfl, HK, HR, HO, HF⟩ := hrel
      by_cases hlt : k < s.size
      · have hlt1 : k + 1 < s.size := by have := HK.out; have := HE.out; omega
        have i1 : (k : Int) < (s.size : Int) := by omega
        have i3 : (0 : Int) ≤ (k : Int) := by omega
        have x1 : IntKind.i64.wrap ((k : Int) + 1) = (k : Int) + 1 := IntWalk.i64_in _ (by omega)
        have x2 : (0 : Int) ≤ (k : Int) + 1 := by omega
        have x3 : (k : Int) + 1 < (s.size : Int) := by omega
        have x4 : ((k : Int) + 1).toNat = k + 1 := by omega
        have r1 := hexN_range s[k]
        have r2 := hexN_range s[k + 1]
        go_wp2_with fail
        go_quiet (first | (go_at_call 82; exact quiet_left (hexIndex _ _ _ rfl)))
        by_cases hb1 : hexN s[k] < 0
        · have E : Hid (readHexL (bytesT s) = none) := readHexL_bad _ k b (by rw [bytesT_length]; exact hlt1) HR.out (.inl hb1)
          go_wp2_with fail
          go_ret2
          rw [E.out]
          exact ⟨_, rfl, World.ownsRow_nil _ _ _ _, (HF.out.drewN _).below⟩
        by_cases hb2 : hexN s[k + 1] < 0
        · have E : Hid (readHexL (bytesT s) = none) := readHexL_bad _ k b (by rw [bytesT_length]; exact hlt1) HR.out (.inr hb2)
          go_wp2_with fail
          go_ret2
          rw [E.out]
          exact ⟨_, rfl, World.ownsRow_nil _ _ _ _, (HF.out.drewN _).below⟩
        · have ES : Hid (readHexL ((bytesT s).take (k + 2)) = some (b ++ [UInt8.ofNat (16 * hexN s[k] + hexN s[k + 1]).toNat])) :=
            readHexL_step (bytesT s) k b (by rw [bytesT_length]; exact hlt1) HR.out hb1 hb2
          have hbl : b.length ≤ 1073741824 := by
            have := readHexL_length _ _ HR.out
            rw [List.length_take, bytesT_length] at this
            omega
          generalize hexN s[k] = p at r1 hb1 ES ⊢
          generalize hexN s[k + 1] = q at r2 hb2 ES ⊢
          obtain ⟨r1a, r1b⟩ := r1
          obtain ⟨r2a, r2b⟩ := r2
          have p0 : 0 ≤ p := by omega
          have q0 : 0 ≤ q := by omega
          have HOd : Hid (OwnB (wr.drewN nq) w.heap.size u4 b) := HO.out
          have HFd := Lib.hid (HF.out.drewN nq)
          clear HO HF
          generalize wr.drewN nq = w2 at HOd HFd ⊢
          go_wp2_with (at_builtin; refine wpList_append_src rfl _ _ 22 22 rfl w.heap.size 5 i0 (.int .u8 0) 1 1 Tryd.underlying22 hi hz0 hz1 hz2 rfl (by decide) _ _ _ rfl (HOd.out.alloc _) _ 1 [_] rfl (src_new Tryd.underlying22 _ [_] 1 1 1 _ rfl ?c0) ?c1 ?c2 ?c3 ?_)
          case c0 => first | (intro u hu; obtain rfl := List.mem_singleton.1 hu; rfl) | rfl | simp [Value.oneCell']
          case c1 => unfold maxLen; omega
          case c2 => omega
          case c3 => have := HFd.out.le; simp; omega
          intro v' w1 hown1 hgr1
          have F1 := (HFd.out.alloc _).grown hgr1 (owns_block HOd.out)
          have hown2 : OwnB w1 w.heap.size v' (b ++ [UInt8.ofNat (16 * p + q).toNat]) := owns_snoc hown1 (by rw [UInt8.toNat_ofNat']; omega)
          have HO2 := Lib.hid hown2
          have HF2 := Lib.hid F1
          clear hown2 hown1 F1 hgr1 HOd HFd
          go_wp2_with fail
          go_roundw
          case rel => exact ⟨k + 2, _, by omega, by go_num, by show _ = _; have := HK.out; omega, ES, HO2, HF2⟩
          case measure => simp [intOf]; try omega
      · obtain rfl : k = s.size := by omega
        have E : Hid (readHexL (bytesT s) = some b) := by
          have := HR.out
          rw [List.take_of_length_le (by rw [bytesT_length]; exact Nat.le_refl _)] at this
          exact this
        go_wp2_with fail
        go_ret2
        rw [E.out]
        exact ⟨_, rfl, HO.out, HF.out.below⟩
theorem hexC_fin : ∀ n : Fin 256, ∀ j : Fin 16, decide (hexC j.val = UInt8.ofNat n.val) = decide (hexN (UInt8.ofNat n.val) = (j.val : Int)) := by decide +kernel
theorem hexC_iff (c : UInt8) (j : Nat) (hj : j < 16) : hexC j = c ↔ hexN c = (j : Int) := by
  have h := hexC_fin ⟨c.toNat, u8_lt c⟩ ⟨j, hj⟩
  have e : UInt8.ofNat c.toNat = c := by simp
  simp only [e] at h
  constructor
  · intro h1; have := decide_eq_true h1; rw [h] at this; exact of_decide_eq_true this
  · intro h1; have := decide_eq_true h1; rw [← h] at this; exact of_decide_eq_true this
end Go.Proofs.YtecpdhjangojiaaDoor
