/- Texts that a law copies, compares, measures, writes over (marks). -/
import Derived.Test.YtecpdhjangojiaaDoorBase
import Derived.Test.YtecpdhjangojiaaDoorBytes
import Derived.Test.YtecpdhjangojiaaDoorHex
import Derived.Test.YtecpdhjangojiaaDoorSec
namespace Go.Proofs.YtecpdhjangojiaaDoor
open Go.ChangeShapes Go.WideShapes Go.ChangeAt Go.RowKit Go.Joins
set_option linter.unusedSimpArgs false
set_option linter.unusedVariables false
set_option maxRecDepth 100000
/-- What a function ends in that hands back texts of its own. -/
def RetS (w : World) (l : List ByteArray) (e : Ending) (w' : World) : Prop := ∃ r, e = .returned r ∧ OwnS w' w.heap.size r l ∧ r ≠ .slice none 0 0 ∧ Below w.heap.size w w'
theorem set_fillS (l : List ByteArray) (k : Nat) (hk : k < l.length) :
    (svs (l.take k) ++ List.replicate (l.length - k) (Value.string ⟨#[]⟩)).set k (.string l[k]) = svs (l.take (k + 1)) ++ List.replicate (l.length - (k + 1)) (Value.string ⟨#[]⟩) := by
  have hl : (svs (l.take k)).length = k := by rw [svs_length, List.length_take]; omega
  rw [List.set_append, if_neg (by omega), hl, Nat.sub_self, List.take_succ_eq_append_getElem hk, svs_append, List.append_assoc]
  congr 1
  rw [show l.length - k = (l.length - (k + 1)) + 1 by omega, List.replicate_succ]
  rfl
set_option maxHeartbeats 1000000 in
theorem l_eqStringS_same (w : World) (v1 v2 : Value) (l : List ByteArray) (h1 : StrsAt w v1 l) (h2 : StrsAt w v2 l) :
    Calls Tryd.prog 15 #[v1, v2] w fun e w' => e = .returned (.bool true) ∧ Below w.heap.size w w' := by
  obtain ⟨a1, cap1, rfl, hcap1, hmax1, hnone1, hcell1⟩ := h1.form
  obtain ⟨a2, cap2, rfl, hcap2, hmax2, hnone2, hcell2⟩ := h2.form
  have H1 := Lib.hid hcell1
  have H2 := Lib.hid hcell2
  clear h1 h2 hcell1 hcell2 hnone1 hnone2
  unfold maxLen at hmax1 hmax2
  go_enter Tryd.func15, Tryd.ntmps15
  go_wp2_with fail
  go_loopw [5] (fun i wr => ∃ k : Nat, k ≤ l.length ∧ i = .int .i64 k ∧ ∃ d, wr = w.drewN d) (fun i _ => l.length - (intOf i).toNat)
  case atStart => exact ⟨0, Nat.zero_le _, rfl, 0, rfl⟩
  case round =>
    obtain ⟨k, hk, rfl, d, rfl⟩ := hrel
    by_cases hlt : k < l.length
    · obtain ⟨b1, off1, rfl, hc1⟩ := H1.out (by omega)
      obtain ⟨b2, off2, rfl, hc2⟩ := H2.out (by omega)
      have g1 := hc1 k hlt
      have g2 := hc2 k hlt
      have i1 : (k : Int) < (l.length : Int) := by omega
      have i3 : (0 : Int) ≤ (k : Int) := by omega
      have e1 := str_eq (rfl : bytesS l[k] = bytesS l[k])
      clear hc1 hc2
      generalize l[k] = x at *
      go_wp2_with fail
      go_quiet (fail)
      go_wp2_with fail
      go_roundw
      case rel => exact ⟨k + 1, by omega, by go_num, _, rfl⟩
      case measure => simp [intOf]; try omega
    · obtain rfl : k = l.length := by omega
      go_wp2_with fail
      go_ret
      exact ⟨rfl, ((From.start w).drewN _).below⟩
set_option maxHeartbeats 1000000 in
theorem l_sameTexts_same (w : World) (v1 v2 : Value) (l : List ByteArray) (h1 : StrsAt w v1 l) (h2 : StrsAt w v2 l) :
    Calls Tryd.prog 7 #[v1, v2] w fun e w' => e = .returned (.bool true) ∧ Below w.heap.size w w' := by
  obtain ⟨a1, cap1, rfl, hcap1, hmax1, hnone1, hcell1⟩ := h1.form
  obtain ⟨a2, cap2, rfl, hcap2, hmax2, hnone2, hcell2⟩ := h2.form
  have H1 := Lib.hid hcell1
  have H2 := Lib.hid hcell2
  clear h1 h2 hcell1 hcell2 hnone1 hnone2
  unfold maxLen at hmax1 hmax2
  go_enter Tryd.func7, Tryd.ntmps7
  go_wp2_with fail
  go_loopw [5] (fun i wr => ∃ k : Nat, k ≤ l.length ∧ i = .int .i64 k ∧ ∃ d, wr = w.drewN d) (fun i _ => l.length - (intOf i).toNat)
  case atStart => exact ⟨0, Nat.zero_le _, rfl, 0, rfl⟩
  case round =>
    obtain ⟨k, hk, rfl, d, rfl⟩ := hrel
    by_cases hlt : k < l.length
    · obtain ⟨b1, off1, rfl, hc1⟩ := H1.out (by omega)
      obtain ⟨b2, off2, rfl, hc2⟩ := H2.out (by omega)
      have g1 := hc1 k hlt
      have g2 := hc2 k hlt
      have i1 : (k : Int) < (l.length : Int) := by omega
      have i3 : (0 : Int) ≤ (k : Int) := by omega
      have e1 := str_eq (rfl : bytesS l[k] = bytesS l[k])
      clear hc1 hc2
      generalize l[k] = x at *
      go_wp2_with fail
      go_quiet (fail)
      go_wp2_with fail
      go_roundw
      case rel => exact ⟨k + 1, by omega, by go_num, _, rfl⟩
      case measure => simp [intOf]; try omega
    · obtain rfl : k = l.length := by omega
      go_wp2_with fail
      go_ret
      exact ⟨rfl, ((From.start w).drewN _).below⟩
/-- The digits of a number ahead of others. -/
def digs (n : Nat) (acc : List UInt8) : List UInt8 := if h : n = 0 then acc else digs (n / 10) (UInt8.ofNat (48 + n % 10) :: acc)
termination_by n
decreasing_by omega
/-- The text that marks. -/
def markB (k : Nat) : ByteArray := if k = 0 then ⟨#[109, 48]⟩ else (⟨#[109]⟩ : ByteArray) ++ ⟨(digs k []).toArray⟩
theorem bytesS_app (a b : ByteArray) : bytesS (a ++ b) = bytesS a ++ bytesS b := by
  unfold bytesS
  rw [ByteArray.data_append, Array.toList_append]
set_option maxHeartbeats 1000000 in
theorem markText_any (w : World) (k : Nat) (hk : k ≤ 1073741824) :
    Calls Tryd.prog 43 #[.int .i64 k] w fun e w' => e = .returned (.string (markB k)) ∧ Below w.heap.size w w' := by
  by_cases h0 : k = 0
  · subst h0
    go_enter Tryd.func43, Tryd.ntmps43
    go_wp2_with fail
    go_ret
    exact ⟨rfl, Below.refl _ _⟩
  have hkp : (0 : Int) < (k : Int) := by omega
  have HM : Hid (markB k = (⟨#[109]⟩ : ByteArray) ++ ⟨(digs k []).toArray⟩) := by show _ = _; unfold markB; rw [if_neg h0]
  clear h0
  go_enter Tryd.func43, Tryd.ntmps43
  go_wp2_with fail
  go_loopw [0, 3] (fun nv sv wr => ∃ (n : Nat) (s : ByteArray), nv = .int .i64 n ∧ sv = .string s ∧ n ≤ 1073741824 ∧ s.size + n ≤ 1073741824 ∧ Hid (digs n (bytesS s) = digs k []) ∧ Hid (From w.heap.size w wr)) (fun nv _ _ => (intOf nv).toNat)
  case atStart => exact ⟨k, ⟨#[]⟩, rfl, rfl, hk, by show 0 + k ≤ _; omega, rfl, From.start w⟩
  case round =>
    obtain ⟨n, s, rfl, rfl, hn, hsn, HD, HF⟩ := hrel
    by_cases hn0 : 0 < n
    · have hnp : (0 : Int) < (n : Int) := by omega
      have k1 : IntKind.u8.wrap (48 + (n : Int) % 10) = 48 + (n : Int) % 10 := IntWalk.u8_in _ (by omega)
      have hcc : (((UInt8.ofNat (48 + n % 10)).toNat : Nat) : Int) = 48 + (n : Int) % 10 := by rw [UInt8.toNat_ofNat']; omega
      have HD2 : Hid (digs (n / 10) (UInt8.ofNat (48 + n % 10) :: bytesS s) = digs k []) := by
        show _ = _
        rw [← HD.out]
        conv => rhs; rw [digs]
        rw [dif_neg (by omega)]
      generalize UInt8.ofNat (48 + n % 10) = cc at *
      have hcv : (convert 22 9 (.slice (some ⟨wr.heap.size, 0, none⟩) 1 1)).run Tryd.prog (wr.alloc (.cells #[.int .u8 (48 + (n : Int) % 10)] 5)) = .ok (.string ⟨#[cc]⟩) (wr.alloc (.cells #[.int .u8 (48 + (n : Int) % 10)] 5)) :=
        conv_at _ _ [cc] (by
          have := reads_of_owns (World.ownsRow_lit wr #[Value.int .u8 (48 + (n : Int) % 10)] (e := 5) (size := 1) 1 (Nat.le_refl _) (by decide) rfl)
          show Reads _ 1 _ 1 [Value.int .u8 (cc.toNat : Int)]
          rw [hcc]
          exact this)
      clear hcc
      obtain ⟨s1, hs1, hr1⟩ := str_sum ⟨#[cc]⟩ s (by show 1 + s.size ≤ _; omega)
      have hsz : s1.size = 1 + s.size := by rw [hs1, ByteArray.size_append]; rfl
      have HB1 : Hid (bytesS s1 = cc :: bytesS s) := by show _ = _; rw [hs1, bytesS_app]; rfl
      have hdiv : ((n / 10 : Nat) : Int) = (n : Int) / 10 := by omega
      have HSZ := Lib.hid hsz
      have HF2 := Lib.hid (HF.out.alloc (.cells #[.int .u8 (48 + (n : Int) % 10)] 5))
      clear hs1 hsz HD hdiv
      go_wp2_with fail
      go_roundw
      case rel => exact ⟨n / 10, s1, by go_num, rfl, by omega, by rw [HSZ.out]; omega, by rw [HB1.out]; exact HD2, HF2⟩
      case measure => simp [intOf]; try omega
    · obtain rfl : n = 0 := by omega
      have hnz : ¬ (0 : Int) < ((0 : Nat) : Int) := by omega
      have HE : Hid (s = ⟨(digs k []).toArray⟩) := by
        show _ = _
        rw [← HD.out, digs, dif_pos rfl]
        unfold bytesS
        cases s; simp
      obtain ⟨s1, hs1, hr1⟩ := str_sum ⟨#[109]⟩ s (by show 1 + s.size ≤ _; omega)
      have HS1 : Hid (s1 = markB k) := by show _ = _; rw [hs1, HM.out, HE.out]
      clear hs1
      go_wp2_with fail
      go_ret
      exact ⟨by rw [← HS1.out]; try rfl, HF.out.below⟩
/-- The texts that mark, from a number on. -/
def marksS (k n : Nat) : List ByteArray := (List.range n).map fun i => markB (k + i)
theorem marksS_length (k n : Nat) : (marksS k n).length = n := by simp [marksS]
theorem marksS_get (k n i : Nat) (h : i < n) : (marksS k n)[i]'(by rw [marksS_length]; exact h) = markB (k + i) := by simp [marksS]
theorem marksS_step (k : Nat) (l : List ByteArray) (i : Nat) (h : i < l.length) :
    (svs (marksS k i ++ l.drop i)).set i (.string (markB (k + i))) = svs (marksS k (i + 1) ++ l.drop (i + 1)) := by
  rw [svs_append, List.set_append, if_neg (by rw [svs_length, marksS_length]; omega), svs_length, marksS_length, Nat.sub_self, List.drop_eq_getElem_cons h]
  have : marksS k (i + 1) = marksS k i ++ [markB (k + i)] := by simp [marksS, List.range_succ]
  rw [this, List.append_assoc, svs_append]
  rfl
set_option maxHeartbeats 1000000 in
theorem markStringS_any (w : World) (base : Nat) (v : Value) (l : List ByteArray) (h : OwnS w base v l) (hbase : base ≤ w.heap.size) (k : Nat) (hk : k ≤ 536870912) (hl : l.length ≤ 536870912) :
    Calls Tryd.prog 18 #[v, .int .i64 k] w fun e w' => e = .returned (.int .i64 ((k : Int) + (l.length : Int))) ∧ OwnS w' base v (marksS k l.length) ∧ w.grownBy w' v.ownBlock := by
  rcases Nat.eq_zero_or_pos l.length with h0 | hpos
  · obtain rfl : l = [] := List.eq_nil_of_length_eq_zero h0
    obtain ⟨a, cap, rfl⟩ := owns_form h
    have HO := Lib.hid h
    clear h
    go_enter Tryd.func18, Tryd.ntmps18
    go_wp2_with fail
    go_loop [1, 5] (fun q i => q = .int .i64 k ∧ i = .int .i64 0) (fun _ _ => 0)
    case atStart => exact ⟨rfl, rfl⟩
    case round =>
      obtain ⟨rfl, rfl⟩ := hrel
      go_wp2_with fail
      go_ret
      exact ⟨by simp, HO.out, ⟨rfl, rfl, rfl, Nat.le_refl _, fun _ _ _ => rfl⟩⟩
  · have hform : ∃ g cap, v = .slice (some ⟨g, 0, none⟩) l.length cap ∧ base ≤ g := by
      rcases h.2 with ⟨rfl, h2⟩ | ⟨g, cap, cur, hv, hb, _⟩
      · omega
      · exact ⟨g, cap, hv, hb⟩
    obtain ⟨g, cap, rfl, hg⟩ := hform
    have HO0 : Hid (w.ownsRow base 9 1 (.slice (some ⟨g, 0, none⟩) l.length cap) l.length (svs (marksS k 0 ++ l.drop 0))) := Lib.hid (by simpa [marksS, OwnS] using h)
    clear h
    go_enter Tryd.func18, Tryd.ntmps18
    go_wp2_with fail
    go_loopw [1, 5] (fun q i wr => ∃ j : Nat, j ≤ l.length ∧ i = .int .i64 j ∧ q = .int .i64 ((k : Int) + (j : Int)) ∧
      Hid (wr.ownsRow base 9 1 (.slice (some ⟨g, 0, none⟩) l.length cap) l.length (svs (marksS k j ++ l.drop j))) ∧ Hid (w.grownBy wr (some g))) (fun _ i _ => l.length - (intOf i).toNat)
    case atStart => exact ⟨0, Nat.zero_le _, rfl, by simp, HO0, ⟨rfl, rfl, rfl, Nat.le_refl _, fun _ _ _ => rfl⟩⟩
    case round =>
      obtain ⟨j, hj, rfl, rfl, HO, HG⟩ := hrel
      by_cases hlt : j < l.length
      · have i1 : (j : Int) < (l.length : Int) := by omega
        go_wp2_with fail
        have q1 := markText_any wr (k + j) (by omega)
        rw [show (((k + j : Nat)) : Int) = (k : Int) + (j : Int) by omega] at q1
        refine q1.mono ?_
        rintro e w2 ⟨rfl, h2⟩
        have HO2 := Lib.hid (owns_call HO.out h2)
        have HG2 : Hid (w.grownBy w2 (some g)) := HG.out.trans ⟨h2.os, h2.tape, h2.output, h2.size, fun i hi _ => h2.block i hi⟩
        have hd := HO2.out.cellAt j (by omega)
        have hf := HO2.out.frozenAt j
        have hd' : ∃ u, w2.cell? ⟨g, j, none⟩ = some u := ⟨_, hd.trans (List.getElem?_eq_getElem (by rw [HO2.out.1]; omega))⟩
        obtain ⟨u0, hd'⟩ := hd'
        clear hd q1 h2 HO HG
        go_wp2_with fail
        go_roundw
        case rel =>
          refine ⟨j + 1, by omega, by go_num, by go_num, ?_, HG2.out.trans ⟨rfl, rfl, rfl, by simp [World.setCell], fun i _ hi => Below.heap_setCell w2 _ _ i (fun e => hi (by rw [e]))⟩⟩
          show World.ownsRow _ _ _ _ _ _ _
          rw [← marksS_step k l j hlt]
          exact (HO2.out.stored j _).1
        case measure => simp [intOf]; try omega
      · obtain rfl : j = l.length := by omega
        go_wp2_with fail
        go_ret
        refine ⟨rfl, ?_, HG.out⟩
        have := HO.out
        rw [List.drop_length, List.append_nil] at this
        unfold OwnS
        rw [marksS_length]
        exact this
set_option maxHeartbeats 1000000 in
theorem heldStringS_any (w : World) (v : Value) (k n : Nat) (h : StrsAt w v (marksS k n)) (hk : k ≤ 536870912) (hn : n ≤ 536870912) :
    Calls Tryd.prog 19 #[v, .int .i64 k] w fun e w' => e = .returned (.int .i64 ((k : Int) + (n : Int))) ∧ Below w.heap.size w w' := by
  obtain ⟨a, cap, hv, hcap, hmax, hnone, hcell⟩ := h.form
  rw [marksS_length] at hv hcap
  subst hv
  have HC : Hid (0 < n → ∃ b off, a = some ⟨b, off, none⟩ ∧ ∀ j, j < n → w.cell? ⟨b, off + j, none⟩ = some (.string (markB (k + j)))) := by
    intro hn0
    obtain ⟨b, off, ha, hc⟩ := hcell (by rw [marksS_length]; exact hn0)
    refine ⟨b, off, ha, fun j hj => ?_⟩
    have := hc j (by rw [marksS_length]; exact hj)
    rw [marksS_get k n j hj] at this
    exact this
  clear h hnone hcell
  unfold maxLen at hmax
  go_enter Tryd.func19, Tryd.ntmps19
  go_wp2_with fail
  go_loopw [1, 5] (fun q i wr => ∃ j : Nat, j ≤ n ∧ i = .int .i64 j ∧ q = .int .i64 ((k : Int) + (j : Int)) ∧ Hid (From w.heap.size w wr)) (fun _ i _ => n - (intOf i).toNat)
  case atStart => exact ⟨0, Nat.zero_le _, rfl, by simp, From.start w⟩
  case round =>
    obtain ⟨j, hj, rfl, rfl, HF⟩ := hrel
    by_cases hlt : j < n
    · obtain ⟨b, off, rfl, hc⟩ := HC.out (by omega)
      have hbl : b < w.heap.size := World.block_lt_of_cell? w _ (hc j hlt)
      have g0 := (HF.out.below.cell (p := ⟨b, off + j, none⟩) hbl).trans (hc j hlt)
      have i1 : (j : Int) < (n : Int) := by omega
      have i2 : (0 : Int) ≤ (j : Int) := by omega
      have e1 := str_eq (rfl : bytesS (markB (k + j)) = bytesS (markB (k + j)))
      have r0 : ∀ p : Grew wr, p.w.cell? ⟨b, off + j, none⟩ = some (.string (markB (k + j))) := fun p => p.cell g0
      have K1 : Hid (∀ p : Grew wr, Calls Tryd.prog 43 #[.int .i64 ((k : Int) + (j : Int))] p.w fun e w' => e = .returned (.string (markB (k + j))) ∧ Below p.w.heap.size p.w w') := fun p => by
        have q1 := markText_any p.w (k + j) (by omega)
        rwa [show (((k + j : Nat)) : Int) = (k : Int) + (j : Int) by omega] at q1
      clear hc g0
      generalize markB (k + j) = mb at *
      go_wp2_with fail
      refine wp_region_grew (by kernel_rfl) (by kernel_rfl) ?_
      repeat (go_big_quiet_step ((with_reducible exact grew_call (K1.out _))))
      refine wpQuiet_nil ?_
      rintro _ ⟨p, rfl⟩
      have HF2 := Lib.hid (HF.out.call p.h)
      clear r0 K1 HF
      go_wp2_with fail
      go_roundw
      case rel => exact ⟨j + 1, by omega, by go_num, by go_num, HF2⟩
      case measure => simp [intOf]; try omega
    · obtain rfl : j = n := by omega
      go_wp2_with fail
      go_ret
      exact ⟨rfl, HF.out.below⟩
end Go.Proofs.YtecpdhjangojiaaDoor
