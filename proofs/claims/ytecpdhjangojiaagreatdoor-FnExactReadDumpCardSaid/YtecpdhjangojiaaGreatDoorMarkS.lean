/- Texts that a law copies, compares, measures, writes over (marks). -/
import Derived.Test.YtecpdhjangojiaaGreatDoorBase
import Derived.Test.YtecpdhjangojiaaGreatDoorBytes
import Derived.Test.YtecpdhjangojiaaGreatDoorHex
import Derived.Test.YtecpdhjangojiaaGreatDoorSec
namespace Go.Proofs.YtecpdhjangojiaaGreatDoor
open Go.ChangeShapes Go.WideShapes Go.ChangeAt Go.RowKit Go.Joins
set_option linter.unusedSimpArgs false
set_option linter.unusedVariables false
set_option maxRecDepth 100000
/-- What a function ends in that hands back texts of its own. -/
def RetS (w : World) (l : List ByteArray) (e : Ending) (w' : World) : Prop := ∃ r, e = .returned r ∧ OwnS w' w.heap.size r l ∧ r ≠ .slice none 0 0 ∧ Below w.heap.size w w'
theorem set_fillS (l : List ByteArray) (k : Nat) (hk : k < l.length) :
    (svs (l.take k) ++ List.replicate (l.length - k) (Value.string ⟨#[]⟩)).set k (.string l[k]) = svs (l.take (k + 1)) ++ List.replicate (l.length - (k + 1)) (Value.string ⟨#[]⟩) := by
  have hl : (svs (l.take k)).length = k := by rw [svs_length, List.length_take]; omega
  rw [List.set_append, if_neg (by omega), hl, Nat.sub_self, List.take_succ_eq_append_getElem hk, svs_append, List.append_assoc]
  congr 1
  rw [show l.length - k = (l.length - (k + 1)) + 1 by omega, List.replicate_succ]
  rfl
set_option maxHeartbeats 1000000 in
theorem toStringS_any (w : World) (v : Value) (l : List ByteArray) (h : StrsAt w v l) (hl : l.length ≤ 1073741824) :
    Calls Tryz.prog 13 #[v] w (RetS w l) := by
  obtain ⟨a, cap, rfl, hcap, hmax, hnone, hcell⟩ := h.form
  obtain ⟨i0, hi, hz0, hz1, hz2⟩ := info_parts info_str
  have HH := Lib.hid hcell
  clear h hcell hnone
  go_enter Tryz.func13, Tryz.ntmps13
  go_wp2_with (at_make; refine wpList_make_full _ rfl _ _ 23 rfl w.heap.size 9 i0 (.string ⟨#[]⟩) 1 Tryz.underlying23 hi hz0 hz1 _ _ _ _ l.length rfl rfl rfl rfl ?c1 ?c2 ?c3 ?_)
  case c1 => rw [hz2]; omega
  case c2 => unfold maxLen; omega
  case c3 => exact Nat.le_refl _
  intro w1 hown hgr
  have F1 := (From.start w).grown hgr (fun k h => by cases h)
  clear hgr
  go_wp2_with fail
  go_loopw [4] (fun i wr => ∃ k : Nat, k ≤ l.length ∧ i = .int .i64 k ∧
      wr.ownsRow w.heap.size 9 1 (.slice (some ⟨w.heap.size, 0, none⟩) l.length l.length) l.length (svs (l.take k) ++ List.replicate (l.length - k) (Value.string ⟨#[]⟩)) ∧ From w.heap.size w wr) (fun i _ => l.length - (intOf i).toNat)
  case atStart => exact ⟨0, Nat.zero_le _, rfl, by simpa [toList_madeCells_one, svs] using hown, F1⟩
  case round =>
    obtain ⟨k, hk, rfl, hown, F⟩ := hrel
    by_cases hlt : k < l.length
    · obtain ⟨b, off, rfl, hc⟩ := HH.out (by omega)
      have hsrc := hc k hlt
      have hb : b < w.heap.size := World.block_lt_of_cell? w _ hsrc
      have hsrc' : wr.cell? ⟨b, off + k, none⟩ = some (.string l[k]) := by rw [F.below.cell (p := ⟨b, off + k, none⟩) hb]; exact hsrc
      have hd := hown.cellAt k (by omega)
      have hf := hown.frozenAt k
      have hd' : ∃ u, wr.cell? ⟨w.heap.size, k, none⟩ = some u := ⟨_, hd.trans (List.getElem?_eq_getElem (by rw [hown.1]; omega))⟩
      obtain ⟨u0, hd'⟩ := hd'
      have HO := Lib.hid hown
      have HF := Lib.hid F
      clear hsrc hc hd hown F
      go_wp2_with fail
      go_roundw
      case rel =>
        refine ⟨k + 1, by omega, by go_num, ?_, HF.out.setCell (Nat.le_refl _) _⟩
        rw [← set_fillS l k hlt]
        exact (HO.out.stored k _).1
      case measure => simp [intOf]; omega
    · obtain rfl : k = l.length := by omega
      go_wp2_with fail
      go_ret
      refine ⟨_, rfl, ?_, (fun e => by cases e), F.below⟩
      simpa [OwnS] using hown
set_option maxHeartbeats 1000000 in
theorem l_eqStringS_same (w : World) (v1 v2 : Value) (l : List ByteArray) (h1 : StrsAt w v1 l) (h2 : StrsAt w v2 l) :
    Calls Tryz.prog 15 #[v1, v2] w fun e w' => e = .returned (.bool true) ∧ Below w.heap.size w w' := by
  obtain ⟨a1, cap1, rfl, hcap1, hmax1, hnone1, hcell1⟩ := h1.form
  obtain ⟨a2, cap2, rfl, hcap2, hmax2, hnone2, hcell2⟩ := h2.form
  have H1 := Lib.hid hcell1
  have H2 := Lib.hid hcell2
  clear h1 h2 hcell1 hcell2 hnone1 hnone2
  unfold maxLen at hmax1 hmax2
  go_enter Tryz.func15, Tryz.ntmps15
  go_wp2_with fail
  go_loopw [5] (fun i wr => ∃ k : Nat, k ≤ l.length ∧ i = .int .i64 k ∧ ∃ d, wr = w.drewN d) (fun i _ => l.length - (intOf i).toNat)
  case atStart => exact ⟨0, Nat.zero_le _, rfl, 0, rfl⟩
  case round =>
    obtain ⟨k, hk, rfl, d, rfl⟩ := hrel
    by_cases hlt : k < l.length
    · obtain ⟨b1, off1, rfl, hc1⟩ := H1.out (by omega)
      obtain ⟨b2, off2, rfl, hc2⟩ := H2.out (by omega)
      have g1 := hc1 k hlt
      have g2 := hc2 k hlt
      have i1 : (k : Int) < (l.length : Int) := by omega
      have i3 : (0 : Int) ≤ (k : Int) := by omega
      have e1 := str_eq (rfl : bytesS l[k] = bytesS l[k])
      clear hc1 hc2
      generalize l[k] = x at *
      go_wp2_with fail
      go_quiet (fail)
      go_wp2_with fail
      go_roundw
      case rel => exact ⟨k + 1, by omega, by go_num, _, rfl⟩
      case measure => simp [intOf]; try omega
    · obtain rfl : k = l.length := by omega
      go_wp2_with fail
      go_ret
      exact ⟨rfl, ((From.start w).drewN _).below⟩
set_option maxHeartbeats 1000000 in
theorem l_sameTexts_same (w : World) (v1 v2 : Value) (l : List ByteArray) (h1 : StrsAt w v1 l) (h2 : StrsAt w v2 l) :
    Calls Tryz.prog 10 #[v1, v2] w fun e w' => e = .returned (.bool true) ∧ Below w.heap.size w w' := by
  obtain ⟨a1, cap1, rfl, hcap1, hmax1, hnone1, hcell1⟩ := h1.form
  obtain ⟨a2, cap2, rfl, hcap2, hmax2, hnone2, hcell2⟩ := h2.form
  have H1 := Lib.hid hcell1
  have H2 := Lib.hid hcell2
  clear h1 h2 hcell1 hcell2 hnone1 hnone2
  unfold maxLen at hmax1 hmax2
  go_enter Tryz.func10, Tryz.ntmps10
  go_wp2_with fail
  go_loopw [5] (fun i wr => ∃ k : Nat, k ≤ l.length ∧ i = .int .i64 k ∧ ∃ d, wr = w.drewN d) (fun i _ => l.length - (intOf i).toNat)
  case atStart => exact ⟨0, Nat.zero_le _, rfl, 0, rfl⟩
  case round =>
    obtain ⟨k, hk, rfl, d, rfl⟩ := hrel
    by_cases hlt : k < l.length
    · obtain ⟨b1, off1, rfl, hc1⟩ := H1.out (by omega)
      obtain ⟨b2, off2, rfl, hc2⟩ := H2.out (by omega)
      have g1 := hc1 k hlt
      have g2 := hc2 k hlt
      have i1 : (k : Int) < (l.length : Int) := by omega
      have i3 : (0 : Int) ≤ (k : Int) := by omega
      have e1 := str_eq (rfl : bytesS l[k] = bytesS l[k])
      clear hc1 hc2
      generalize l[k] = x at *
      go_wp2_with fail
      go_quiet (fail)
      go_wp2_with fail
      go_roundw
      case rel => exact ⟨k + 1, by omega, by go_num, _, rfl⟩
      case measure => simp [intOf]; try omega
    · obtain rfl : k = l.length := by omega
      go_wp2_with fail
      go_ret
      exact ⟨rfl, ((From.start w).drewN _).below⟩
def szV (left n : Int) : Int := if n ≤ left then left - n else -1
def strsCost : List ByteArray → Int
  | [] => 0
  | s :: r => (s.size : Int) + strsCost r
theorem strsCost_nonneg : ∀ l, 0 ≤ strsCost l
  | [] => Int.le_refl _
  | s :: r => by have := strsCost_nonneg r; unfold strsCost; omega
theorem szS_plus {left a b : Int} (ha : 0 ≤ a) (hb : 0 ≤ b) (h : a ≤ left) : szV left (a + b) = szV (left - a) b := by
  unfold szV
  by_cases h1 : a + b ≤ left
  · rw [if_pos h1, if_pos (by omega)]; omega
  · rw [if_neg h1, if_neg (by omega)]
theorem szS_over {left a b : Int} (hb : 0 ≤ b) (h : ¬ a ≤ left) : szV left (a + b) = -1 := by
  unfold szV
  rw [if_neg (by omega)]
set_option maxHeartbeats 1000000 in
theorem szStringS_any (w : World) (v : Value) (l : List ByteArray) (h : StrsAt w v l) (hs : ∀ s ∈ l, s.size ≤ maxLen) (left : Int) (h0 : 0 ≤ left) (h1 : left ≤ 1048576) :
    Calls Tryz.prog 12 #[v, .int .i64 left] w fun e w' => e = .returned (.int .i64 (szV left ((l.length : Int) + strsCost l))) ∧ Below w.heap.size w w' := by
  obtain ⟨a, cap, rfl, hcap, hmax, hnone, hcell⟩ := h.form
  have HC := Lib.hid hcell
  have HS := Lib.hid hs
  clear h hcell hnone hs
  unfold maxLen at hmax
  by_cases q1 : (l.length : Int) ≤ left
  case neg =>
    have q2 : left < (l.length : Int) := by omega
    have E : Hid (szV left ((l.length : Int) + strsCost l) = -1) := szS_over (strsCost_nonneg l) q1
    clear q1
    go_enter Tryz.func12, Tryz.ntmps12
    go_wp2_with fail
    go_ret
    exact ⟨by rw [E.out]; try rfl, (From.start w).below⟩
  have E0 : Hid (szV left ((l.length : Int) + strsCost l) = szV (left - (l.length : Int)) (strsCost (l.drop 0))) := by show _ = _; rw [szS_plus (by omega) (strsCost_nonneg l) q1]; rfl
  go_enter Tryz.func12, Tryz.ntmps12
  go_wp2_with fail
  go_loop [1, 5] (fun lv i => ∃ (k : Nat) (L : Int), k ≤ l.length ∧ i = .int .i64 k ∧ lv = .int .i64 L ∧ 0 ≤ L ∧ L ≤ 1048576 ∧ Hid (szV left ((l.length : Int) + strsCost l) = szV L (strsCost (l.drop k)))) (fun _ i => l.length - (intOf i).toNat)
  case atStart => exact ⟨0, left - (l.length : Int), Nat.zero_le _, rfl, rfl, by omega, by omega, E0⟩
  case round =>
    clear E0 q1 h0 h1
    obtain ⟨k, L, hk, rfl, rfl, hL0, hL1, HE⟩ := hrel
    by_cases hlt : k < l.length
    · obtain ⟨b, off, rfl, hc⟩ := HC.out (by omega)
      have c0 := hc k hlt
      have i1 : (k : Int) < (l.length : Int) := by omega
      have HT : Hid (strsCost (l.drop k) = (l[k].size : Int) + strsCost (l.drop (k + 1))) := by show _ = _; rw [List.drop_eq_getElem_cons hlt]; rfl
      have hN := HS.out l[k] (List.getElem_mem hlt)
      unfold maxLen at hN
      clear hc
      generalize l[k] = x at *
      by_cases q1 : (x.size : Int) ≤ L
      · have HE2 : Hid (szV left ((l.length : Int) + strsCost l) = szV (L - (x.size : Int)) (strsCost (l.drop (k + 1)))) := by show _ = _; rw [HE.out, HT.out, szS_plus (by omega) (strsCost_nonneg _) q1]
        clear HE HT
        go_wp2_with fail
        go_round
        case rel => exact ⟨k + 1, L - (x.size : Int), by omega, by go_num, rfl, by omega, by omega, HE2⟩
        case measure => simp [intOf]; try omega
      · have q2 : L < (x.size : Int) := by omega
        have HE2 : Hid (szV left ((l.length : Int) + strsCost l) = -1) := by show _ = _; rw [HE.out, HT.out, szS_over (strsCost_nonneg _) q1]
        clear q1 HE HT
        go_wp2_with fail
        go_ret
        exact ⟨by rw [HE2.out]; try rfl, Below.refl _ _⟩
    · obtain rfl : k = l.length := by omega
      have E2 : Hid (szV left ((l.length : Int) + strsCost l) = L) := by
        show _ = _; rw [HE.out, List.drop_length]; unfold szV strsCost; rw [if_pos hL0]; omega
      go_wp2_with fail
      go_ret
      exact ⟨by rw [E2.out]; try rfl, Below.refl _ _⟩
/-- The digits of a number ahead of others. -/
def digs (n : Nat) (acc : List UInt8) : List UInt8 := if h : n = 0 then acc else digs (n / 10) (UInt8.ofNat (48 + n % 10) :: acc)
termination_by n
decreasing_by omega
/-- The text that marks. -/
def markB (k : Nat) : ByteArray := if k = 0 then ⟨#[109, 48]⟩ else (⟨#[109]⟩ : ByteArray) ++ ⟨(digs k []).toArray⟩
theorem bytesS_app (a b : ByteArray) : bytesS (a ++ b) = bytesS a ++ bytesS b := by
  unfold bytesS
  rw [ByteArray.data_append, Array.toList_append]
set_option maxHeartbeats 1000000 in
theorem markText_any (w : World) (k : Nat) (hk : k ≤ 1073741824) :
    Calls Tryz.prog 39 #[.int .i64 k] w fun e w' => e = .returned (.string (markB k)) ∧ Below w.heap.size w w' := by
  by_cases h0 : k = 0
  · subst h0
    go_enter Tryz.func39, Tryz.ntmps39
    go_wp2_with fail
    go_ret
    exact ⟨rfl, Below.refl _ _⟩
  have hkp : (0 : Int) < (k : Int) := by omega
  have HM : Hid (markB k = (⟨#[109]⟩ : ByteArray) ++ ⟨(digs k []).toArray⟩) := by show _ = _; unfold markB; rw [if_neg h0]
  clear h0
  go_enter Tryz.func39, Tryz.ntmps39
  go_wp2_with fail
  go_loopw [0, 3] (fun nv sv wr => ∃ (n : Nat) (s : ByteArray), nv = .int .i64 n ∧ sv = .string s ∧ n ≤ 1073741824 ∧ s.size + n ≤ 1073741824 ∧ Hid (digs n (bytesS s) = digs k []) ∧ Hid (From w.heap.size w wr)) (fun nv _ _ => (intOf nv).toNat)
  case atStart => exact ⟨k, ⟨#[]⟩, rfl, rfl, hk, by show 0 + k ≤ _; omega, rfl, From.start w⟩
  case round =>
    obtain ⟨n, s, rfl, rfl, hn, hsn, HD, HF⟩ := hrel
    by_cases hn0 : 0 < n
    · have hnp : (0 : Int) < (n : Int) := by omega
      have k1 : IntKind.u8.wrap (48 + (n : Int) % 10) = 48 + (n : Int) % 10 := IntWalk.u8_in _ (by omega)
      have hcc : (((UInt8.ofNat (48 + n % 10)).toNat : Nat) : Int) = 48 + (n : Int) % 10 := by rw [UInt8.toNat_ofNat']; omega
      have HD2 : Hid (digs (n / 10) (UInt8.ofNat (48 + n % 10) :: bytesS s) = digs k []) := by
        show _ = _
        rw [← HD.out]
        conv => rhs; rw [digs]
        rw [dif_neg (by omega)]
      generalize UInt8.ofNat (48 + n % 10) = cc at *
      have hcv : (convert 22 9 (.slice (some ⟨wr.heap.size, 0, none⟩) 1 1)).run Tryz.prog (wr.alloc (.cells #[.int .u8 (48 + (n : Int) % 10)] 5)) = .ok (.string ⟨#[cc]⟩) (wr.alloc (.cells #[.int .u8 (48 + (n : Int) % 10)] 5)) :=
        conv_at _ _ [cc] (by
          have := reads_of_owns (World.ownsRow_lit wr #[Value.int .u8 (48 + (n : Int) % 10)] (e := 5) (size := 1) 1 (Nat.le_refl _) (by decide) rfl)
          show Reads _ 1 _ 1 [Value.int .u8 (cc.toNat : Int)]
          rw [hcc]
          exact this)
      clear hcc
      obtain ⟨s1, hs1, hr1⟩ := str_sum ⟨#[cc]⟩ s (by show 1 + s.size ≤ _; omega)
      have hsz : s1.size = 1 + s.size := by rw [hs1, ByteArray.size_append]; rfl
      have HB1 : Hid (bytesS s1 = cc :: bytesS s) := by show _ = _; rw [hs1, bytesS_app]; rfl
      have hdiv : ((n / 10 : Nat) : Int) = (n : Int) / 10 := by omega
      have HSZ := Lib.hid hsz
      have HF2 := Lib.hid (HF.out.alloc (.cells #[.int .u8 (48 + (n : Int) % 10)] 5))
      clear hs1 hsz HD hdiv
      go_wp2_with fail
      go_roundw
      case rel => exact ⟨n / 10, s1, by go_num, rfl, by omega, by rw [HSZ.out]; omega, by rw [HB1.out]; exact HD2, HF2⟩
      case measure => simp [intOf]; try omega
    · obtain rfl : n = 0 := by omega
      have hnz : ¬ (0 : Int) < ((0 : Nat) : Int) := by omega
      have HE : Hid (s = ⟨(digs k []).toArray⟩) := by
        show _ = _
        rw [← HD.out, digs, dif_pos rfl]
        unfold bytesS
        cases s; simp
      obtain ⟨s1, hs1, hr1⟩ := str_sum ⟨#[109]⟩ s (by show 1 + s.size ≤ _; omega)
      have HS1 : Hid (s1 = markB k) := by show _ = _; rw [hs1, HM.out, HE.out]
      clear hs1
      go_wp2_with fail
      go_ret
      exact ⟨by rw [← HS1.out]; try rfl, HF.out.below⟩
/-- The texts that mark, from a number on. -/
def marksS (k n : Nat) : List ByteArray := (List.range n).map fun i => markB (k + i)
theorem marksS_length (k n : Nat) : (marksS k n).length = n := by simp [marksS]
theorem marksS_get (k n i : Nat) (h : i < n) : (marksS k n)[i]'(by rw [marksS_length]; exact h) = markB (k + i) := by simp [marksS]
theorem marksS_step (k : Nat) (l : List ByteArray) (i : Nat) (h : i < l.length) :
    (svs (marksS k i ++ l.drop i)).set i (.string (markB (k + i))) = svs (marksS k (i + 1) ++ l.drop (i + 1)) := by
  rw [svs_append, List.set_append, if_neg (by rw [svs_length, marksS_length]; omega), svs_length, marksS_length, Nat.sub_self, List.drop_eq_getElem_cons h]
  have : marksS k (i + 1) = marksS k i ++ [markB (k + i)] := by simp [marksS, List.range_succ]
  rw [this, List.append_assoc, svs_append]
  rfl
set_option maxHeartbeats 1000000 in
theorem markStringS_any (w : World) (base : Nat) (v : Value) (l : List ByteArray) (h : OwnS w base v l) (hbase : base ≤ w.heap.size) (k : Nat) (hk : k ≤ 536870912) (hl : l.length ≤ 536870912) :
    Calls Tryz.prog 16 #[v, .int .i64 k] w fun e w' => e = .returned (.int .i64 ((k : Int) + (l.length : Int))) ∧ OwnS w' base v (marksS k l.length) ∧ w.grownBy w' v.ownBlock := by
  rcases Nat.eq_zero_or_pos l.length with h0 | hpos
  · obtain rfl : l = [] := List.eq_nil_of_length_eq_zero h0
    obtain ⟨a, cap, rfl⟩ := owns_form h
    have HO := Lib.hid h
    clear h
    go_enter Tryz.func16, Tryz.ntmps16
    go_wp2_with fail
    go_loop [1, 5] (fun q i => q = .int .i64 k ∧ i = .int .i64 0) (fun _ _ => 0)
    case atStart => exact ⟨rfl, rfl⟩
    case round =>
      obtain ⟨rfl, rfl⟩ := hrel
      go_wp2_with fail
      go_ret
      exact ⟨by simp, HO.out, ⟨rfl, rfl, rfl, Nat.le_refl _, fun _ _ _ => rfl⟩⟩
  · have hform : ∃ g cap, v = .slice (some ⟨g, 0, none⟩) l.length cap ∧ base ≤ g := by
      rcases h.2 with ⟨rfl, h2⟩ | ⟨g, cap, cur, hv, hb, _⟩
      · omega
      · exact ⟨g, cap, hv, hb⟩
    obtain ⟨g, cap, rfl, hg⟩ := hform
    have HO0 : Hid (w.ownsRow base 9 1 (.slice (some ⟨g, 0, none⟩) l.length cap) l.length (svs (marksS k 0 ++ l.drop 0))) := Lib.hid (by simpa [marksS, OwnS] using h)
    clear h
    go_enter Tryz.func16, Tryz.ntmps16
    go_wp2_with fail
    go_loopw [1, 5] (fun q i wr => ∃ j : Nat, j ≤ l.length ∧ i = .int .i64 j ∧ q = .int .i64 ((k : Int) + (j : Int)) ∧
      Hid (wr.ownsRow base 9 1 (.slice (some ⟨g, 0, none⟩) l.length cap) l.length (svs (marksS k j ++ l.drop j))) ∧ Hid (w.grownBy wr (some g))) (fun _ i _ => l.length - (intOf i).toNat)
    case atStart => exact ⟨0, Nat.zero_le _, rfl, by simp, HO0, ⟨rfl, rfl, rfl, Nat.le_refl _, fun _ _ _ => rfl⟩⟩
    case round =>
      obtain ⟨j, hj, rfl, rfl, HO, HG⟩ := hrel
      by_cases hlt : j < l.length
      · have i1 : (j : Int) < (l.length : Int) := by omega
        go_wp2_with fail
        have q1 := markText_any wr (k + j) (by omega)
        rw [show (((k + j : Nat)) : Int) = (k : Int) + (j : Int) by omega] at q1
        refine q1.mono ?_
        rintro e w2 ⟨rfl, h2⟩
        have HO2 := Lib.hid (owns_call HO.out h2)
        have HG2 : Hid (w.grownBy w2 (some g)) := HG.out.trans ⟨h2.os, h2.tape, h2.output, h2.size, fun i hi _ => h2.block i hi⟩
        have hd := HO2.out.cellAt j (by omega)
        have hf := HO2.out.frozenAt j
        have hd' : ∃ u, w2.cell? ⟨g, j, none⟩ = some u := ⟨_, hd.trans (List.getElem?_eq_getElem (by rw [HO2.out.1]; omega))⟩
        obtain ⟨u0, hd'⟩ := hd'
        clear hd q1 h2 HO HG
        go_wp2_with fail
        go_roundw
        case rel =>
          refine ⟨j + 1, by omega, by go_num, by go_num, ?_, HG2.out.trans ⟨rfl, rfl, rfl, by simp [World.setCell], fun i _ hi => Below.heap_setCell w2 _ _ i (fun e => hi (by rw [e]))⟩⟩
          show World.ownsRow _ _ _ _ _ _ _
          rw [← marksS_step k l j hlt]
          exact (HO2.out.stored j _).1
        case measure => simp [intOf]; try omega
      · obtain rfl : j = l.length := by omega
        go_wp2_with fail
        go_ret
        refine ⟨rfl, ?_, HG.out⟩
        have := HO.out
        rw [List.drop_length, List.append_nil] at this
        unfold OwnS
        rw [marksS_length]
        exact this
end Go.Proofs.YtecpdhjangojiaaGreatDoor
