/- Tables of names: the reference's way. -/
import Derived.Test.YtkefbhidfbnipaaIns
import Derived.Test.YtkefbhidfbnipaaStr
import Derived.Test.YtkefbhidfbnipaaBase
import Derived.Test.YtkefbhidfbnipaaBytes
import Derived.Lib.ConvBytes
namespace Go.Proofs.Ytkefbhidfbnipaa
open Go.ChangeShapes Go.WideShapes Go.ChangeAt Go.RowKit Go.Joins
set_option linter.unusedSimpArgs false
set_option linter.unusedVariables false
set_option maxRecDepth 100000
/-- Whether texts are names, and few. -/
def namesB (l : List ByteArray) : Bool := decide (l.length ≤ 40) && l.all nameB
/-- The table of texts. -/
def tableL (l : List ByteArray) : List UInt8 := if namesB l then tabOf (sortS (l.map bytesS)) else []
/-- []byte(s). -/
theorem conv_str (w : World) (s : ByteArray) (hs : s.size ≤ maxLen) : ∃ c w', (convert 9 22 (.string s)).run Try.prog w = .ok (.slice (some ⟨w.heap.size, 0, none⟩) s.size c) w' ∧
    BytesAt w' (.slice (some ⟨w.heap.size, 0, none⟩) s.size c) (bytesS s) ∧ Below w.heap.size w w' := by
  refine ⟨_, _, Lib.run_convert_string_bytes w 9 22 5 s Try.underlying9 Try.underlying22 Try.underlying5, ?_, ⟨rfl, rfl, rfl, by rw [Lib.bytesWorld_size]; omega, fun k hk => Lib.bytesWorld_at_old w _ s k hk⟩⟩
  have hl : (bytesS s).length = s.size := by unfold bytesS; rw [Array.length_toList]; rfl
  have := BytesAt.mk (w := Lib.bytesWorld w 5 s) (b := w.heap.size) (off := 0) (cap := grownCap w s.size 0 5) (l := bytesS s) (by rw [hl]; exact grownCap_ge _ _ _ _) (grownCap_le_maxLen _ _ _ _ hs) (fun j hj => by
    rw [Nat.zero_add, Lib.bytesWorld_cell w _ s j (by rw [← hl]; exact hj)]
    congr 3
    unfold bytesS at hj ⊢
    have hj' : j < s.data.size := by simpa using hj
    rw [List.getD, Array.getElem?_toList, Array.getElem?_eq_getElem hj', Option.getD_some, Array.getElem_toList])
  rwa [hl] at this
theorem tabBody_snoc (all l : List (List UInt8)) (s : List UInt8) : tabBody all (l ++ [s]) = tabBody all l ++ (if endB all s then [] else s ++ [0]) := by
  rw [tabBody_append]; simp [tabBody]
/-- What a function ends in that hands back bytes of its own. -/
def RetBytes (w : World) (l : List UInt8) (e : Ending) (w' : World) : Prop := ∃ r, e = .returned r ∧ OwnB w' w.heap.size r l ∧ Below w.heap.size w w'
set_option maxHeartbeats 2000000 in
theorem s_NameTable (w : World) (v : Value) (l : List ByteArray) (h : StrsAt w v l) (hs : ∀ s ∈ l, s.size ≤ maxLen) (hl : l.length ≤ 1048576) :
    Calls Try.prog 27 #[v] w (RetBytes w (tableL l)) := by
  obtain ⟨i0, hi, hz0, hz1, hz2⟩ := info_parts info_u8
  obtain ⟨a, cap, rfl, hcap, hmax, hnone, hcell⟩ := h.form
  have HC := Lib.hid hcell
  have HN := Lib.hid hs
  clear h hnone hcell hs
  unfold maxLen at hmax
  go_enter Try.func27, Try.ntmps27
  go_wp2_with fail
  go_loopw [3, 4] (fun sv i wr => ∃ k : Nat, k ≤ l.length ∧ i = .int .i64 k ∧ Hid (∀ s ∈ l.take k, nameB s = true) ∧ Hid (0 < k → l.length ≤ 40) ∧ Hid (OwnS wr w.heap.size sv (sortB (l.take k))) ∧ Hid (From w.heap.size w wr)) (fun _ i _ => l.length - (intOf i).toNat)
  case atStart => exact ⟨0, Nat.zero_le _, rfl, (fun s hs => by simp at hs), (fun h => by omega), World.ownsRow_lit w #[] 0 (Nat.le_refl _) (Nat.zero_le _) rfl, (From.start w).alloc _⟩
  case round =>
    obtain ⟨k, hk, rfl, HV, HL, HO, HF⟩ := hrel
    by_cases hlt : k < l.length
    · obtain ⟨b, off, rfl, hc⟩ := HC.out (by omega)
      have c0 := hc k hlt
      have hbl : b < w.heap.size := World.block_lt_of_cell? w _ c0
      have g0 := (HF.out.below.cell (p := ⟨b, off + k, none⟩) hbl).trans c0
      have i1 : (k : Int) < (l.length : Int) := by omega
      have HNk := Lib.hid (HN.out l[k] (List.getElem_mem hlt))
      have HG := Lib.hid (take_good (p := fun s => nameB s = true) hlt HV.out)
      have HBad : Hid (nameB l[k] = false → tableL l = []) := fun h => by
        unfold tableL namesB
        rw [if_neg]
        intro h2
        rw [Bool.and_eq_true, List.all_eq_true] at h2
        rw [h2.2 _ (List.getElem_mem hlt)] at h; cases h
      have HT : Hid (sortB (l.take (k + 1)) = insB l[k] (sortB (l.take k))) := by show _ = _; rw [List.take_succ_eq_append_getElem hlt, sortB_snoc]
      have hsl : (sortB (l.take k)).length ≤ 1048576 := by have := sortB_length (l.take k); rw [List.length_take] at this; omega
      clear hc c0
      generalize l[k] = x at *
      cases hq : nameB x
      · have E := Lib.hid (HBad.out hq)
        clear HG HBad
        go_wp2_with (first | (go_at_call 59; (with_reducible refine (s_NameValid _ HNk.out _).mono ?_); rintro e w' ⟨rfl, rfl⟩))
        go_ret
        refine ⟨_, rfl, ?_, (HF.out.alloc _).below⟩
        rw [E.out]
        exact World.ownsRow_lit wr #[] 0 HF.out.le (Nat.zero_le _) rfl
      have HG2 := Lib.hid (HG.out hq)
      clear HG HBad
      by_cases h40 : l.length ≤ 40
      · have e40 : ¬ (40 : Int) < (l.length : Int) := by omega
        have H40 : Hid (0 < k + 1 → l.length ≤ 40) := fun _ => h40
        clear h40
        go_wp2_with (first | (go_at_call 59; (with_reducible refine (s_NameValid _ HNk.out _).mono ?_); rintro e w' ⟨rfl, rfl⟩))
        refine (l2Insert_any wr w.heap.size HF.out.le _ _ HO.out hsl x).mono ?_
        rintro e w2 ⟨r, rfl, o2, h2⟩
        obtain ⟨ra, rc, rfl⟩ := owns_form o2
        have HO2 : Hid (OwnS w2 w.heap.size (.slice ra (insB x (sortB (l.take k))).length rc) (sortB (l.take (k + 1)))) := by show OwnS _ _ _ _; rw [HT.out]; exact o2
        have HF2 := Lib.hid (HF.out.call h2)
        clear o2 h2 HO HF g0 hq
        go_wp2_with fail
        go_roundw
        case rel => exact ⟨k + 1, by omega, by go_num, HG2, H40, HO2, HF2⟩
        case measure => simp [intOf]; try omega
      · have e40 : (40 : Int) < (l.length : Int) := by omega
        have E : Hid (tableL l = []) := by show _ = _; unfold tableL namesB; rw [if_neg (by simp [h40])]
        clear h40
        go_wp2_with (first | (go_at_call 59; (with_reducible refine (s_NameValid _ HNk.out _).mono ?_); rintro e w' ⟨rfl, rfl⟩))
        go_ret
        refine ⟨_, rfl, ?_, (HF.out.alloc _).below⟩
        rw [E.out]
        exact World.ownsRow_lit wr #[] 0 HF.out.le (Nat.zero_le _) rfl
    · have HK : Hid (k = l.length) := (by omega : k = l.length)
      have i1 : ¬ (k : Int) < (l.length : Int) := by omega
      have HE : Hid (tableL l = tabOf ((sortB l).map bytesS)) := by
        show _ = _
        have h1 := HV.out
        have h2 := HL.out
        rw [HK.out, List.take_length] at h1
        rw [HK.out] at h2
        unfold tableL namesB
        rw [if_pos, sortB_map]
        rw [Bool.and_eq_true, List.all_eq_true, decide_eq_true_eq]
        exact ⟨by rcases Nat.eq_zero_or_pos l.length with h | h
                  · omega
                  · exact h2 h, h1⟩
      have HO1 : Hid (OwnS wr w.heap.size u3 (sortB l)) := by have := HO.out; rwa [HK.out, List.take_length] at this
      have HSz : Hid (∀ s ∈ sortB l, s.size ≤ 8) := fun s hs => by
        have h1 := HV.out
        rw [HK.out, List.take_length] at h1
        exact (nameB_size (h1 s (mem_sortB l s hs))).2
      have HLn : Hid ((sortB l).length ≤ 40) := by
        have h2 := HL.out
        rw [HK.out] at h2
        have := sortB_length l
        show _ ≤ _
        rcases Nat.eq_zero_or_pos l.length with h | h
        · omega
        · have := h2 h; omega
      clear HV HL HO hlt hk
      have HAS : Hid (Asc ((sortB l).map bytesS)) := by show Asc _; rw [sortB_map]; exact sortS_asc _
      obtain ⟨L, hL⟩ : ∃ L, sortB l = L := ⟨_, rfl⟩
      rw [hL] at HE HO1 HSz HLn HAS
      clear hL HC HN
      have hAsc : Hid (Asc (L.map bytesS)) := HAS
      have hLl := HLn.out
      generalize wr = wA at *
      obtain ⟨sa, sc, rfl, hsc, hsm, hsn, hsl⟩ := HO1.out.reads.form
      have HSL := Lib.hid hsl
      clear hsl hsn
      unfold maxLen at hsm
      go_wp2_with fail
      go_loopw [5, 6] (fun ov i wr => ∃ q : Nat, q ≤ L.length ∧ i = .int .i64 q ∧ Hid (OwnB wr wA.heap.size ov (0 :: tabBody (L.map bytesS) ((L.map bytesS).take q))) ∧ Hid (From wA.heap.size wA wr)) (fun _ i _ => L.length - (intOf i).toNat)
      case atStart => exact ⟨0, Nat.zero_le _, rfl, World.ownsRow_lit wA #[Value.int .u8 0] 1 (Nat.le_refl _) (by decide) rfl, (From.start wA).alloc _⟩
      case round =>
        obtain ⟨q, hq, rfl, HO, HG⟩ := hrel
        generalize wr = wB at *
        by_cases hqt : q < L.length
        · have j1 : (q : Int) < (L.length : Int) := by omega
          have j0 : (0 : Int) ≤ (q : Int) := by omega
          obtain ⟨b, off, rfl, hc⟩ := HSL.out (by omega)
          have HB : Hid (∀ (wx : World), From wA.heap.size wA wx → ∀ j (hj : j < L.length), wx.cell? ⟨b, off + j, none⟩ = some (.string L[j])) := fun wx hx j hj => by
            have c := hc j hj
            have hbl : b < wA.heap.size := World.block_lt_of_cell? wA _ c
            exact (hx.below.cell (p := ⟨b, off + j, none⟩) hbl).trans c
          clear hc HSL
          go_wp2_with fail
          go_loopw [7, 8] (fun ev i wr => ∃ (j : Nat) (c : Bool), j ≤ L.length ∧ i = .int .i64 j ∧ ev = .bool c ∧ Hid (c = endUp (L.map bytesS) q j) ∧ Hid (From wB.heap.size wB wr)) (fun _ i _ => L.length - (intOf i).toNat)
          case atStart => exact ⟨0, false, Nat.zero_le _, rfl, rfl, rfl, From.start wB⟩
          case round =>
            obtain ⟨j, c, hj, rfl, rfl, HE2, HY⟩ := hrel
            have HGY := Lib.hid (HG.out.call HY.out.below)
            by_cases hjt : j < L.length
            · have cj := HB.out wr HGY.out j hjt
              have cq := HB.out wr HGY.out q hqt
              have k1 : (j : Int) < (L.length : Int) := by omega
              have k0 : (0 : Int) ≤ (j : Int) := by omega
              have HU : Hid (endUp (L.map bytesS) q (j + 1) = (endUp (L.map bytesS) q j || (decide (j ≠ q) && endsB L[j] L[q]))) := by
                show _ = _
                rw [endUp_succ]
                simp [endsB, List.getD, hjt, hqt]
              have s1 := HSz.out L[j] (List.getElem_mem hjt)
              have s2 := HSz.out L[q] (List.getElem_mem hqt)
              have HC2 : ∀ u : World, Calls Try.prog 61 #[.string L[j], .string L[q]] u fun e w' => e = .returned (.bool (endsB L[j] L[q])) ∧ u = w' := fun u => l2Ends_any _ _ (by omega) (by omega) u
              have HC3 := Lib.hid HC2
              clear s1 s2 HC2
              generalize L[j] = x at *
              generalize L[q] = y at *
              generalize endsB x y = en at *
              cases c
              · by_cases hne : j = q
                · have e1 : ((j : Int) != (q : Int)) = false := by simp [hne]
                  have HR : Hid (false = endUp (L.map bytesS) q (j + 1)) := by show _ = _; rw [HU.out, ← HE2.out]; simp [hne]
                  clear hne HU HE2
                  go_wp2_with fail
                  go_quiet (fail)
                  have HY2 := Lib.hid (HY.out.drewN nq)
                  clear cj cq HY HGY
                  go_wp2_with fail
                  go_roundw
                  case rel => exact ⟨j + 1, _, by omega, by go_num, rfl, HR, HY2⟩
                  case measure => simp [intOf]; try omega
                · have e1 : ((j : Int) != (q : Int)) = true := by simp; omega
                  have HR : Hid (en = endUp (L.map bytesS) q (j + 1)) := by show _ = _; rw [HU.out, ← HE2.out]; simp [hne]
                  clear hne HU HE2
                  go_wp2_with fail
                  go_quiet ((go_at_call 61; exact quiet_at (HC3.out _)))
                  have HY2 := Lib.hid (HY.out.drewN nq)
                  clear cj cq HY HGY
                  go_wp2_with fail
                  go_roundw
                  case rel => exact ⟨j + 1, _, by omega, by go_num, rfl, HR, HY2⟩
                  case measure => simp [intOf]; try omega
              · have HR : Hid (true = endUp (L.map bytesS) q (j + 1)) := by show _ = _; rw [HU.out, ← HE2.out]; simp
                clear HU HE2
                go_wp2_with fail
                go_quiet (fail)
                have HY2 := Lib.hid (HY.out.drewN nq)
                clear cj cq HY HGY
                go_wp2_with fail
                go_roundw
                case rel => exact ⟨j + 1, _, by omega, by go_num, rfl, HR, HY2⟩
                case measure => simp [intOf]; try omega
            · obtain rfl : j = L.length := by omega
              have HE3 : Hid (c = endB (L.map bytesS) (bytesS L[q])) := by
                show _ = _
                rw [HE2.out]
                have := endUp_all hAsc.out (k := q) (by simpa using hqt)
                simpa using this
              have HT : Hid (tabBody (L.map bytesS) ((L.map bytesS).take (q + 1)) = tabBody (L.map bytesS) ((L.map bytesS).take q) ++ (if endB (L.map bytesS) (bytesS L[q]) then [] else bytesS L[q] ++ [0])) := by
                show _ = _
                rw [List.take_succ_eq_append_getElem (by simpa using hqt), tabBody_snoc]
                simp
              have cq := HB.out wr HGY.out q hqt
              have HO2 : Hid (OwnB wr wA.heap.size u5 (0 :: tabBody (L.map bytesS) ((L.map bytesS).take q))) := owns_call HO.out HY.out.below
              have HY8 := Lib.hid (HSz.out L[q] (List.getElem_mem hqt))
              generalize L[q] = y at *
              cases c
              · have hy8 : y.size ≤ 8 := HY8.out
                obtain ⟨cc, wc, hconv, hrc, hbc⟩ := conv_str wr y (by unfold maxLen; omega)
                have HRC := Lib.hid hrc
                have HO3 := Lib.hid (owns_call HO2.out hbc)
                have HG3 := Lib.hid (HGY.out.call hbc)
                have hlen : (bytesS y).length = y.size := by unfold bytesS; rw [Array.length_toList]; rfl
                have HLEN := Lib.hid hlen
                have htl : (0 :: tabBody (L.map bytesS) ((L.map bytesS).take q)).length ≤ 1000 := by
                  have h1 := tabBody_length (L.map bytesS) (fun s hs => by
                    obtain ⟨z, hz, rfl⟩ := List.mem_map.1 hs
                    have := HSz.out z hz
                    unfold bytesS; rw [Array.length_toList]; exact this) ((L.map bytesS).take q) (fun s hs => List.mem_of_mem_take hs)
                  rw [List.length_take, List.length_map] at h1
                  have := HLn.out
                  rw [List.length_cons]; omega
                have hoz := HO3.out.lt
                obtain ⟨T, hT⟩ : ∃ T, 0 :: tabBody (L.map bytesS) ((L.map bytesS).take q) = T := ⟨_, rfl⟩
                rw [hT] at htl HO3
                have HTT := Lib.hid hT
                clear hrc hbc hlen hoz hT HO2
                go_wp2_with (at_builtin; refine wpList_append_src rfl (.tmp 66) (.tmp 71) 22 22 rfl wA.heap.size 5 i0 (.int .u8 0) 1 1 Try.underlying22 hi hz0 hz1 hz2 rfl (by decide) _ _ _ rfl HO3.out _ y.size (bvs (bytesS y)) rfl (by have := src_reads Try.underlying22 (show Reads wc 1 _ _ _ from HRC.out) (bvs_one _); rwa [HLEN.out] at this) ?c1 ?c2 ?c3 ?_)
                case c1 => unfold maxLen; omega
                case c2 => omega
                case c3 => exact HG3.out.le
                intro v' w4 hown hgr
                have HO4 : Hid (OwnB w4 wA.heap.size v' (T ++ bytesS y)) := by
                  show OwnB _ _ _ _
                  unfold OwnB
                  rw [List.length_append, bvs_append, HLEN.out]
                  exact hown
                have HG4 := Lib.hid (HG3.out.grown hgr (owns_block HO3.out))
                clear hown hgr HO3 HG3 HRC hconv
                go_wp2_with (at_builtin; refine wpList_append_src rfl (.tmp 72) (.tmp 73) 22 22 rfl wA.heap.size 5 i0 (.int .u8 0) 1 1 Try.underlying22 hi hz0 hz1 hz2 rfl (by decide) _ _ _ rfl (HO4.out.alloc _) _ 1 [_] rfl (src_new Try.underlying22 _ [_] 1 1 1 _ rfl ?c0) ?c1 ?c2 ?c3 ?_)
                case c0 => intro u hu; obtain rfl := List.mem_singleton.1 hu; rfl
                case c1 => unfold maxLen; rw [List.length_append, HLEN.out]; omega
                case c2 => rw [List.length_append, HLEN.out]; omega
                case c3 => have := HG4.out.le; simp; omega
                intro v5 w5 hown hgr
                have HO5 : Hid (OwnB w5 wA.heap.size v5 (0 :: tabBody (L.map bytesS) ((L.map bytesS).take (q + 1)))) := by
                  rw [← List.length_append] at hown
                  have := owns_snoc hown (c := 0) rfl
                  show OwnB _ _ _ _
                  rw [HT.out, ← HE3.out]
                  simp only [Bool.false_eq_true, if_false]
                  rw [← List.cons_append, ← List.append_assoc, HTT.out]
                  exact this
                have HG5 := Lib.hid ((HG4.out.alloc _).grown hgr (owns_block HO4.out))
                clear hown hgr HO4 HG4 HO HG HY HGY HE2 HE3 HT htl
                go_wp2_with fail
                go_roundw
                case rel => exact ⟨q + 1, by omega, by go_num, HO5, HG5⟩
                case measure => simp [intOf]; try omega
              · have HO3 : Hid (OwnB wr wA.heap.size u5 (0 :: tabBody (L.map bytesS) ((L.map bytesS).take (q + 1)))) := by show OwnB _ _ _ _; rw [HT.out, ← HE3.out]; simpa using HO2.out
                clear HT HE3 HO2 HE2 cq HO HG HY
                go_wp2_with fail
                go_roundw
                case rel => exact ⟨q + 1, by omega, by go_num, HO3, HGY⟩
                case measure => simp [intOf]; try omega
        · obtain rfl : q = L.length := by omega
          clear hqt
          go_wp2_with fail
          go_ret
          refine ⟨_, rfl, ?_, (HF.out.call HG.out.below).below⟩
          have := HO.out
          rw [HE.out]
          rw [← List.length_map bytesS, List.take_length] at this
          exact owns_mono this HF.out.le
end Go.Proofs.Ytkefbhidfbnipaa
