/- Tables of names: the program's way. -/
import Derived.Test.YtkefbhidfbnipaaSorted
import Derived.Test.YtkefbhidfbnipaaStrF
namespace Go.Proofs.Ytkefbhidfbnipaa
open Go.ChangeShapes Go.WideShapes Go.ChangeAt Go.RowKit Go.Joins
set_option linter.unusedSimpArgs false
set_option linter.unusedVariables false
set_option maxRecDepth 100000
theorem byteCells_eq (s : ByteArray) : byteCells s = bvs (bytesS s) := rfl
theorem tableL_eq {l : List ByteArray} (h : namesB l = true) : tableL l = tabOf ((sortB l).map bytesS) := by
  unfold tableL
  rw [if_pos h, sortB_map]
theorem namesB_small {l : List ByteArray} (h : namesB l = true) : l.length ≤ 40 ∧ ∀ s ∈ l, s.size ≤ 8 := by
  unfold namesB at h
  rw [Bool.and_eq_true, decide_eq_true_eq, List.all_eq_true] at h
  exact ⟨h.1, fun s hs => (nameB_size (h.2 s hs)).2⟩
theorem strsAt_mk {w : World} {b off cap : Nat} {l : List ByteArray} (h1 : l.length ≤ cap) (h2 : cap ≤ maxLen) (hc : ∀ j (hj : j < l.length), w.cell? ⟨b, off + j, none⟩ = some (.string l[j])) : StrsAt w (.slice (some ⟨b, off, none⟩) l.length cap) l := by
  refine ⟨by simp [svs], _, cap, rfl, h1, h2, (fun h => by cases h), fun _ => ⟨b, off, rfl, fun j u hu => ?_⟩⟩
  simp only [svs, List.getElem?_map, Option.map_eq_some_iff] at hu
  obtain ⟨c, hc', rfl⟩ := hu
  obtain ⟨hj, rfl⟩ := List.getElem?_eq_some_iff.1 hc'
  exact hc j hj
set_option maxHeartbeats 2000000 in
theorem i_NameTable (w : World) (b off cap : Nat) (l : List ByteArray) (h : StrsAt w (.slice (some ⟨b, off, none⟩) l.length cap) l) (hs : ∀ s ∈ l, s.size ≤ maxLen) (hl : l.length ≤ 1048576) :
    Calls Try.prog 56 #[.slice (some ⟨b, off, none⟩) l.length cap] w (RetBytes w (tableL l)) := by
  obtain ⟨i0, hi, hz0, hz1, hz2⟩ := info_parts info_u8
  have HH := Lib.hid h
  have HS := Lib.hid hs
  clear h hs
  cases hb : namesB l
  · have E : Hid (tableL l = []) := by show _ = _; unfold tableL; rw [hb]; rfl
    go_enter Try.func56, Try.ntmps56
    go_wp2_with fail
    refine (i_areNames w _ l HH.out HS.out).mono ?_
    rw [hb]
    rintro e w1 ⟨rfl, h1⟩
    have HF := Lib.hid ((From.start w).call h1)
    clear h1 hb
    go_wp2_with fail
    go_ret
    exact ⟨_, rfl, by rw [E.out]; exact World.ownsRow_nil _ _ _ _, HF.out.below⟩
  obtain ⟨l40, l8⟩ := namesB_small hb
  have E := Lib.hid (tableL_eq hb)
  go_enter Try.func56, Try.ntmps56
  go_wp2_with fail
  refine (i_areNames w _ l HH.out HS.out).mono ?_
  rw [hb]
  rintro e w1 ⟨rfl, h1⟩
  have HF := Lib.hid ((From.start w).call h1)
  clear h1 hb
  go_wp2_with fail
  refine (i_sorted _ b off cap l (HH.out.below (Nat.le_refl _) (HF.out.alloc _).below) (by omega)).mono ?_
  rintro e w2 ⟨_, rfl, o2, ⟨ga, ca, rfl⟩, h2⟩
  have hL40 : (sortB l).length ≤ 40 := by have := sortB_length l; omega
  have HL8 : Hid (∀ s ∈ sortB l, s.size ≤ 8) := fun s hs => l8 s (mem_sortB l s hs)
  obtain ⟨L, hL⟩ : ∃ L, sortB l = L := ⟨_, rfl⟩
  rw [hL] at o2 HL8 hL40 E
  rw [hL]
  clear hL l8 HH HS
  have HB0 := Lib.hid ((Blk.new w1 #[Value.int .u8 0] 5).call h2)
  have HF2 := Lib.hid ((HF.out.alloc _).call h2)
  have hgb := o2.lt ga rfl
  have hcell : ∀ j (hj : j < L.length), w2.cell? ⟨ga, j, none⟩ = some (.string L[j]) := by
    intro j hj
    obtain ⟨a', c', hv, -, -, -, hc⟩ := o2.reads.form
    simp only [Value.slice.injEq] at hv
    obtain ⟨rfl, -, rfl⟩ := hv
    obtain ⟨b', off', e, hc⟩ := hc (by omega)
    simp only [Option.some.injEq, Addr.mk.injEq] at e
    obtain ⟨rfl, rfl, -⟩ := e
    have := hc j hj
    rwa [Nat.zero_add] at this
  have HCa := Lib.hid hcell
  have HCap : Hid (L.length ≤ ca ∧ ca ≤ maxLen) := by
    obtain ⟨a', c', hv, h1, h3, -⟩ := o2.reads.form
    simp only [Value.slice.injEq] at hv
    obtain ⟨-, -, rfl⟩ := hv
    exact ⟨h1, h3⟩
  have z1 : w.heap.size ≤ w1.heap.size := HF.out.le
  have HO0 : Hid (OwnB w2 w.heap.size (.slice (some ⟨w1.heap.size, 0, none⟩) 1 1) [0]) := by
    refine ⟨rfl, .inr ⟨w1.heap.size, 1, _, rfl, z1, HB0.out, Nat.le_refl _, by decide, rfl, rfl⟩⟩
  have hga : w1.heap.size < ga := by have := hgb.1; simp at this; omega
  have hga2 : ga < w2.heap.size := hgb.2
  clear o2 h2 hcell hgb HF HB0
  go_wp2_with fail
  go_loopw [3, 15] (fun ov i wr => ∃ q : Nat, q ≤ L.length ∧ i = .int .i64 q ∧ Hid (OwnB wr w.heap.size ov (0 :: tabBody (L.map bytesS) ((L.map bytesS).take q))) ∧ Hid (∀ j (hj : j < L.length), wr.cell? ⟨ga, j, none⟩ = some (.string L[j])) ∧ Hid (ov.ownBlock ≠ some ga) ∧ Hid (ga < wr.heap.size) ∧ Hid (From w.heap.size w wr)) (fun _ i _ => L.length - (intOf i).toNat)
  case atStart => exact ⟨0, Nat.zero_le _, rfl, HO0, HCa, (fun e => by simp only [Value.ownBlock, Option.some.injEq] at e; omega), hga2, HF2⟩
  case round =>
    clear HO0 HCa HF2 hga2
    obtain ⟨q, hq, rfl, HO, HC, HN, HG, HF⟩ := hrel
    by_cases hqt : q < L.length
    · have j1 : (q : Int) < (L.length : Int) := by omega
      have j0 : (0 : Int) ≤ (q : Int) := by omega
      have cq := HC.out q hqt
      have HT : Hid (tabBody (L.map bytesS) ((L.map bytesS).take (q + 1)) = tabBody (L.map bytesS) ((L.map bytesS).take q) ++ (if endB (L.map bytesS) (bytesS L[q]) then [] else bytesS L[q] ++ [0])) := by
        show _ = _
        rw [List.take_succ_eq_append_getElem (by simpa using hqt), tabBody_snoc]
        simp
      have HY8 := Lib.hid (HL8.out L[q] (List.getElem_mem hqt))
      have HTL : Hid ((0 :: tabBody (L.map bytesS) ((L.map bytesS).take q)).length ≤ 1000) := by
        have h1 := tabBody_length (L.map bytesS) (fun s hs => by
          obtain ⟨z, hz, rfl⟩ := List.mem_map.1 hs
          have := HL8.out z hz
          unfold bytesS; rw [Array.length_toList]; exact this) ((L.map bytesS).take q) (fun s hs => List.mem_of_mem_take hs)
        rw [List.length_take, List.length_map] at h1
        show _ ≤ _
        rw [List.length_cons]; omega
      obtain ⟨T, hT⟩ : ∃ T, 0 :: tabBody (L.map bytesS) ((L.map bytesS).take q) = T := ⟨_, rfl⟩
      rw [hT] at HO HTL
      have HTT := Lib.hid hT
      clear hT
      generalize L[q] = y at *
      have HSt : Hid (StrsAt (wr.alloc (.cells #[.string y] 9)) (.slice (some ⟨ga, 0, none⟩) L.length ca) L) := strsAt_mk HCap.out.1 HCap.out.2 (fun j hj => by
        rw [Nat.zero_add]
        exact ((From.start wr).alloc _).below.cell (p := ⟨ga, j, none⟩) HG.out |>.trans (HC.out j hj))
      have HBY := Lib.hid (Blk.new wr #[Value.string y] 9)
      go_wp2_with fail
      refine (containsFuncStr_any 88 #[.pointer (some ⟨wr.heap.size, 0, none⟩)] (endOther y) (fun args u => enter_fn Try.func88 (by kernel_rfl) rfl args u) _ _ L HSt.out (fun x hx u hu => nameTable1_any u x y (HL8.out x hx) HY8.out _ (((HBY.out.call hu).cell 0).trans rfl))).mono ?_
      rw [any_endOther]
      rintro e w3 ⟨rfl, h3⟩
      have FF := ((From.start wr).alloc (.cells #[.string y] 9)).call h3
      have HF3 := Lib.hid (HF.out.call FF.below)
      have HO3 := Lib.hid (owns_call HO.out FF.below)
      have HC3 : Hid (∀ j (hj : j < L.length), w3.cell? ⟨ga, j, none⟩ = some (.string L[j])) := fun j hj => (FF.below.cell (p := ⟨ga, j, none⟩) HG.out).trans (HC.out j hj)
      have HG3 : Hid (ga < w3.heap.size) := Nat.lt_of_lt_of_le HG.out FF.le
      have BY := HBY.out.call h3
      have cy := BY.cell 0
      have zy := BY.lt
      clear h3 FF HF HO HC HG HSt HBY cq
      obtain ⟨en, hen⟩ : ∃ en, endB (L.map bytesS) (bytesS y) = en := ⟨_, rfl⟩
      rw [hen] at HT
      rw [hen]
      clear hen
      cases en
      · have hy8 : y.size ≤ 8 := HY8.out
        have htl : T.length ≤ 1000 := HTL.out
        have HLEN : Hid ((bytesS y).length = y.size) := by show _ = _; unfold bytesS; rw [Array.length_toList]; rfl
        go_wp2_with (at_builtin; refine wpList_append_own rfl (.tmp 22) (.tmp 23) 22 9 rfl w.heap.size 5 i0 (.int .u8 0) 1 1 Try.underlying22 hi hz0 hz1 hz2 rfl (by decide) _ _ _ rfl HO3.out _ y.size (bvs (bytesS y)) rfl (Src.ofString _ Try.underlying9 y) ?c1 ?c2 ?c3 ?_)
        case c1 => unfold maxLen; omega
        case c2 => omega
        case c3 => exact HF3.out.le
        intro v' w4 hown hgr hpl
        have HO4 : Hid (OwnB w4 w.heap.size v' (T ++ bytesS y)) := by
          show OwnB _ _ _ _
          unfold OwnB
          rw [List.length_append, bvs_append, HLEN.out]
          exact hown
        have HF4 := Lib.hid (HF3.out.grown hgr (owns_block HO3.out))
        have HC4 : Hid (∀ j (hj : j < L.length), w4.cell? ⟨ga, j, none⟩ = some (.string L[j])) := fun j hj => hgr.cell (HC3.out j hj) (fun e => HN.out e.symm)
        have HG4 : Hid (ga < w4.heap.size) := Nat.lt_of_lt_of_le HG3.out hgr.size
        have HN4 : Hid (v'.ownBlock ≠ some ga) := fun e => by
          rcases hpl with h | h
          · rw [h] at e; exact HN.out e
          · rw [h] at e; simp only [Option.some.injEq] at e; have := HG3.out; omega
        clear hown hgr hpl HO3 HF3 HC3 HG3 HN
        go_wp2_with (at_builtin; refine wpList_append_own rfl (.tmp 25) (.tmp 26) 22 22 rfl w.heap.size 5 i0 (.int .u8 0) 1 1 Try.underlying22 hi hz0 hz1 hz2 rfl (by decide) _ _ _ rfl (HO4.out.alloc _) _ 1 [_] rfl (src_new Try.underlying22 _ [_] 1 1 1 _ rfl ?c0) ?c1 ?c2 ?c3 ?_)
        case c0 => intro u hu; obtain rfl := List.mem_singleton.1 hu; rfl
        case c1 => unfold maxLen; rw [List.length_append, HLEN.out]; omega
        case c2 => rw [List.length_append, HLEN.out]; omega
        case c3 => have := HF4.out.le; simp; omega
        intro v5 w5 hown hgr hpl
        have HO5 : Hid (OwnB w5 w.heap.size v5 (0 :: tabBody (L.map bytesS) ((L.map bytesS).take (q + 1)))) := by
          rw [← List.length_append] at hown
          have := owns_snoc hown (c := 0) rfl
          show OwnB _ _ _ _
          rw [HT.out]
          simp only [Bool.false_eq_true, if_false]
          rw [← List.cons_append, ← List.append_assoc, HTT.out]
          exact this
        have HF5 := Lib.hid ((HF4.out.alloc _).grown hgr (owns_block HO4.out))
        have HC5 : Hid (∀ j (hj : j < L.length), w5.cell? ⟨ga, j, none⟩ = some (.string L[j])) := fun j hj => hgr.cell ((((From.start w4).alloc _).below.cell (p := ⟨ga, j, none⟩) HG4.out).trans (HC4.out j hj)) (fun e => HN4.out e.symm)
        have HG5 : Hid (ga < w5.heap.size) := Nat.lt_of_lt_of_le (Nat.lt_of_lt_of_le HG4.out ((From.start w4).alloc _).le) hgr.size
        have HN5 : Hid (v5.ownBlock ≠ some ga) := fun e => by
          rcases hpl with h | h
          · rw [h] at e; exact HN4.out e
          · rw [h] at e; simp only [Option.some.injEq] at e; have := HG4.out; omega
        clear hown hgr hpl HO4 HF4 HC4 HG4 HN4 HT HTT HTL htl
        go_wp2_with fail
        go_roundw
        case rel => exact ⟨q + 1, by omega, by go_num, HO5, HC5, HN5, HG5, HF5⟩
        case measure => simp [intOf]; try omega
      · have HO4 : Hid (OwnB w3 w.heap.size u3 (0 :: tabBody (L.map bytesS) ((L.map bytesS).take (q + 1)))) := by
          show OwnB _ _ _ _
          rw [HT.out]
          simp only [if_true, List.append_nil]
          rw [HTT.out]
          exact HO3.out
        clear HT HTT HTL HO3 cy zy BY
        go_wp2_with fail
        go_roundw
        case rel => exact ⟨q + 1, by omega, by go_num, HO4, HC3, HN, HG3, HF3⟩
        case measure => simp [intOf]; try omega
    · obtain rfl : q = L.length := by omega
      clear hqt
      go_wp2_with fail
      go_ret
      refine ⟨_, rfl, ?_, HF.out.below⟩
      have := HO.out
      rw [E.out]
      unfold tabOf
      rw [← List.length_map bytesS, List.take_length] at this
      exact this
end Go.Proofs.Ytkefbhidfbnipaa
