/- Lengths of objects: all names, the table, the number of fixups. Lengths of objects. -/
import Derived.Test.YtkefbhidfbnipaaPlainR
import Derived.Test.YtkefbhidfbnipaaNameTab
import Derived.Test.YtkefbhidfbnipaaTab
import Derived.Test.YtkefbhidfbnipaaDrawT
import Derived.Test.YtkefbhidfbnipaaNames
import Derived.Test.YtkefbhidfbnipaaInv
import Derived.Test.YtkefbhidfbnipaaObjVal
namespace Go.Proofs.Ytkefbhidfbnipaa
/-! Len -/
open Go.ChangeShapes Go.WideShapes Go.ChangeAt Go.RowKit Go.Joins
set_option linter.unusedSimpArgs false
set_option linter.unusedVariables false
set_option maxRecDepth 100000
theorem row_some {w : World} {base n : Nat} {e : TypeId} {size : Nat} {v : Value} {xs : List Value} (h : w.ownsRow base e size v n xs) (hn : v ≠ .slice none 0 0) : ∃ g c, v = .slice (some ⟨g, 0, none⟩) n c := by
  rcases h.2 with ⟨hv, _⟩ | ⟨g, c, cur, hv, hb, hh, _⟩
  · exact absurd hv hn
  · exact ⟨g, c, hv⟩
theorem src_at {P : Program} {tx e' : TypeId} (hk : P.underlying tx = some (.slice e')) (w : World) (us : List Value) (size n c : Nat) (e : TypeId) (hl : us.length = n * size) (h1 : ∀ u ∈ us, u.oneCell' = true) (B : Nat) (hB : B = w.heap.size) :
    Src P size tx (.slice (some ⟨B, 0, none⟩) n c) n us (w.alloc (.cells us.toArray e)) := by
  subst hB; exact src_new hk w us size n c e hl h1
theorem allNames_sec (o : ObjD) (k : Nat) (hk : k < o.secs.length) : svs ((allNames o).take (k + 1)) = svs ((allNames o).take k) ++ [Value.string o.secs[k].name] := by
  have h : (allNames o)[k]? = some o.secs[k].name := by
    unfold allNames
    rw [List.getElem?_append_left (by simpa using hk), List.getElem?_map, List.getElem?_eq_getElem hk]
    rfl
  obtain ⟨hl, he⟩ := List.getElem?_eq_some_iff.1 h
  rw [List.take_succ_eq_append_getElem hl, svs_append, he]
  rfl
theorem allNames_sym (o : ObjD) (k : Nat) (hk : k < o.syms.length) : svs ((allNames o).take (o.secs.length + k + 1)) = svs ((allNames o).take (o.secs.length + k)) ++ [Value.string o.syms[k].name] := by
  have h : (allNames o)[o.secs.length + k]? = some o.syms[k].name := by
    unfold allNames
    rw [List.getElem?_append_right (by simp), List.length_map, Nat.add_sub_cancel_left, List.getElem?_map, List.getElem?_eq_getElem hk]
    rfl
  obtain ⟨hl, he⟩ := List.getElem?_eq_some_iff.1 h
  rw [List.take_succ_eq_append_getElem hl, svs_append, he]
  rfl
set_option maxHeartbeats 2000000 in
theorem i_tableOf (w : World) (v : Value) (o : ObjD) (h : ObjAt w v o) (ho : objB o = true) (hs : (∀ s ∈ o.secs, s.name.size ≤ maxLen) ∧ ∀ s ∈ o.syms, s.name.size ≤ maxLen) :
    Calls Try.prog 21 #[v] w (RetBytes w (tableL (allNames o))) := by
  obtain ⟨i0, hi, hz0, hz1, hz2⟩ := info_parts info_str
  have HS := Lib.hid hs
  clear hs
  obtain ⟨vs, vy, rfl, h1, h2⟩ := h
  have HH : Hid (SecsAt w vs o.secs ∧ SymsAt w vy o.syms) := ⟨h1, h2⟩
  obtain ⟨sa, sc, rfl, hcap, hmax, hnone, hcell⟩ := h1.form
  obtain ⟨ya, yc, rfl, hcap2, hmax2, hnone2, hcell2⟩ := h2.form
  have HC := Lib.hid hcell
  have HD := Lib.hid hcell2
  have hf1 := (objB_few ho).1
  have hf2 := (objB_few ho).2
  have HV := Lib.hid ho
  clear h1 h2 hcell hcell2 hnone hnone2 ho
  unfold maxLen at hmax hmax2
  obtain ⟨n1, hn1⟩ : ∃ n1, o.secs.length = n1 := ⟨_, rfl⟩
  obtain ⟨n2, hn2⟩ : ∃ n2, o.syms.length = n2 := ⟨_, rfl⟩
  have HN1 := Lib.hid hn1
  have HN2 := Lib.hid hn2
  rw [hn1] at hf1 hcap HH ⊢
  rw [hn2] at hf2 hcap2 HH ⊢
  clear hn1 hn2
  go_enter Try.func21, Try.ntmps21
  go_wp2_with fail
  have hb0 : Blk ((w.alloc (.cells #[.slice sa n1 sc, .slice ya n2 yc] 26)).alloc (.cells #[] 9)) w.heap.size #[.slice sa n1 sc, .slice ya n2 yc] 26 := (Blk.new w _ _).alloc _
  have HB0 := Lib.hid hb0
  have hr0 : ((w.alloc (.cells #[.slice sa n1 sc, .slice ya n2 yc] 26)).alloc (.cells #[] 9)).ownsRow (w.heap.size + 1) 9 1 (.slice (some ⟨w.heap.size + 1, 0, none⟩) 0 0) 0 (svs ((allNames o).take 0)) := by
    have := World.ownsRow_lit (w.alloc (.cells #[.slice sa n1 sc, .slice ya n2 yc] 26)) #[] (e := 9) (size := 1) (base := w.heap.size + 1) 0 (by simp) (Nat.zero_le _) rfl
    simpa [svs] using this
  have HR0 := Lib.hid hr0
  clear hb0 hr0
  go_loopw [3, 12] (fun out i wr => ∃ (k gb gc : Nat), k ≤ n1 ∧ i = .int .i64 k ∧ out = .slice (some ⟨gb, 0, none⟩) (k) gc ∧ Hid (wr.ownsRow (w.heap.size + 1) 9 1 (.slice (some ⟨gb, 0, none⟩) (k) gc) (k) (svs ((allNames o).take (k)))) ∧ Hid (Blk wr w.heap.size #[.slice sa n1 sc, .slice ya n2 yc] 26) ∧ Hid (From w.heap.size w wr)) (fun _ i _ => n1 - (intOf i).toNat)
  case atStart => exact ⟨0, w.heap.size + 1, 0, Nat.zero_le _, rfl, rfl, HR0, HB0, ((From.start w).alloc _).alloc _⟩
  case round =>
    clear HB0 HR0
    obtain ⟨k, gb, gc, hk, rfl, rfl, HO, HB, HF⟩ := hrel
    have cb := HB.out.cell
    have zb := HB.out.lt
    by_cases hlt : k < n1
    · obtain ⟨b, off, rfl, hc⟩ := HC.out (by have := HN1.out; omega)
      obtain ⟨vb, vf, hb, hf, c0, c1, c2, c3, c4, c5⟩ := hc k (by rw [HN1.out]; exact hlt)
      obtain ⟨ba, bc, rfl, -⟩ := hb.form
      obtain ⟨fa, fc, rfl, -⟩ := hf.form
      have hbl : b < w.heap.size := World.block_lt_of_cell? w _ c0
      have g0 := (HF.out.below.cell (p := ⟨b, off + k * 6, none⟩) hbl).trans c0
      have g1 := (HF.out.below.cell (p := ⟨b, off + k * 6 + 1, none⟩) hbl).trans c1
      have g2 := (HF.out.below.cell (p := ⟨b, off + k * 6 + 2, none⟩) hbl).trans c2
      have g3 := (HF.out.below.cell (p := ⟨b, off + k * 6 + 3, none⟩) hbl).trans c3
      have g4 := (HF.out.below.cell (p := ⟨b, off + k * 6 + 4, none⟩) hbl).trans c4
      have g5 := (HF.out.below.cell (p := ⟨b, off + k * 6 + 5, none⟩) hbl).trans c5
      have i1 : (k : Int) < (n1 : Int) := by omega
      have i3 : (0 : Int) ≤ (k : Int) := by omega
      have HT := Lib.hid (allNames_sec o k (by rw [HN1.out]; exact hlt))
      clear hc c0 c1 c2 c3 c4 c5 hb hf
      generalize o.secs[k]'(by rw [HN1.out]; exact hlt) = x at *
      go_wp2_with (at_builtin; refine wpList_append_src rfl (.tmp 16) (.tmp 19) 61 61 rfl (w.heap.size + 1) 9 i0 (.string ⟨#[]⟩) 1 16 Try.underlying61 hi hz0 hz1 hz2 rfl (by decide) _ _ _ rfl (World.ownsRow.alloc (World.ownsRow.alloc HO.out _) _) _ 1 [_] rfl (src_at Try.underlying61 _ [_] 1 1 1 _ rfl ?c0 _ (by simp)) ?c1 ?c2 ?c3 ?_)
      case c0 => intro u hu; obtain rfl := List.mem_singleton.1 hu; rfl
      case c1 => unfold maxLen; omega
      case c2 => omega
      case c3 => have := HB.out.lt; simp; omega
      intro v' w4 hown hgr
      have hown' : w4.ownsRow (w.heap.size + 1) 9 1 v' (k + 1) (svs ((allNames o).take (k)) ++ [Value.string x.name]) := hown
      obtain ⟨gb4, gc4, rfl⟩ := row_some hown' (owns_more_some hown')
      have HO4 : Hid (w4.ownsRow (w.heap.size + 1) 9 1 (.slice (some ⟨gb4, 0, none⟩) (k + 1) gc4) (k + 1) (svs ((allNames o).take (k + 1)))) := by show World.ownsRow _ _ _ _ _ _ _; rw [HT.out]; exact hown'
      have HF4 := Lib.hid (((HF.out.alloc _).alloc _).grown hgr (fun q e => by have := owns_block HO.out q e; omega))
      have HB4 := Lib.hid (((HB.out.alloc _).alloc _).grown hgr (fun e => by have := owns_block HO.out _ e.symm; omega))
      clear hown hown' hgr HO HF HB
      go_wp2_with fail
      go_roundw
      case rel => exact ⟨k + 1, gb4, gc4, by omega, by go_num, rfl, HO4, HB4, HF4⟩
      case measure => simp [intOf]; try omega
    · obtain rfl : n1 = k := by omega
      go_wp2_with fail
      go_loopw [3, 25] (fun out i wr => ∃ (k gb gc : Nat), k ≤ n2 ∧ i = .int .i64 k ∧ out = .slice (some ⟨gb, 0, none⟩) (n1 + k) gc ∧ Hid (wr.ownsRow (w.heap.size + 1) 9 1 (.slice (some ⟨gb, 0, none⟩) (n1 + k) gc) (n1 + k) (svs ((allNames o).take (n1 + k)))) ∧ Hid (Blk wr w.heap.size #[.slice sa n1 sc, .slice ya n2 yc] 26) ∧ Hid (From w.heap.size w wr)) (fun _ i _ => n2 - (intOf i).toNat)
      case atStart => exact ⟨0, gb, gc, Nat.zero_le _, rfl, rfl, HO, HB, HF⟩
      case round =>
        clear HO HB HF cb zb hlt hk
        obtain ⟨k, gb, gc, hk, rfl, rfl, HO, HB, HF⟩ := hrel
        have cb := HB.out.cell
        have zb := HB.out.lt
        by_cases hlt : k < n2
        · obtain ⟨b, off, rfl, hc⟩ := HD.out (by have := HN2.out; omega)
          obtain ⟨c0, c1, c2, c3⟩ := hc k (by rw [HN2.out]; exact hlt)
          have hbl : b < w.heap.size := World.block_lt_of_cell? w _ c0
          have g0 := (HF.out.below.cell (p := ⟨b, off + k * 4, none⟩) hbl).trans c0
          have g1 := (HF.out.below.cell (p := ⟨b, off + k * 4 + 1, none⟩) hbl).trans c1
          have g2 := (HF.out.below.cell (p := ⟨b, off + k * 4 + 2, none⟩) hbl).trans c2
          have g3 := (HF.out.below.cell (p := ⟨b, off + k * 4 + 3, none⟩) hbl).trans c3
          have i1 : (k : Int) < (n2 : Int) := by omega
          have i3 : (0 : Int) ≤ (k : Int) := by omega
          have HT := Lib.hid (allNames_sym o k (by rw [HN2.out]; exact hlt))
          rw [HN1.out] at HT
          clear hc c0 c1 c2 c3
          generalize o.syms[k]'(by rw [HN2.out]; exact hlt) = x at *
          go_wp2_with (at_builtin; refine wpList_append_src rfl (.tmp 29) (.tmp 32) 61 61 rfl (w.heap.size + 1) 9 i0 (.string ⟨#[]⟩) 1 16 Try.underlying61 hi hz0 hz1 hz2 rfl (by decide) _ _ _ rfl (World.ownsRow.alloc (World.ownsRow.alloc HO.out _) _) _ 1 [_] rfl (src_at Try.underlying61 _ [_] 1 1 1 _ rfl ?c0 _ (by simp)) ?c1 ?c2 ?c3 ?_)
          case c0 => intro u hu; obtain rfl := List.mem_singleton.1 hu; rfl
          case c1 => unfold maxLen; omega
          case c2 => omega
          case c3 => have := HB.out.lt; simp; omega
          intro v' w4 hown hgr
          have hown' : w4.ownsRow (w.heap.size + 1) 9 1 v' (n1 + k + 1) (svs ((allNames o).take (n1 + k)) ++ [Value.string x.name]) := hown
          obtain ⟨gb4, gc4, rfl⟩ := row_some hown' (owns_more_some hown')
          have HO4 : Hid (w4.ownsRow (w.heap.size + 1) 9 1 (.slice (some ⟨gb4, 0, none⟩) (n1 + k + 1) gc4) (n1 + k + 1) (svs ((allNames o).take (n1 + k + 1)))) := by show World.ownsRow _ _ _ _ _ _ _; rw [HT.out]; exact hown'
          have HF4 := Lib.hid (((HF.out.alloc _).alloc _).grown hgr (fun q e => by have := owns_block HO.out q e; omega))
          have HB4 := Lib.hid (((HB.out.alloc _).alloc _).grown hgr (fun e => by have := owns_block HO.out _ e.symm; omega))
          clear hown hown' hgr HO HF HB
          go_wp2_with fail
          go_roundw
          case rel => exact ⟨k + 1, gb4, gc4, by omega, by go_num, rfl, HO4, HB4, HF4⟩
          case measure => simp [intOf]; try omega
        · obtain rfl : n2 = k := by omega
          have hall : (allNames o).length = n1 + n2 := by rw [allNames_length, HN1.out, HN2.out]
          have hown : OwnS wr (w.heap.size + 1) (.slice (some ⟨gb, 0, none⟩) (allNames o).length gc) (allNames o) := by
            have := HO.out
            rw [← hall, List.take_length] at this
            exact this
          have q1 := i_NameTable wr gb 0 gc (allNames o) hown.reads (by
            intro s hs
            rcases List.mem_append.1 hs with hs | hs
            · obtain ⟨y, hy, rfl⟩ := List.mem_map.1 hs; exact HS.out.1 y hy
            · obtain ⟨y, hy, rfl⟩ := List.mem_map.1 hs; exact HS.out.2 y hy) (by omega)
          rw [hall] at q1
          have Q1 := Lib.hid q1
          clear q1 hown hall
          go_wp2_with fail
          refine Q1.out.mono ?_
          rintro e w2 ⟨r, rfl, o2, h2⟩
          have HF2 := Lib.hid (HF.out.call h2)
          have HO2 := Lib.hid (owns_mono o2 HF.out.le)
          obtain ⟨ra, rc, rfl⟩ := owns_form o2
          obtain ⟨tl, htl⟩ : ∃ tl, (tableL (allNames o)).length = tl := ⟨_, rfl⟩
          have HTL := Lib.hid htl
          rw [htl]
          clear htl o2 h2 Q1 HO HB HF cb
          go_wp2_with fail
          go_ret
          exact ⟨_, rfl, by rw [← HTL.out]; exact HO2.out, HF2.out.below⟩
set_option maxHeartbeats 2000000 in
theorem s_l6Names (w : World) (v : Value) (o : ObjD) (h : ObjAt w v o) (ho : objB o = true) :
    Calls Try.prog 28 #[v] w (fun e w' => ∃ r, e = .returned r ∧ OwnS w' w.heap.size r (allNames o) ∧ Below w.heap.size w w') := by
  obtain ⟨i0, hi, hz0, hz1, hz2⟩ := info_parts info_str
  obtain ⟨vs, vy, rfl, h1, h2⟩ := h
  have HH : Hid (SecsAt w vs o.secs ∧ SymsAt w vy o.syms) := ⟨h1, h2⟩
  obtain ⟨sa, sc, rfl, hcap, hmax, hnone, hcell⟩ := h1.form
  obtain ⟨ya, yc, rfl, hcap2, hmax2, hnone2, hcell2⟩ := h2.form
  have HC := Lib.hid hcell
  have HD := Lib.hid hcell2
  have hf1 := (objB_few ho).1
  have hf2 := (objB_few ho).2
  have HV := Lib.hid ho
  clear h1 h2 hcell hcell2 hnone hnone2 ho
  unfold maxLen at hmax hmax2
  obtain ⟨n1, hn1⟩ : ∃ n1, o.secs.length = n1 := ⟨_, rfl⟩
  obtain ⟨n2, hn2⟩ : ∃ n2, o.syms.length = n2 := ⟨_, rfl⟩
  have HN1 := Lib.hid hn1
  have HN2 := Lib.hid hn2
  rw [hn1] at hf1 hcap HH ⊢
  rw [hn2] at hf2 hcap2 HH ⊢
  clear hn1 hn2
  go_enter Try.func28, Try.ntmps28
  go_wp2_with fail
  have hb0 : Blk ((w.alloc (.cells #[.slice sa n1 sc, .slice ya n2 yc] 26)).alloc (.cells #[] 9)) w.heap.size #[.slice sa n1 sc, .slice ya n2 yc] 26 := (Blk.new w _ _).alloc _
  have HB0 := Lib.hid hb0
  have hr0 : ((w.alloc (.cells #[.slice sa n1 sc, .slice ya n2 yc] 26)).alloc (.cells #[] 9)).ownsRow (w.heap.size + 1) 9 1 (.slice (some ⟨w.heap.size + 1, 0, none⟩) 0 0) 0 (svs ((allNames o).take 0)) := by
    have := World.ownsRow_lit (w.alloc (.cells #[.slice sa n1 sc, .slice ya n2 yc] 26)) #[] (e := 9) (size := 1) (base := w.heap.size + 1) 0 (by simp) (Nat.zero_le _) rfl
    simpa [svs] using this
  have HR0 := Lib.hid hr0
  clear hb0 hr0
  go_loopw [3, 4] (fun out i wr => ∃ (k gb gc : Nat), k ≤ n1 ∧ i = .int .i64 k ∧ out = .slice (some ⟨gb, 0, none⟩) (k) gc ∧ Hid (wr.ownsRow (w.heap.size + 1) 9 1 (.slice (some ⟨gb, 0, none⟩) (k) gc) (k) (svs ((allNames o).take (k)))) ∧ Hid (Blk wr w.heap.size #[.slice sa n1 sc, .slice ya n2 yc] 26) ∧ Hid (From w.heap.size w wr)) (fun _ i _ => n1 - (intOf i).toNat)
  case atStart => exact ⟨0, w.heap.size + 1, 0, Nat.zero_le _, rfl, rfl, HR0, HB0, ((From.start w).alloc _).alloc _⟩
  case round =>
    clear HB0 HR0
    obtain ⟨k, gb, gc, hk, rfl, rfl, HO, HB, HF⟩ := hrel
    have cb := HB.out.cell
    have zb := HB.out.lt
    by_cases hlt : k < n1
    · obtain ⟨b, off, rfl, hc⟩ := HC.out (by have := HN1.out; omega)
      obtain ⟨vb, vf, hb, hf, c0, c1, c2, c3, c4, c5⟩ := hc k (by rw [HN1.out]; exact hlt)
      obtain ⟨ba, bc, rfl, -⟩ := hb.form
      obtain ⟨fa, fc, rfl, -⟩ := hf.form
      have hbl : b < w.heap.size := World.block_lt_of_cell? w _ c0
      have g0 := (HF.out.below.cell (p := ⟨b, off + k * 6, none⟩) hbl).trans c0
      have g1 := (HF.out.below.cell (p := ⟨b, off + k * 6 + 1, none⟩) hbl).trans c1
      have g2 := (HF.out.below.cell (p := ⟨b, off + k * 6 + 2, none⟩) hbl).trans c2
      have g3 := (HF.out.below.cell (p := ⟨b, off + k * 6 + 3, none⟩) hbl).trans c3
      have g4 := (HF.out.below.cell (p := ⟨b, off + k * 6 + 4, none⟩) hbl).trans c4
      have g5 := (HF.out.below.cell (p := ⟨b, off + k * 6 + 5, none⟩) hbl).trans c5
      have i1 : (k : Int) < (n1 : Int) := by omega
      have i3 : (0 : Int) ≤ (k : Int) := by omega
      have HT := Lib.hid (allNames_sec o k (by rw [HN1.out]; exact hlt))
      clear hc c0 c1 c2 c3 c4 c5 hb hf
      generalize o.secs[k]'(by rw [HN1.out]; exact hlt) = x at *
      go_wp2_with (at_builtin; refine wpList_append_src rfl (.tmp 14) (.tmp 21) 61 61 rfl (w.heap.size + 1) 9 i0 (.string ⟨#[]⟩) 1 16 Try.underlying61 hi hz0 hz1 hz2 rfl (by decide) _ _ _ rfl (World.ownsRow.alloc HO.out _) _ 1 [_] rfl (src_at Try.underlying61 _ [_] 1 1 1 _ rfl ?c0 _ (by simp)) ?c1 ?c2 ?c3 ?_)
      case c0 => intro u hu; obtain rfl := List.mem_singleton.1 hu; rfl
      case c1 => unfold maxLen; omega
      case c2 => omega
      case c3 => have := HB.out.lt; simp; omega
      intro v' w4 hown hgr
      have hown' : w4.ownsRow (w.heap.size + 1) 9 1 v' (k + 1) (svs ((allNames o).take (k)) ++ [Value.string x.name]) := hown
      obtain ⟨gb4, gc4, rfl⟩ := row_some hown' (owns_more_some hown')
      have HO4 : Hid (w4.ownsRow (w.heap.size + 1) 9 1 (.slice (some ⟨gb4, 0, none⟩) (k + 1) gc4) (k + 1) (svs ((allNames o).take (k + 1)))) := by show World.ownsRow _ _ _ _ _ _ _; rw [HT.out]; exact hown'
      have HF4 := Lib.hid ((HF.out.alloc _).grown hgr (fun q e => by have := owns_block HO.out q e; omega))
      have HB4 := Lib.hid ((HB.out.alloc _).grown hgr (fun e => by have := owns_block HO.out _ e.symm; omega))
      clear hown hown' hgr HO HF HB
      go_wp2_with fail
      go_roundw
      case rel => exact ⟨k + 1, gb4, gc4, by omega, by go_num, rfl, HO4, HB4, HF4⟩
      case measure => simp [intOf]; try omega
    · obtain rfl : n1 = k := by omega
      go_wp2_with fail
      go_loopw [3, 5] (fun out i wr => ∃ (k gb gc : Nat), k ≤ n2 ∧ i = .int .i64 k ∧ out = .slice (some ⟨gb, 0, none⟩) (n1 + k) gc ∧ Hid (wr.ownsRow (w.heap.size + 1) 9 1 (.slice (some ⟨gb, 0, none⟩) (n1 + k) gc) (n1 + k) (svs ((allNames o).take (n1 + k)))) ∧ Hid (Blk wr w.heap.size #[.slice sa n1 sc, .slice ya n2 yc] 26) ∧ Hid (From w.heap.size w wr)) (fun _ i _ => n2 - (intOf i).toNat)
      case atStart => exact ⟨0, gb, gc, Nat.zero_le _, rfl, rfl, HO, HB, HF⟩
      case round =>
        clear HO HB HF cb zb hlt hk
        obtain ⟨k, gb, gc, hk, rfl, rfl, HO, HB, HF⟩ := hrel
        have cb := HB.out.cell
        have zb := HB.out.lt
        by_cases hlt : k < n2
        · obtain ⟨b, off, rfl, hc⟩ := HD.out (by have := HN2.out; omega)
          obtain ⟨c0, c1, c2, c3⟩ := hc k (by rw [HN2.out]; exact hlt)
          have hbl : b < w.heap.size := World.block_lt_of_cell? w _ c0
          have g0 := (HF.out.below.cell (p := ⟨b, off + k * 4, none⟩) hbl).trans c0
          have g1 := (HF.out.below.cell (p := ⟨b, off + k * 4 + 1, none⟩) hbl).trans c1
          have g2 := (HF.out.below.cell (p := ⟨b, off + k * 4 + 2, none⟩) hbl).trans c2
          have g3 := (HF.out.below.cell (p := ⟨b, off + k * 4 + 3, none⟩) hbl).trans c3
          have i1 : (k : Int) < (n2 : Int) := by omega
          have i3 : (0 : Int) ≤ (k : Int) := by omega
          have HT := Lib.hid (allNames_sym o k (by rw [HN2.out]; exact hlt))
          rw [HN1.out] at HT
          clear hc c0 c1 c2 c3
          generalize o.syms[k]'(by rw [HN2.out]; exact hlt) = x at *
          go_wp2_with (at_builtin; refine wpList_append_src rfl (.tmp 30) (.tmp 37) 61 61 rfl (w.heap.size + 1) 9 i0 (.string ⟨#[]⟩) 1 16 Try.underlying61 hi hz0 hz1 hz2 rfl (by decide) _ _ _ rfl (World.ownsRow.alloc HO.out _) _ 1 [_] rfl (src_at Try.underlying61 _ [_] 1 1 1 _ rfl ?c0 _ (by simp)) ?c1 ?c2 ?c3 ?_)
          case c0 => intro u hu; obtain rfl := List.mem_singleton.1 hu; rfl
          case c1 => unfold maxLen; omega
          case c2 => omega
          case c3 => have := HB.out.lt; simp; omega
          intro v' w4 hown hgr
          have hown' : w4.ownsRow (w.heap.size + 1) 9 1 v' (n1 + k + 1) (svs ((allNames o).take (n1 + k)) ++ [Value.string x.name]) := hown
          obtain ⟨gb4, gc4, rfl⟩ := row_some hown' (owns_more_some hown')
          have HO4 : Hid (w4.ownsRow (w.heap.size + 1) 9 1 (.slice (some ⟨gb4, 0, none⟩) (n1 + k + 1) gc4) (n1 + k + 1) (svs ((allNames o).take (n1 + k + 1)))) := by show World.ownsRow _ _ _ _ _ _ _; rw [HT.out]; exact hown'
          have HF4 := Lib.hid ((HF.out.alloc _).grown hgr (fun q e => by have := owns_block HO.out q e; omega))
          have HB4 := Lib.hid ((HB.out.alloc _).grown hgr (fun e => by have := owns_block HO.out _ e.symm; omega))
          clear hown hown' hgr HO HF HB
          go_wp2_with fail
          go_roundw
          case rel => exact ⟨k + 1, gb4, gc4, by omega, by go_num, rfl, HO4, HB4, HF4⟩
          case measure => simp [intOf]; try omega
        · obtain rfl : n2 = k := by omega
          have hall : (allNames o).length = n1 + n2 := by rw [allNames_length, HN1.out, HN2.out]
          have hown : OwnS wr (w.heap.size + 1) (.slice (some ⟨gb, 0, none⟩) (n1 + n2) gc) (allNames o) := by
            have := HO.out
            rw [← hall, List.take_length] at this
            rw [← hall]
            exact this
          have HW := Lib.hid hown
          clear hown hall HO
          go_wp2_with fail
          go_ret
          exact ⟨_, rfl, owns_mono HW.out (Nat.le_succ _), HF.out.below⟩
set_option maxHeartbeats 2000000 in
theorem i_fixupsOf (w : World) (v : Value) (o : ObjD) (h : ObjAt w v o) (ho : objB o = true) :
    Calls Try.prog 23 #[v] w fun e w' => e = .returned (.int .i64 (fixN o.secs)) ∧ Below w.heap.size w w' := by
  obtain ⟨vs, vy, rfl, h1, h2⟩ := h
  have HH : Hid (SecsAt w vs o.secs ∧ SymsAt w vy o.syms) := ⟨h1, h2⟩
  obtain ⟨sa, sc, rfl, hcap, hmax, hnone, hcell⟩ := h1.form
  obtain ⟨ya, yc, rfl, hcap2, hmax2, hnone2, hcell2⟩ := h2.form
  have HC := Lib.hid hcell
  have HD := Lib.hid hcell2
  have hf1 := (objB_few ho).1
  have hf2 := (objB_few ho).2
  have HV := Lib.hid ho
  clear h1 h2 hcell hcell2 hnone hnone2 ho
  unfold maxLen at hmax hmax2
  obtain ⟨n1, hn1⟩ : ∃ n1, o.secs.length = n1 := ⟨_, rfl⟩
  obtain ⟨n2, hn2⟩ : ∃ n2, o.syms.length = n2 := ⟨_, rfl⟩
  have HN1 := Lib.hid hn1
  have HN2 := Lib.hid hn2
  rw [hn1] at hf1 hcap HH ⊢
  rw [hn2] at hf2 hcap2 HH ⊢
  clear hn1 hn2
  go_enter Try.func23, Try.ntmps23
  go_wp2_with fail
  have HB0 := Lib.hid (Blk.new w #[.slice sa n1 sc, .slice ya n2 yc] 26)
  go_loopw [3, 9] (fun q i wr => ∃ (k : Nat), k ≤ n1 ∧ i = .int .i64 k ∧ q = .int .i64 (fixN (o.secs.take k)) ∧ Hid (Blk wr w.heap.size #[.slice sa n1 sc, .slice ya n2 yc] 26) ∧ Hid (From w.heap.size w wr)) (fun _ i _ => n1 - (intOf i).toNat)
  case atStart => exact ⟨0, Nat.zero_le _, rfl, by simp [fixN], HB0, (From.start w).alloc _⟩
  case round =>
    clear HB0
    obtain ⟨k, hk, rfl, rfl, HB, HF⟩ := hrel
    have cb := HB.out.cell
    have zb := HB.out.lt
    by_cases hlt : k < n1
    · obtain ⟨b, off, rfl, hc⟩ := HC.out (by have := HN1.out; omega)
      obtain ⟨vb, vf, hb, hf, c0, c1, c2, c3, c4, c5⟩ := hc k (by rw [HN1.out]; exact hlt)
      obtain ⟨ba, bc, rfl, -⟩ := hb.form
      obtain ⟨fa, fc, rfl, -⟩ := hf.form
      have hbl : b < w.heap.size := World.block_lt_of_cell? w _ c0
      have g0 := (HF.out.below.cell (p := ⟨b, off + k * 6, none⟩) hbl).trans c0
      have g1 := (HF.out.below.cell (p := ⟨b, off + k * 6 + 1, none⟩) hbl).trans c1
      have g2 := (HF.out.below.cell (p := ⟨b, off + k * 6 + 2, none⟩) hbl).trans c2
      have g3 := (HF.out.below.cell (p := ⟨b, off + k * 6 + 3, none⟩) hbl).trans c3
      have g4 := (HF.out.below.cell (p := ⟨b, off + k * 6 + 4, none⟩) hbl).trans c4
      have g5 := (HF.out.below.cell (p := ⟨b, off + k * 6 + 5, none⟩) hbl).trans c5
      have i1 : (k : Int) < (n1 : Int) := by omega
      have i3 : (0 : Int) ≤ (k : Int) := by omega
      have HT := Lib.hid (fixN_step o.secs k (by rw [HN1.out]; exact hlt))
      have q1 := objB_fixN HV.out k
      have q2 := (objB_sec HV.out (List.getElem_mem (l := o.secs) (by rw [HN1.out]; exact hlt))).fixl
      clear hc c0 c1 c2 c3 c4 c5 hb hf
      generalize o.secs[k]'(by rw [HN1.out]; exact hlt) = x at *
      obtain ⟨S, hS⟩ : ∃ S, fixN (o.secs.take k) = S := ⟨_, rfl⟩
      rw [hS] at HT q1 ⊢
      clear hS
      have HB2 := Lib.hid (HB.out.alloc (.cells #[.string x.name, .int .i64 x.kind, .int .i64 x.align, .slice ba x.bytes.length bc, .int .i64 x.size, .slice fa x.fix.length fc] 52))
      have HF2 := Lib.hid (HF.out.alloc (.cells #[.string x.name, .int .i64 x.kind, .int .i64 x.align, .slice ba x.bytes.length bc, .int .i64 x.size, .slice fa x.fix.length fc] 52))
      go_wp2_with fail
      go_roundw
      case rel => exact ⟨k + 1, by omega, by go_num, by rw [HT.out]; go_num, HB2, HF2⟩
      case measure => simp [intOf]; try omega
    · obtain rfl : n1 = k := by omega
      have E : Hid (fixN (o.secs.take n1) = fixN o.secs) := by show _ = _; rw [← HN1.out, List.take_length]
      obtain ⟨S, hS⟩ : ∃ S, fixN (o.secs.take n1) = S := ⟨_, rfl⟩
      rw [hS] at E ⊢
      clear hS
      go_wp2_with fail
      go_ret
      exact ⟨by rw [← E.out]; try rfl, HF.out.below⟩
set_option maxHeartbeats 2000000 in
theorem s_l6Fixups (w : World) (v : Value) (o : ObjD) (h : ObjAt w v o) (ho : objB o = true) :
    Calls Try.prog 30 #[v] w fun e w' => e = .returned (.int .i64 (fixN o.secs)) ∧ Below w.heap.size w w' := by
  obtain ⟨vs, vy, rfl, h1, h2⟩ := h
  have HH : Hid (SecsAt w vs o.secs ∧ SymsAt w vy o.syms) := ⟨h1, h2⟩
  obtain ⟨sa, sc, rfl, hcap, hmax, hnone, hcell⟩ := h1.form
  obtain ⟨ya, yc, rfl, hcap2, hmax2, hnone2, hcell2⟩ := h2.form
  have HC := Lib.hid hcell
  have HD := Lib.hid hcell2
  have hf1 := (objB_few ho).1
  have hf2 := (objB_few ho).2
  have HV := Lib.hid ho
  clear h1 h2 hcell hcell2 hnone hnone2 ho
  unfold maxLen at hmax hmax2
  obtain ⟨n1, hn1⟩ : ∃ n1, o.secs.length = n1 := ⟨_, rfl⟩
  obtain ⟨n2, hn2⟩ : ∃ n2, o.syms.length = n2 := ⟨_, rfl⟩
  have HN1 := Lib.hid hn1
  have HN2 := Lib.hid hn2
  rw [hn1] at hf1 hcap HH ⊢
  rw [hn2] at hf2 hcap2 HH ⊢
  clear hn1 hn2
  go_enter Try.func30, Try.ntmps30
  go_wp2_with fail
  have HB0 := Lib.hid (Blk.new w #[.slice sa n1 sc, .slice ya n2 yc] 26)
  go_loopw [3, 4] (fun q i wr => ∃ (k : Nat), k ≤ n1 ∧ i = .int .i64 k ∧ q = .int .i64 (fixN (o.secs.take k)) ∧ Hid (Blk wr w.heap.size #[.slice sa n1 sc, .slice ya n2 yc] 26) ∧ Hid (From w.heap.size w wr)) (fun _ i _ => n1 - (intOf i).toNat)
  case atStart => exact ⟨0, Nat.zero_le _, rfl, by simp [fixN], HB0, (From.start w).alloc _⟩
  case round =>
    clear HB0
    obtain ⟨k, hk, rfl, rfl, HB, HF⟩ := hrel
    have cb := HB.out.cell
    have zb := HB.out.lt
    by_cases hlt : k < n1
    · obtain ⟨b, off, rfl, hc⟩ := HC.out (by have := HN1.out; omega)
      obtain ⟨vb, vf, hb, hf, c0, c1, c2, c3, c4, c5⟩ := hc k (by rw [HN1.out]; exact hlt)
      obtain ⟨ba, bc, rfl, -⟩ := hb.form
      obtain ⟨fa, fc, rfl, -⟩ := hf.form
      have hbl : b < w.heap.size := World.block_lt_of_cell? w _ c0
      have g0 := (HF.out.below.cell (p := ⟨b, off + k * 6, none⟩) hbl).trans c0
      have g1 := (HF.out.below.cell (p := ⟨b, off + k * 6 + 1, none⟩) hbl).trans c1
      have g2 := (HF.out.below.cell (p := ⟨b, off + k * 6 + 2, none⟩) hbl).trans c2
      have g3 := (HF.out.below.cell (p := ⟨b, off + k * 6 + 3, none⟩) hbl).trans c3
      have g4 := (HF.out.below.cell (p := ⟨b, off + k * 6 + 4, none⟩) hbl).trans c4
      have g5 := (HF.out.below.cell (p := ⟨b, off + k * 6 + 5, none⟩) hbl).trans c5
      have i1 : (k : Int) < (n1 : Int) := by omega
      have i3 : (0 : Int) ≤ (k : Int) := by omega
      have HT := Lib.hid (fixN_step o.secs k (by rw [HN1.out]; exact hlt))
      have q1 := objB_fixN HV.out k
      have q2 := (objB_sec HV.out (List.getElem_mem (l := o.secs) (by rw [HN1.out]; exact hlt))).fixl
      clear hc c0 c1 c2 c3 c4 c5 hb hf
      generalize o.secs[k]'(by rw [HN1.out]; exact hlt) = x at *
      obtain ⟨S, hS⟩ : ∃ S, fixN (o.secs.take k) = S := ⟨_, rfl⟩
      rw [hS] at HT q1 ⊢
      clear hS
      go_wp2_with fail
      go_roundw
      case rel => exact ⟨k + 1, by omega, by go_num, by rw [HT.out]; go_num, HB, HF⟩
      case measure => simp [intOf]; try omega
    · obtain rfl : n1 = k := by omega
      have E : Hid (fixN (o.secs.take n1) = fixN o.secs) := by show _ = _; rw [← HN1.out, List.take_length]
      obtain ⟨S, hS⟩ : ∃ S, fixN (o.secs.take n1) = S := ⟨_, rfl⟩
      rw [hS] at E ⊢
      clear hS
      go_wp2_with fail
      go_ret
      exact ⟨by rw [← E.out]; try rfl, HF.out.below⟩
/-! LenO -/
open Go.ChangeShapes Go.WideShapes Go.ChangeAt Go.RowKit Go.Joins
set_option linter.unusedSimpArgs false
set_option linter.unusedVariables false
set_option maxRecDepth 100000
/-- How many bytes an object has. -/
def lenO (o : ObjD) : Int := if objB o = true then 10 + 6 * (o.secs.length : Int) + 6 * (o.syms.length : Int) + 5 * (fixN o.secs : Int) + ((tableL (allNames o)).length : Int) + (bytN o.secs : Int) else 0
set_option maxHeartbeats 4000000 in
theorem i_ObjectLength (w : World) (v : Value) (o : ObjD) (h : ObjAt w v o) (hs : (∀ s ∈ o.secs, s.name.size ≤ maxLen) ∧ ∀ s ∈ o.syms, s.name.size ≤ maxLen) :
    Calls Try.prog 13 #[v] w fun e w' => e = .returned (.int .i64 (lenO o)) ∧ Below w.heap.size w w' := by
  have HO := Lib.hid h
  obtain ⟨vs, vy, rfl, h1, h2⟩ := h
  obtain ⟨sa, sc, rfl, hcap, hmax, hnone, hcell⟩ := h1.form
  obtain ⟨ya, yc, rfl, hcap2, hmax2, hnone2, hcell2⟩ := h2.form
  have HC := Lib.hid hcell
  have HN0 := Lib.hid hs
  clear h1 h2 hcell hcell2 hnone hnone2 hs
  unfold maxLen at hmax hmax2
  obtain ⟨n1, hn1⟩ : ∃ n1, o.secs.length = n1 := ⟨_, rfl⟩
  obtain ⟨n2, hn2⟩ : ∃ n2, o.syms.length = n2 := ⟨_, rfl⟩
  have HN1 := Lib.hid hn1
  have HN2 := Lib.hid hn2
  rw [hn1] at hcap HO ⊢
  rw [hn2] at hcap2 HO ⊢
  clear hn1 hn2
  cases hq : objB o
  · have E : Hid (lenO o = 0) := by show _ = _; unfold lenO; rw [hq]; rfl
    go_enter Try.func13, Try.ntmps13
    go_wp2_with fail
    refine (i_ObjectValid _ _ o (HO.out.below (Nat.le_refl _) ((From.start w).alloc _).below) HN0.out).mono ?_
    rw [hq]
    rintro e w2 ⟨rfl, k2⟩
    have HF2 := Lib.hid (((From.start w).alloc _).call k2)
    clear k2 hq
    go_wp2_with fail
    go_ret
    exact ⟨by rw [E.out]; try rfl, HF2.out.below⟩
  have HV := Lib.hid hq
  have hf1 := (objB_few hq).1
  have hf2 := (objB_few hq).2
  rw [HN1.out] at hf1
  rw [HN2.out] at hf2
  have ht := tableL_length (allNames o)
  obtain ⟨tl, htl⟩ : ∃ tl, (tableL (allNames o)).length = tl := ⟨_, rfl⟩
  rw [htl] at ht
  have hx := objB_fixN hq n1
  rw [← HN1.out, List.take_length] at hx
  obtain ⟨FN, hFN⟩ : ∃ FN, fixN o.secs = FN := ⟨_, rfl⟩
  rw [hFN] at hx
  have HTL := Lib.hid htl
  have HFN := Lib.hid hFN
  have HS : Hid ((∀ s ∈ o.secs, s.name.size ≤ maxLen) ∧ ∀ s ∈ o.syms, s.name.size ≤ maxLen) := HN0.out
  have HAL : Hid ((allNames o).length = n1 + n2) := by show _ = _; rw [allNames_length, HN1.out, HN2.out]
  have E : Hid (lenO o = 10 + 6 * (n1 : Int) + 6 * (n2 : Int) + 5 * (FN : Int) + (tl : Int) + (bytN o.secs : Int)) := by show _ = _; unfold lenO; rw [hq, if_pos rfl, HN1.out, HN2.out, hFN, htl]
  clear htl hFN
  go_enter Try.func13, Try.ntmps13
  go_wp2_with fail
  refine (i_ObjectValid _ _ o (HO.out.below (Nat.le_refl _) ((From.start w).alloc _).below) HN0.out).mono ?_
  rw [hq]
  rintro e w2 ⟨rfl, k2⟩
  have HF2 := Lib.hid (((From.start w).alloc _).call k2)
  have HB2 := Lib.hid ((Blk.new w #[.slice sa n1 sc, .slice ya n2 yc] 26).call k2)
  clear k2 hq
  go_wp2_with fail
  let f : Nat → Value := fun i => match i with
        | 0 => .pointer (some ⟨w.heap.size, 0, none⟩)
        | 1 => .slice sa n1 sc
        | 2 => .int .i64 ((n1 : Int))
        | 3 => .int .i64 (6 * (n1 : Int))
        | 4 => .int .i64 (10 + (6 * (n1 : Int)))
        | 5 => .pointer (some ⟨w.heap.size, 1, none⟩)
        | 6 => .slice ya n2 yc
        | 7 => .int .i64 ((n2 : Int))
        | 8 => .int .i64 (6 * (n2 : Int))
        | 9 => .int .i64 (10 + (6 * (n1 : Int)) + 6 * (n2 : Int))
        | 10 => .agg #[.slice sa n1 sc, .slice ya n2 yc]
        | 11 => .int .i64 ((FN : Int))
        | 12 => .int .i64 (5 * (FN : Int))
        | 13 => .int .i64 (10 + (6 * (n1 : Int)) + 6 * (n2 : Int) + 5 * (FN : Int))
        | 14 => .agg #[.slice sa n1 sc, .slice ya n2 yc]
        | 16 => .int .i64 ((tl : Int))
        | 17 => .int .i64 (10 + (6 * (n1 : Int)) + 6 * (n2 : Int) + 5 * (FN : Int) + (tl : Int))
        | 18 => .int .i64 (10 + (6 * (n1 : Int)) + 6 * (n2 : Int) + 5 * (FN : Int) + (tl : Int))
        | _ => undef
  refine wp_region_go (fun i v u => (i = 15 → ∃ a c, v = .slice a tl c) ∧ (i ≠ 15 → v = f i)) (fun _ u => From w2.heap.size w2 u) (fun u u' => Below u.heap.size u u') [[], [0], [1], [2], [3], [], [5], [6], [7], [4, 8], [], [10], [11], [9, 12], [], [14], [15], [13, 16], [17]] (by kernel_rfl) (by kernel_rfl) (by kernel_rfl) (by kernel_rfl) (From.drew (From.start w2)) (fun i v u u' h hb => h) ?ho ?hq
  case ho =>
        refine ⟨?_, ?_, ?_, ?_, ?_, ?_, ?_, ?_, ?_, ?_, ?_, ?_, ?_, ?_, ?_, ?_, ?_, ?_, ?_, trivial⟩
        · intro n A u K hfr _ hS hv' hK
          have eA9 : A.tmps.getD 1 undef = .pointer (some ⟨w.heap.size, 0, none⟩) := hfr 1 (not_dst (by kernel_rfl))
          have eB9 : (A.tmps[1]?).getD undef = .pointer (some ⟨w.heap.size, 0, none⟩) := by simpa using eA9
          refine owe_run rfl (wp_val (v := .pointer (some ⟨w.heap.size, 0, none⟩)) ?_ (hK _ _ hS (Below.refl _ _) (fun _ => ⟨fun e => absurd e (by decide), fun _ => rfl⟩)))
          first
            | (go_simp; done)
            | (go_simp; rfl)
        · intro n A u K hfr _ hS hv' hK
          have eA0 : A.tmps.getD 9 undef = .pointer (some ⟨w.heap.size, 0, none⟩) := hv'.1.2 (by decide)
          have eB0 : (A.tmps[9]?).getD undef = .pointer (some ⟨w.heap.size, 0, none⟩) := by simpa using eA0
          have cu := (HB2.out.call hS.below).cell
          refine owe_run rfl (wp_val (v := .slice sa n1 sc) ?_ (hK _ _ hS (Below.refl _ _) (fun _ => ⟨fun e => absurd e (by decide), fun _ => rfl⟩)))
          first
            | (go_simp; done)
            | (go_simp; rfl)
        · intro n A u K hfr _ hS hv' hK
          have eA0 : A.tmps.getD 10 undef = .slice sa n1 sc := hv'.1.2 (by decide)
          have eB0 : (A.tmps[10]?).getD undef = .slice sa n1 sc := by simpa using eA0
          refine owe_run rfl (wp_val (v := .int .i64 ((n1 : Int))) ?_ (hK _ _ hS (Below.refl _ _) (fun _ => ⟨fun e => absurd e (by decide), fun _ => rfl⟩)))
          first
            | (go_simp; done)
            | (go_simp; rfl)
        · intro n A u K hfr _ hS hv' hK
          have eA0 : A.tmps.getD 11 undef = .int .i64 ((n1 : Int)) := hv'.1.2 (by decide)
          have eB0 : (A.tmps[11]?).getD undef = .int .i64 ((n1 : Int)) := by simpa using eA0
          have ew : IntKind.i64.wrap (6 * (n1 : Int)) = 6 * (n1 : Int) := IntWalk.i64_in _ (by omega)
          refine owe_run rfl (wp_val (v := .int .i64 (6 * (n1 : Int))) ?_ (hK _ _ hS (Below.refl _ _) (fun _ => ⟨fun e => absurd e (by decide), fun _ => rfl⟩)))
          first
            | (go_simp; done)
            | (go_simp; rfl)
        · intro n A u K hfr _ hS hv' hK
          have eA0 : A.tmps.getD 12 undef = .int .i64 (6 * (n1 : Int)) := hv'.1.2 (by decide)
          have eB0 : (A.tmps[12]?).getD undef = .int .i64 (6 * (n1 : Int)) := by simpa using eA0
          have ew : IntKind.i64.wrap (10 + (6 * (n1 : Int))) = 10 + (6 * (n1 : Int)) := IntWalk.i64_in _ (by omega)
          refine owe_run rfl (wp_val (v := .int .i64 (10 + (6 * (n1 : Int)))) ?_ (hK _ _ hS (Below.refl _ _) (fun _ => ⟨fun e => absurd e (by decide), fun _ => rfl⟩)))
          first
            | (go_simp; done)
            | (go_simp; rfl)
        · intro n A u K hfr _ hS hv' hK
          have eA9 : A.tmps.getD 1 undef = .pointer (some ⟨w.heap.size, 0, none⟩) := hfr 1 (not_dst (by kernel_rfl))
          have eB9 : (A.tmps[1]?).getD undef = .pointer (some ⟨w.heap.size, 0, none⟩) := by simpa using eA9
          refine owe_run rfl (wp_val (v := .pointer (some ⟨w.heap.size, 1, none⟩)) ?_ (hK _ _ hS (Below.refl _ _) (fun _ => ⟨fun e => absurd e (by decide), fun _ => rfl⟩)))
          first
            | (go_simp; done)
            | (go_simp; rfl)
        · intro n A u K hfr _ hS hv' hK
          have eA0 : A.tmps.getD 14 undef = .pointer (some ⟨w.heap.size, 1, none⟩) := hv'.1.2 (by decide)
          have eB0 : (A.tmps[14]?).getD undef = .pointer (some ⟨w.heap.size, 1, none⟩) := by simpa using eA0
          have cu := (HB2.out.call hS.below).cell
          refine owe_run rfl (wp_val (v := .slice ya n2 yc) ?_ (hK _ _ hS (Below.refl _ _) (fun _ => ⟨fun e => absurd e (by decide), fun _ => rfl⟩)))
          first
            | (go_simp; done)
            | (go_simp; rfl)
        · intro n A u K hfr _ hS hv' hK
          have eA0 : A.tmps.getD 15 undef = .slice ya n2 yc := hv'.1.2 (by decide)
          have eB0 : (A.tmps[15]?).getD undef = .slice ya n2 yc := by simpa using eA0
          refine owe_run rfl (wp_val (v := .int .i64 ((n2 : Int))) ?_ (hK _ _ hS (Below.refl _ _) (fun _ => ⟨fun e => absurd e (by decide), fun _ => rfl⟩)))
          first
            | (go_simp; done)
            | (go_simp; rfl)
        · intro n A u K hfr _ hS hv' hK
          have eA0 : A.tmps.getD 16 undef = .int .i64 ((n2 : Int)) := hv'.1.2 (by decide)
          have eB0 : (A.tmps[16]?).getD undef = .int .i64 ((n2 : Int)) := by simpa using eA0
          have ew : IntKind.i64.wrap (6 * (n2 : Int)) = 6 * (n2 : Int) := IntWalk.i64_in _ (by omega)
          refine owe_run rfl (wp_val (v := .int .i64 (6 * (n2 : Int))) ?_ (hK _ _ hS (Below.refl _ _) (fun _ => ⟨fun e => absurd e (by decide), fun _ => rfl⟩)))
          first
            | (go_simp; done)
            | (go_simp; rfl)
        · intro n A u K hfr _ hS hv' hK
          have eA0 : A.tmps.getD 13 undef = .int .i64 (10 + (6 * (n1 : Int))) := hv'.1.2 (by decide)
          have eB0 : (A.tmps[13]?).getD undef = .int .i64 (10 + (6 * (n1 : Int))) := by simpa using eA0
          have eA1 : A.tmps.getD 17 undef = .int .i64 (6 * (n2 : Int)) := hv'.2.1.2 (by decide)
          have eB1 : (A.tmps[17]?).getD undef = .int .i64 (6 * (n2 : Int)) := by simpa using eA1
          have ew : IntKind.i64.wrap (10 + (6 * (n1 : Int)) + 6 * (n2 : Int)) = 10 + (6 * (n1 : Int)) + 6 * (n2 : Int) := IntWalk.i64_in _ (by omega)
          refine owe_run rfl (wp_val (v := .int .i64 (10 + (6 * (n1 : Int)) + 6 * (n2 : Int))) ?_ (hK _ _ hS (Below.refl _ _) (fun _ => ⟨fun e => absurd e (by decide), fun _ => rfl⟩)))
          first
            | (go_simp; done)
            | (go_simp; rfl)
        · intro n A u K hfr _ hS hv' hK
          have eA9 : A.tmps.getD 1 undef = .pointer (some ⟨w.heap.size, 0, none⟩) := hfr 1 (not_dst (by kernel_rfl))
          have eB9 : (A.tmps[1]?).getD undef = .pointer (some ⟨w.heap.size, 0, none⟩) := by simpa using eA9
          have cu := (HB2.out.call hS.below).cell
          refine owe_run rfl (wp_val (v := .agg #[.slice sa n1 sc, .slice ya n2 yc]) ?_ (hK _ _ hS (Below.refl _ _) (fun _ => ⟨fun e => absurd e (by decide), fun _ => rfl⟩)))
          first
            | (go_simp; done)
            | (go_simp; rfl)
        · intro n A u K hfr _ hS hv' hK
          have eA0 : A.tmps.getD 19 undef = .agg #[.slice sa n1 sc, .slice ya n2 yc] := hv'.1.2 (by decide)
          have eB0 : (A.tmps[19]?).getD undef = .agg #[.slice sa n1 sc, .slice ya n2 yc] := by simpa using eA0
          refine owe_run rfl (wp_fn rfl (args1 eA0) (enter_fn Try.func23 (by kernel_rfl) rfl _ _) ((i_fixupsOf u _ o (HO.out.below (Nat.le_refl _) (HF2.out.below.trans (hS.below.mono HF2.out.le))) HV.out).mono ?_))
          rw [HFN.out]
          rintro e u1 ⟨rfl, k1⟩
          exact ⟨_, rfl, hK _ _ (hS.call k1) k1 (fun _ => ⟨fun e => absurd e (by decide), fun _ => rfl⟩)⟩
        · intro n A u K hfr _ hS hv' hK
          have eA0 : A.tmps.getD 20 undef = .int .i64 ((FN : Int)) := hv'.1.2 (by decide)
          have eB0 : (A.tmps[20]?).getD undef = .int .i64 ((FN : Int)) := by simpa using eA0
          have ew : IntKind.i64.wrap (5 * (FN : Int)) = 5 * (FN : Int) := IntWalk.i64_in _ (by omega)
          refine owe_run rfl (wp_val (v := .int .i64 (5 * (FN : Int))) ?_ (hK _ _ hS (Below.refl _ _) (fun _ => ⟨fun e => absurd e (by decide), fun _ => rfl⟩)))
          first
            | (go_simp; done)
            | (go_simp; rfl)
        · intro n A u K hfr _ hS hv' hK
          have eA0 : A.tmps.getD 18 undef = .int .i64 (10 + (6 * (n1 : Int)) + 6 * (n2 : Int)) := hv'.1.2 (by decide)
          have eB0 : (A.tmps[18]?).getD undef = .int .i64 (10 + (6 * (n1 : Int)) + 6 * (n2 : Int)) := by simpa using eA0
          have eA1 : A.tmps.getD 21 undef = .int .i64 (5 * (FN : Int)) := hv'.2.1.2 (by decide)
          have eB1 : (A.tmps[21]?).getD undef = .int .i64 (5 * (FN : Int)) := by simpa using eA1
          have ew : IntKind.i64.wrap (10 + (6 * (n1 : Int)) + 6 * (n2 : Int) + 5 * (FN : Int)) = 10 + (6 * (n1 : Int)) + 6 * (n2 : Int) + 5 * (FN : Int) := IntWalk.i64_in _ (by omega)
          refine owe_run rfl (wp_val (v := .int .i64 (10 + (6 * (n1 : Int)) + 6 * (n2 : Int) + 5 * (FN : Int))) ?_ (hK _ _ hS (Below.refl _ _) (fun _ => ⟨fun e => absurd e (by decide), fun _ => rfl⟩)))
          first
            | (go_simp; done)
            | (go_simp; rfl)
        · intro n A u K hfr _ hS hv' hK
          have eA9 : A.tmps.getD 1 undef = .pointer (some ⟨w.heap.size, 0, none⟩) := hfr 1 (not_dst (by kernel_rfl))
          have eB9 : (A.tmps[1]?).getD undef = .pointer (some ⟨w.heap.size, 0, none⟩) := by simpa using eA9
          have cu := (HB2.out.call hS.below).cell
          refine owe_run rfl (wp_val (v := .agg #[.slice sa n1 sc, .slice ya n2 yc]) ?_ (hK _ _ hS (Below.refl _ _) (fun _ => ⟨fun e => absurd e (by decide), fun _ => rfl⟩)))
          first
            | (go_simp; done)
            | (go_simp; rfl)
        · intro n A u K hfr _ hS hv' hK
          have eA0 : A.tmps.getD 23 undef = .agg #[.slice sa n1 sc, .slice ya n2 yc] := hv'.1.2 (by decide)
          have eB0 : (A.tmps[23]?).getD undef = .agg #[.slice sa n1 sc, .slice ya n2 yc] := by simpa using eA0
          refine owe_run rfl (wp_fn rfl (args1 eA0) (enter_fn Try.func21 (by kernel_rfl) rfl _ _) ((i_tableOf u _ o (HO.out.below (Nat.le_refl _) (HF2.out.below.trans (hS.below.mono HF2.out.le))) HV.out HS.out).mono ?_))
          rintro e u1 ⟨r5, rfl, o5, k1⟩
          obtain ⟨ra, rc, rfl⟩ := owns_form o5
          exact ⟨_, rfl, hK _ _ (hS.call k1) k1 (fun _ => ⟨fun _ => ⟨ra, rc, by rw [HTL.out]⟩, fun e => absurd rfl e⟩)⟩
        · intro n A u K hfr _ hS hv' hK
          obtain ⟨a5, c5, eA9⟩ := hv'.1.1 rfl
          have eB9 : (A.tmps[24]?).getD undef = .slice a5 tl c5 := by simpa using eA9
          refine owe_run rfl (wp_val (v := .int .i64 ((tl : Int))) ?_ (hK _ _ hS (Below.refl _ _) (fun _ => ⟨fun e => absurd e (by decide), fun _ => rfl⟩)))
          first
            | (go_simp; done)
            | (go_simp; rfl)
        · intro n A u K hfr _ hS hv' hK
          have eA0 : A.tmps.getD 22 undef = .int .i64 (10 + (6 * (n1 : Int)) + 6 * (n2 : Int) + 5 * (FN : Int)) := hv'.1.2 (by decide)
          have eB0 : (A.tmps[22]?).getD undef = .int .i64 (10 + (6 * (n1 : Int)) + 6 * (n2 : Int) + 5 * (FN : Int)) := by simpa using eA0
          have eA1 : A.tmps.getD 25 undef = .int .i64 ((tl : Int)) := hv'.2.1.2 (by decide)
          have eB1 : (A.tmps[25]?).getD undef = .int .i64 ((tl : Int)) := by simpa using eA1
          have ew : IntKind.i64.wrap (10 + (6 * (n1 : Int)) + 6 * (n2 : Int) + 5 * (FN : Int) + (tl : Int)) = 10 + (6 * (n1 : Int)) + 6 * (n2 : Int) + 5 * (FN : Int) + (tl : Int) := IntWalk.i64_in _ (by omega)
          refine owe_run rfl (wp_val (v := .int .i64 (10 + (6 * (n1 : Int)) + 6 * (n2 : Int) + 5 * (FN : Int) + (tl : Int))) ?_ (hK _ _ hS (Below.refl _ _) (fun _ => ⟨fun e => absurd e (by decide), fun _ => rfl⟩)))
          first
            | (go_simp; done)
            | (go_simp; rfl)
        · intro n A u K hfr _ hS hv' hK
          have eA0 : A.tmps.getD 26 undef = .int .i64 (10 + (6 * (n1 : Int)) + 6 * (n2 : Int) + 5 * (FN : Int) + (tl : Int)) := hv'.1.2 (by decide)
          have eB0 : (A.tmps[26]?).getD undef = .int .i64 (10 + (6 * (n1 : Int)) + 6 * (n2 : Int) + 5 * (FN : Int) + (tl : Int)) := by simpa using eA0
          refine owe_run rfl (wp_val (v := .int .i64 (10 + (6 * (n1 : Int)) + 6 * (n2 : Int) + 5 * (FN : Int) + (tl : Int))) ?_ (hK _ _ hS (Below.refl _ _) (fun _ => ⟨fun e => absurd e (by decide), fun _ => rfl⟩)))
          first
            | (go_simp; done)
            | (go_simp; rfl)
  case hq =>
    intro g u hS hV
    obtain ⟨e0, e1, e2, e3, e4, e5, e6, e7, e8, e9, e10, e11, e12, e13, e14, e15, e16, e17, e18, -⟩ := hV
    have eg := e18.2 (by decide)
    simp only [List.map, putG, eg, f, List.setIfInBounds_toArray, List.set_cons_zero, List.set_cons_succ]
    have HF3 := Lib.hid (HF2.out.trans (hS.below.mono HF2.out.le))
    have HB3 := Lib.hid (HB2.out.call hS.below)
    clear hS e0 e1 e2 e3 e4 e5 e6 e7 e8 e9 e10 e11 e12 e13 e14 e15 e16 e17 e18 eg HB2 HF2
    have cb := HB3.out.cell
    have zb := HB3.out.lt
    obtain ⟨B0, hB0⟩ : ∃ B0 : Int, 10 + (6 * (n1 : Int)) + 6 * (n2 : Int) + 5 * (FN : Int) + (tl : Int) = B0 := ⟨_, rfl⟩
    have hb0 : 0 ≤ B0 ∧ B0 ≤ 1000 := by omega
    have HB0 : Hid (10 + 6 * (n1 : Int) + 6 * (n2 : Int) + 5 * (FN : Int) + (tl : Int) = B0) := by show _ = _; omega
    rw [hB0]
    clear hB0
    go_wp2_with fail
    go_loopw [3, 30] (fun q i wr => ∃ (k : Nat), k ≤ n1 ∧ i = .int .i64 k ∧ q = .int .i64 (B0 + (bytN (o.secs.take k) : Int)) ∧ Hid (Blk wr w.heap.size #[.slice sa n1 sc, .slice ya n2 yc] 26) ∧ Hid (From w.heap.size w wr)) (fun _ i _ => n1 - (intOf i).toNat)
    case atStart => exact ⟨0, Nat.zero_le _, rfl, by simp [bytN], HB3, HF3⟩
    case round =>
      clear HB3 HF3 cb zb
      obtain ⟨k, hk, rfl, rfl, HB, HF⟩ := hrel
      have cb := HB.out.cell
      have zb := HB.out.lt
      by_cases hlt : k < n1
      · obtain ⟨b, off, rfl, hc⟩ := HC.out (by have := HN1.out; omega)
        obtain ⟨vb, vf, hb, hf, c0, c1, c2, c3, c4, c5⟩ := hc k (by rw [HN1.out]; exact hlt)
        obtain ⟨ba, bc, rfl, -⟩ := hb.form
        obtain ⟨fa, fc, rfl, -⟩ := hf.form
        have hbl : b < w.heap.size := World.block_lt_of_cell? w _ c0
        have g0 := (HF.out.below.cell (p := ⟨b, off + k * 6, none⟩) hbl).trans c0
        have g1 := (HF.out.below.cell (p := ⟨b, off + k * 6 + 1, none⟩) hbl).trans c1
        have g2 := (HF.out.below.cell (p := ⟨b, off + k * 6 + 2, none⟩) hbl).trans c2
        have g3 := (HF.out.below.cell (p := ⟨b, off + k * 6 + 3, none⟩) hbl).trans c3
        have g4 := (HF.out.below.cell (p := ⟨b, off + k * 6 + 4, none⟩) hbl).trans c4
        have g5 := (HF.out.below.cell (p := ⟨b, off + k * 6 + 5, none⟩) hbl).trans c5
        have i1 : (k : Int) < (n1 : Int) := by omega
        have i3 : (0 : Int) ≤ (k : Int) := by omega
        have HT := Lib.hid (bytN_step o.secs k (by rw [HN1.out]; exact hlt))
        have q1 := objB_bytN HV.out k
        have q2 := (objB_sec HV.out (List.getElem_mem (l := o.secs) (by rw [HN1.out]; exact hlt))).bytes
        clear hc c0 c1 c2 c3 c4 c5 hb hf
        generalize o.secs[k]'(by rw [HN1.out]; exact hlt) = x at *
        obtain ⟨S, hS⟩ : ∃ S, bytN (o.secs.take k) = S := ⟨_, rfl⟩
        rw [hS] at HT q1 ⊢
        clear hS
        have HB3 := Lib.hid (HB.out.alloc (.cells #[.string x.name, .int .i64 x.kind, .int .i64 x.align, .slice ba x.bytes.length bc, .int .i64 x.size, .slice fa x.fix.length fc] 52))
        have HF3 := Lib.hid (HF.out.alloc (.cells #[.string x.name, .int .i64 x.kind, .int .i64 x.align, .slice ba x.bytes.length bc, .int .i64 x.size, .slice fa x.fix.length fc] 52))
        go_wp2_with fail
        go_roundw
        case rel => exact ⟨k + 1, by omega, by go_num, by rw [HT.out]; go_num, HB3, HF3⟩
        case measure => simp [intOf]; try omega
      · obtain rfl : n1 = k := by omega
        have E2 : Hid (lenO o = B0 + (bytN (o.secs.take n1) : Int)) := by
          show _ = _
          rw [E.out, HB0.out, ← HN1.out, List.take_length]
        obtain ⟨S, hS⟩ : ∃ S, B0 + (bytN (o.secs.take n1) : Int) = S := ⟨_, rfl⟩
        rw [hS] at E2 ⊢
        clear hS
        go_wp2_with fail
        go_ret
        exact ⟨by rw [E2.out]; try rfl, HF.out.below⟩
set_option maxHeartbeats 4000000 in
theorem s_ObjectLength (w : World) (v : Value) (o : ObjD) (h : ObjAt w v o) (hs : (∀ s ∈ o.secs, s.name.size ≤ maxLen) ∧ ∀ s ∈ o.syms, s.name.size ≤ maxLen) :
    Calls Try.prog 15 #[v] w fun e w' => e = .returned (.int .i64 (lenO o)) ∧ Below w.heap.size w w' := by
  have HO := Lib.hid h
  obtain ⟨vs, vy, rfl, h1, h2⟩ := h
  obtain ⟨sa, sc, rfl, hcap, hmax, hnone, hcell⟩ := h1.form
  obtain ⟨ya, yc, rfl, hcap2, hmax2, hnone2, hcell2⟩ := h2.form
  have HC := Lib.hid hcell
  have HN0 := Lib.hid hs
  clear h1 h2 hcell hcell2 hnone hnone2 hs
  unfold maxLen at hmax hmax2
  obtain ⟨n1, hn1⟩ : ∃ n1, o.secs.length = n1 := ⟨_, rfl⟩
  obtain ⟨n2, hn2⟩ : ∃ n2, o.syms.length = n2 := ⟨_, rfl⟩
  have HN1 := Lib.hid hn1
  have HN2 := Lib.hid hn2
  rw [hn1] at hcap HO ⊢
  rw [hn2] at hcap2 HO ⊢
  clear hn1 hn2
  cases hq : objB o
  · have E : Hid (lenO o = 0) := by show _ = _; unfold lenO; rw [hq]; rfl
    go_enter Try.func15, Try.ntmps15
    go_wp2_with fail
    refine (s_ObjectValid _ _ o (HO.out.below (Nat.le_refl _) ((From.start w).alloc _).below) HN0.out).mono ?_
    rw [hq]
    rintro e w2 ⟨rfl, k2⟩
    have HF2 := Lib.hid (((From.start w).alloc _).call k2)
    clear k2 hq
    go_wp2_with fail
    go_ret
    exact ⟨by rw [E.out]; try rfl, HF2.out.below⟩
  have HV := Lib.hid hq
  have hf1 := (objB_few hq).1
  have hf2 := (objB_few hq).2
  rw [HN1.out] at hf1
  rw [HN2.out] at hf2
  have ht := tableL_length (allNames o)
  obtain ⟨tl, htl⟩ : ∃ tl, (tableL (allNames o)).length = tl := ⟨_, rfl⟩
  rw [htl] at ht
  have hx := objB_fixN hq n1
  rw [← HN1.out, List.take_length] at hx
  obtain ⟨FN, hFN⟩ : ∃ FN, fixN o.secs = FN := ⟨_, rfl⟩
  rw [hFN] at hx
  have HTL := Lib.hid htl
  have HFN := Lib.hid hFN
  have HS : Hid (∀ s ∈ allNames o, s.size ≤ maxLen) := fun s hs => by
    rcases List.mem_append.1 hs with hs | hs
    · obtain ⟨y, hy, rfl⟩ := List.mem_map.1 hs; exact HN0.out.1 y hy
    · obtain ⟨y, hy, rfl⟩ := List.mem_map.1 hs; exact HN0.out.2 y hy
  have HAL : Hid ((allNames o).length = n1 + n2) := by show _ = _; rw [allNames_length, HN1.out, HN2.out]
  have E : Hid (lenO o = 10 + 6 * (n1 : Int) + 6 * (n2 : Int) + 5 * (FN : Int) + (tl : Int) + (bytN o.secs : Int)) := by show _ = _; unfold lenO; rw [hq, if_pos rfl, HN1.out, HN2.out, hFN, htl]
  clear htl hFN
  go_enter Try.func15, Try.ntmps15
  go_wp2_with fail
  refine (s_ObjectValid _ _ o (HO.out.below (Nat.le_refl _) ((From.start w).alloc _).below) HN0.out).mono ?_
  rw [hq]
  rintro e w2 ⟨rfl, k2⟩
  have HF2 := Lib.hid (((From.start w).alloc _).call k2)
  have HB2 := Lib.hid ((Blk.new w #[.slice sa n1 sc, .slice ya n2 yc] 26).call k2)
  clear k2 hq
  go_wp2_with fail
  let f : Nat → Value := fun i => match i with
        | 0 => .pointer (some ⟨w.heap.size, 0, none⟩)
        | 1 => .slice sa n1 sc
        | 2 => .int .i64 ((n1 : Int))
        | 3 => .int .i64 (6 * (n1 : Int))
        | 4 => .int .i64 (10 + (6 * (n1 : Int)))
        | 5 => .pointer (some ⟨w.heap.size, 1, none⟩)
        | 6 => .slice ya n2 yc
        | 7 => .int .i64 ((n2 : Int))
        | 8 => .int .i64 (6 * (n2 : Int))
        | 9 => .int .i64 (10 + (6 * (n1 : Int)) + 6 * (n2 : Int))
        | 10 => .agg #[.slice sa n1 sc, .slice ya n2 yc]
        | 11 => .int .i64 ((FN : Int))
        | 12 => .int .i64 (5 * (FN : Int))
        | 13 => .int .i64 (10 + (6 * (n1 : Int)) + 6 * (n2 : Int) + 5 * (FN : Int))
        | 14 => .agg #[.slice sa n1 sc, .slice ya n2 yc]
        | 17 => .int .i64 ((tl : Int))
        | 18 => .int .i64 (10 + (6 * (n1 : Int)) + 6 * (n2 : Int) + 5 * (FN : Int) + (tl : Int))
        | 19 => .int .i64 (10 + (6 * (n1 : Int)) + 6 * (n2 : Int) + 5 * (FN : Int) + (tl : Int))
        | _ => undef
  refine wp_region_go (fun i v u => (i = 15 → StrsAt u v (allNames o)) ∧ (i = 16 → ∃ a c, v = .slice a tl c) ∧ (i ≠ 15 → i ≠ 16 → v = f i)) (fun _ u => From w2.heap.size w2 u) (fun u u' => Below u.heap.size u u') [[], [0], [1], [2], [3], [], [5], [6], [7], [4, 8], [], [10], [11], [9, 12], [], [14], [15], [16], [13, 17], [18]] (by kernel_rfl) (by kernel_rfl) (by kernel_rfl) (by kernel_rfl) (From.drew (From.start w2)) (fun i v u u' h hb => ⟨fun e => (h.1 e).below (Nat.le_refl _) hb, h.2.1, h.2.2⟩) ?ho ?hq
  case ho =>
        refine ⟨?_, ?_, ?_, ?_, ?_, ?_, ?_, ?_, ?_, ?_, ?_, ?_, ?_, ?_, ?_, ?_, ?_, ?_, ?_, ?_, trivial⟩
        · intro n A u K hfr _ hS hv' hK
          have eA9 : A.tmps.getD 1 undef = .pointer (some ⟨w.heap.size, 0, none⟩) := hfr 1 (not_dst (by kernel_rfl))
          have eB9 : (A.tmps[1]?).getD undef = .pointer (some ⟨w.heap.size, 0, none⟩) := by simpa using eA9
          refine owe_run rfl (wp_val (v := .pointer (some ⟨w.heap.size, 0, none⟩)) ?_ (hK _ _ hS (Below.refl _ _) (fun _ => ⟨fun e => absurd e (by decide), fun e => absurd e (by decide), fun _ _ => rfl⟩)))
          first
            | (go_simp; done)
            | (go_simp; rfl)
        · intro n A u K hfr _ hS hv' hK
          have eA0 : A.tmps.getD 8 undef = .pointer (some ⟨w.heap.size, 0, none⟩) := hv'.1.2.2 (by decide) (by decide)
          have eB0 : (A.tmps[8]?).getD undef = .pointer (some ⟨w.heap.size, 0, none⟩) := by simpa using eA0
          have cu := (HB2.out.call hS.below).cell
          refine owe_run rfl (wp_val (v := .slice sa n1 sc) ?_ (hK _ _ hS (Below.refl _ _) (fun _ => ⟨fun e => absurd e (by decide), fun e => absurd e (by decide), fun _ _ => rfl⟩)))
          first
            | (go_simp; done)
            | (go_simp; rfl)
        · intro n A u K hfr _ hS hv' hK
          have eA0 : A.tmps.getD 9 undef = .slice sa n1 sc := hv'.1.2.2 (by decide) (by decide)
          have eB0 : (A.tmps[9]?).getD undef = .slice sa n1 sc := by simpa using eA0
          refine owe_run rfl (wp_val (v := .int .i64 ((n1 : Int))) ?_ (hK _ _ hS (Below.refl _ _) (fun _ => ⟨fun e => absurd e (by decide), fun e => absurd e (by decide), fun _ _ => rfl⟩)))
          first
            | (go_simp; done)
            | (go_simp; rfl)
        · intro n A u K hfr _ hS hv' hK
          have eA0 : A.tmps.getD 10 undef = .int .i64 ((n1 : Int)) := hv'.1.2.2 (by decide) (by decide)
          have eB0 : (A.tmps[10]?).getD undef = .int .i64 ((n1 : Int)) := by simpa using eA0
          have ew : IntKind.i64.wrap (6 * (n1 : Int)) = 6 * (n1 : Int) := IntWalk.i64_in _ (by omega)
          refine owe_run rfl (wp_val (v := .int .i64 (6 * (n1 : Int))) ?_ (hK _ _ hS (Below.refl _ _) (fun _ => ⟨fun e => absurd e (by decide), fun e => absurd e (by decide), fun _ _ => rfl⟩)))
          first
            | (go_simp; done)
            | (go_simp; rfl)
        · intro n A u K hfr _ hS hv' hK
          have eA0 : A.tmps.getD 11 undef = .int .i64 (6 * (n1 : Int)) := hv'.1.2.2 (by decide) (by decide)
          have eB0 : (A.tmps[11]?).getD undef = .int .i64 (6 * (n1 : Int)) := by simpa using eA0
          have ew : IntKind.i64.wrap (10 + (6 * (n1 : Int))) = 10 + (6 * (n1 : Int)) := IntWalk.i64_in _ (by omega)
          refine owe_run rfl (wp_val (v := .int .i64 (10 + (6 * (n1 : Int)))) ?_ (hK _ _ hS (Below.refl _ _) (fun _ => ⟨fun e => absurd e (by decide), fun e => absurd e (by decide), fun _ _ => rfl⟩)))
          first
            | (go_simp; done)
            | (go_simp; rfl)
        · intro n A u K hfr _ hS hv' hK
          have eA9 : A.tmps.getD 1 undef = .pointer (some ⟨w.heap.size, 0, none⟩) := hfr 1 (not_dst (by kernel_rfl))
          have eB9 : (A.tmps[1]?).getD undef = .pointer (some ⟨w.heap.size, 0, none⟩) := by simpa using eA9
          refine owe_run rfl (wp_val (v := .pointer (some ⟨w.heap.size, 1, none⟩)) ?_ (hK _ _ hS (Below.refl _ _) (fun _ => ⟨fun e => absurd e (by decide), fun e => absurd e (by decide), fun _ _ => rfl⟩)))
          first
            | (go_simp; done)
            | (go_simp; rfl)
        · intro n A u K hfr _ hS hv' hK
          have eA0 : A.tmps.getD 13 undef = .pointer (some ⟨w.heap.size, 1, none⟩) := hv'.1.2.2 (by decide) (by decide)
          have eB0 : (A.tmps[13]?).getD undef = .pointer (some ⟨w.heap.size, 1, none⟩) := by simpa using eA0
          have cu := (HB2.out.call hS.below).cell
          refine owe_run rfl (wp_val (v := .slice ya n2 yc) ?_ (hK _ _ hS (Below.refl _ _) (fun _ => ⟨fun e => absurd e (by decide), fun e => absurd e (by decide), fun _ _ => rfl⟩)))
          first
            | (go_simp; done)
            | (go_simp; rfl)
        · intro n A u K hfr _ hS hv' hK
          have eA0 : A.tmps.getD 14 undef = .slice ya n2 yc := hv'.1.2.2 (by decide) (by decide)
          have eB0 : (A.tmps[14]?).getD undef = .slice ya n2 yc := by simpa using eA0
          refine owe_run rfl (wp_val (v := .int .i64 ((n2 : Int))) ?_ (hK _ _ hS (Below.refl _ _) (fun _ => ⟨fun e => absurd e (by decide), fun e => absurd e (by decide), fun _ _ => rfl⟩)))
          first
            | (go_simp; done)
            | (go_simp; rfl)
        · intro n A u K hfr _ hS hv' hK
          have eA0 : A.tmps.getD 15 undef = .int .i64 ((n2 : Int)) := hv'.1.2.2 (by decide) (by decide)
          have eB0 : (A.tmps[15]?).getD undef = .int .i64 ((n2 : Int)) := by simpa using eA0
          have ew : IntKind.i64.wrap (6 * (n2 : Int)) = 6 * (n2 : Int) := IntWalk.i64_in _ (by omega)
          refine owe_run rfl (wp_val (v := .int .i64 (6 * (n2 : Int))) ?_ (hK _ _ hS (Below.refl _ _) (fun _ => ⟨fun e => absurd e (by decide), fun e => absurd e (by decide), fun _ _ => rfl⟩)))
          first
            | (go_simp; done)
            | (go_simp; rfl)
        · intro n A u K hfr _ hS hv' hK
          have eA0 : A.tmps.getD 12 undef = .int .i64 (10 + (6 * (n1 : Int))) := hv'.1.2.2 (by decide) (by decide)
          have eB0 : (A.tmps[12]?).getD undef = .int .i64 (10 + (6 * (n1 : Int))) := by simpa using eA0
          have eA1 : A.tmps.getD 16 undef = .int .i64 (6 * (n2 : Int)) := hv'.2.1.2.2 (by decide) (by decide)
          have eB1 : (A.tmps[16]?).getD undef = .int .i64 (6 * (n2 : Int)) := by simpa using eA1
          have ew : IntKind.i64.wrap (10 + (6 * (n1 : Int)) + 6 * (n2 : Int)) = 10 + (6 * (n1 : Int)) + 6 * (n2 : Int) := IntWalk.i64_in _ (by omega)
          refine owe_run rfl (wp_val (v := .int .i64 (10 + (6 * (n1 : Int)) + 6 * (n2 : Int))) ?_ (hK _ _ hS (Below.refl _ _) (fun _ => ⟨fun e => absurd e (by decide), fun e => absurd e (by decide), fun _ _ => rfl⟩)))
          first
            | (go_simp; done)
            | (go_simp; rfl)
        · intro n A u K hfr _ hS hv' hK
          have eA9 : A.tmps.getD 1 undef = .pointer (some ⟨w.heap.size, 0, none⟩) := hfr 1 (not_dst (by kernel_rfl))
          have eB9 : (A.tmps[1]?).getD undef = .pointer (some ⟨w.heap.size, 0, none⟩) := by simpa using eA9
          have cu := (HB2.out.call hS.below).cell
          refine owe_run rfl (wp_val (v := .agg #[.slice sa n1 sc, .slice ya n2 yc]) ?_ (hK _ _ hS (Below.refl _ _) (fun _ => ⟨fun e => absurd e (by decide), fun e => absurd e (by decide), fun _ _ => rfl⟩)))
          first
            | (go_simp; done)
            | (go_simp; rfl)
        · intro n A u K hfr _ hS hv' hK
          have eA0 : A.tmps.getD 18 undef = .agg #[.slice sa n1 sc, .slice ya n2 yc] := hv'.1.2.2 (by decide) (by decide)
          have eB0 : (A.tmps[18]?).getD undef = .agg #[.slice sa n1 sc, .slice ya n2 yc] := by simpa using eA0
          refine owe_run rfl (wp_fn rfl (args1 eA0) (enter_fn Try.func30 (by kernel_rfl) rfl _ _) ((s_l6Fixups u _ o (HO.out.below (Nat.le_refl _) (HF2.out.below.trans (hS.below.mono HF2.out.le))) HV.out).mono ?_))
          rw [HFN.out]
          rintro e u1 ⟨rfl, k1⟩
          exact ⟨_, rfl, hK _ _ (hS.call k1) k1 (fun _ => ⟨fun e => absurd e (by decide), fun e => absurd e (by decide), fun _ _ => rfl⟩)⟩
        · intro n A u K hfr _ hS hv' hK
          have eA0 : A.tmps.getD 19 undef = .int .i64 ((FN : Int)) := hv'.1.2.2 (by decide) (by decide)
          have eB0 : (A.tmps[19]?).getD undef = .int .i64 ((FN : Int)) := by simpa using eA0
          have ew : IntKind.i64.wrap (5 * (FN : Int)) = 5 * (FN : Int) := IntWalk.i64_in _ (by omega)
          refine owe_run rfl (wp_val (v := .int .i64 (5 * (FN : Int))) ?_ (hK _ _ hS (Below.refl _ _) (fun _ => ⟨fun e => absurd e (by decide), fun e => absurd e (by decide), fun _ _ => rfl⟩)))
          first
            | (go_simp; done)
            | (go_simp; rfl)
        · intro n A u K hfr _ hS hv' hK
          have eA0 : A.tmps.getD 17 undef = .int .i64 (10 + (6 * (n1 : Int)) + 6 * (n2 : Int)) := hv'.1.2.2 (by decide) (by decide)
          have eB0 : (A.tmps[17]?).getD undef = .int .i64 (10 + (6 * (n1 : Int)) + 6 * (n2 : Int)) := by simpa using eA0
          have eA1 : A.tmps.getD 20 undef = .int .i64 (5 * (FN : Int)) := hv'.2.1.2.2 (by decide) (by decide)
          have eB1 : (A.tmps[20]?).getD undef = .int .i64 (5 * (FN : Int)) := by simpa using eA1
          have ew : IntKind.i64.wrap (10 + (6 * (n1 : Int)) + 6 * (n2 : Int) + 5 * (FN : Int)) = 10 + (6 * (n1 : Int)) + 6 * (n2 : Int) + 5 * (FN : Int) := IntWalk.i64_in _ (by omega)
          refine owe_run rfl (wp_val (v := .int .i64 (10 + (6 * (n1 : Int)) + 6 * (n2 : Int) + 5 * (FN : Int))) ?_ (hK _ _ hS (Below.refl _ _) (fun _ => ⟨fun e => absurd e (by decide), fun e => absurd e (by decide), fun _ _ => rfl⟩)))
          first
            | (go_simp; done)
            | (go_simp; rfl)
        · intro n A u K hfr _ hS hv' hK
          have eA9 : A.tmps.getD 1 undef = .pointer (some ⟨w.heap.size, 0, none⟩) := hfr 1 (not_dst (by kernel_rfl))
          have eB9 : (A.tmps[1]?).getD undef = .pointer (some ⟨w.heap.size, 0, none⟩) := by simpa using eA9
          have cu := (HB2.out.call hS.below).cell
          refine owe_run rfl (wp_val (v := .agg #[.slice sa n1 sc, .slice ya n2 yc]) ?_ (hK _ _ hS (Below.refl _ _) (fun _ => ⟨fun e => absurd e (by decide), fun e => absurd e (by decide), fun _ _ => rfl⟩)))
          first
            | (go_simp; done)
            | (go_simp; rfl)
        · intro n A u K hfr _ hS hv' hK
          have eA0 : A.tmps.getD 22 undef = .agg #[.slice sa n1 sc, .slice ya n2 yc] := hv'.1.2.2 (by decide) (by decide)
          have eB0 : (A.tmps[22]?).getD undef = .agg #[.slice sa n1 sc, .slice ya n2 yc] := by simpa using eA0
          refine owe_run rfl (wp_fn rfl (args1 eA0) (enter_fn Try.func28 (by kernel_rfl) rfl _ _) ((s_l6Names u _ o (HO.out.below (Nat.le_refl _) (HF2.out.below.trans (hS.below.mono HF2.out.le))) HV.out).mono ?_))
          rintro e u1 ⟨r5, rfl, o5, k1⟩
          exact ⟨_, rfl, hK _ _ (hS.call k1) k1 (fun _ => ⟨fun _ => o5.reads, fun e => absurd e (by decide), fun e => absurd rfl e⟩)⟩
        · intro n A u K hfr _ hS hv' hK
          have h5 : StrsAt u (A.tmps.getD 23 undef) (allNames o) := hv'.1.1 rfl
          refine owe_run rfl (wp_fn rfl (args1 rfl) (enter_fn Try.func27 (by kernel_rfl) rfl _ _) ((s_NameTable u _ (allNames o) h5 HS.out (by have := HAL.out; omega)).mono ?_))
          rintro e u1 ⟨r5, rfl, o5, k1⟩
          obtain ⟨ra, rc, rfl⟩ := owns_form o5
          exact ⟨_, rfl, hK _ _ (hS.call k1) k1 (fun _ => ⟨fun e => absurd e (by decide), fun _ => ⟨ra, rc, by rw [HTL.out]⟩, fun _ e => absurd rfl e⟩)⟩
        · intro n A u K hfr _ hS hv' hK
          obtain ⟨a5, c5, eA9⟩ := hv'.1.2.1 rfl
          have eB9 : (A.tmps[24]?).getD undef = .slice a5 tl c5 := by simpa using eA9
          refine owe_run rfl (wp_val (v := .int .i64 ((tl : Int))) ?_ (hK _ _ hS (Below.refl _ _) (fun _ => ⟨fun e => absurd e (by decide), fun e => absurd e (by decide), fun _ _ => rfl⟩)))
          first
            | (go_simp; done)
            | (go_simp; rfl)
        · intro n A u K hfr _ hS hv' hK
          have eA0 : A.tmps.getD 21 undef = .int .i64 (10 + (6 * (n1 : Int)) + 6 * (n2 : Int) + 5 * (FN : Int)) := hv'.1.2.2 (by decide) (by decide)
          have eB0 : (A.tmps[21]?).getD undef = .int .i64 (10 + (6 * (n1 : Int)) + 6 * (n2 : Int) + 5 * (FN : Int)) := by simpa using eA0
          have eA1 : A.tmps.getD 25 undef = .int .i64 ((tl : Int)) := hv'.2.1.2.2 (by decide) (by decide)
          have eB1 : (A.tmps[25]?).getD undef = .int .i64 ((tl : Int)) := by simpa using eA1
          have ew : IntKind.i64.wrap (10 + (6 * (n1 : Int)) + 6 * (n2 : Int) + 5 * (FN : Int) + (tl : Int)) = 10 + (6 * (n1 : Int)) + 6 * (n2 : Int) + 5 * (FN : Int) + (tl : Int) := IntWalk.i64_in _ (by omega)
          refine owe_run rfl (wp_val (v := .int .i64 (10 + (6 * (n1 : Int)) + 6 * (n2 : Int) + 5 * (FN : Int) + (tl : Int))) ?_ (hK _ _ hS (Below.refl _ _) (fun _ => ⟨fun e => absurd e (by decide), fun e => absurd e (by decide), fun _ _ => rfl⟩)))
          first
            | (go_simp; done)
            | (go_simp; rfl)
        · intro n A u K hfr _ hS hv' hK
          have eA0 : A.tmps.getD 26 undef = .int .i64 (10 + (6 * (n1 : Int)) + 6 * (n2 : Int) + 5 * (FN : Int) + (tl : Int)) := hv'.1.2.2 (by decide) (by decide)
          have eB0 : (A.tmps[26]?).getD undef = .int .i64 (10 + (6 * (n1 : Int)) + 6 * (n2 : Int) + 5 * (FN : Int) + (tl : Int)) := by simpa using eA0
          refine owe_run rfl (wp_val (v := .int .i64 (10 + (6 * (n1 : Int)) + 6 * (n2 : Int) + 5 * (FN : Int) + (tl : Int))) ?_ (hK _ _ hS (Below.refl _ _) (fun _ => ⟨fun e => absurd e (by decide), fun e => absurd e (by decide), fun _ _ => rfl⟩)))
          first
            | (go_simp; done)
            | (go_simp; rfl)
  case hq =>
    intro g u hS hV
    obtain ⟨e0, e1, e2, e3, e4, e5, e6, e7, e8, e9, e10, e11, e12, e13, e14, e15, e16, e17, e18, e19, -⟩ := hV
    have eg := e19.2.2 (by decide) (by decide)
    simp only [List.map, putG, eg, f, List.setIfInBounds_toArray, List.set_cons_zero, List.set_cons_succ]
    have HF3 := Lib.hid (HF2.out.trans (hS.below.mono HF2.out.le))
    have HB3 := Lib.hid (HB2.out.call hS.below)
    clear hS e0 e1 e2 e3 e4 e5 e6 e7 e8 e9 e10 e11 e12 e13 e14 e15 e16 e17 e18 e19 eg HB2 HF2
    have cb := HB3.out.cell
    have zb := HB3.out.lt
    obtain ⟨B0, hB0⟩ : ∃ B0 : Int, 10 + (6 * (n1 : Int)) + 6 * (n2 : Int) + 5 * (FN : Int) + (tl : Int) = B0 := ⟨_, rfl⟩
    have hb0 : 0 ≤ B0 ∧ B0 ≤ 1000 := by omega
    have HB0 : Hid (10 + 6 * (n1 : Int) + 6 * (n2 : Int) + 5 * (FN : Int) + (tl : Int) = B0) := by show _ = _; omega
    rw [hB0]
    clear hB0
    go_wp2_with fail
    go_loopw [3, 4] (fun q i wr => ∃ (k : Nat), k ≤ n1 ∧ i = .int .i64 k ∧ q = .int .i64 (B0 + (bytN (o.secs.take k) : Int)) ∧ Hid (Blk wr w.heap.size #[.slice sa n1 sc, .slice ya n2 yc] 26) ∧ Hid (From w.heap.size w wr)) (fun _ i _ => n1 - (intOf i).toNat)
    case atStart => exact ⟨0, Nat.zero_le _, rfl, by simp [bytN], HB3, HF3⟩
    case round =>
      clear HB3 HF3 cb zb
      obtain ⟨k, hk, rfl, rfl, HB, HF⟩ := hrel
      have cb := HB.out.cell
      have zb := HB.out.lt
      by_cases hlt : k < n1
      · obtain ⟨b, off, rfl, hc⟩ := HC.out (by have := HN1.out; omega)
        obtain ⟨vb, vf, hb, hf, c0, c1, c2, c3, c4, c5⟩ := hc k (by rw [HN1.out]; exact hlt)
        obtain ⟨ba, bc, rfl, -⟩ := hb.form
        obtain ⟨fa, fc, rfl, -⟩ := hf.form
        have hbl : b < w.heap.size := World.block_lt_of_cell? w _ c0
        have g0 := (HF.out.below.cell (p := ⟨b, off + k * 6, none⟩) hbl).trans c0
        have g1 := (HF.out.below.cell (p := ⟨b, off + k * 6 + 1, none⟩) hbl).trans c1
        have g2 := (HF.out.below.cell (p := ⟨b, off + k * 6 + 2, none⟩) hbl).trans c2
        have g3 := (HF.out.below.cell (p := ⟨b, off + k * 6 + 3, none⟩) hbl).trans c3
        have g4 := (HF.out.below.cell (p := ⟨b, off + k * 6 + 4, none⟩) hbl).trans c4
        have g5 := (HF.out.below.cell (p := ⟨b, off + k * 6 + 5, none⟩) hbl).trans c5
        have i1 : (k : Int) < (n1 : Int) := by omega
        have i3 : (0 : Int) ≤ (k : Int) := by omega
        have HT := Lib.hid (bytN_step o.secs k (by rw [HN1.out]; exact hlt))
        have q1 := objB_bytN HV.out k
        have q2 := (objB_sec HV.out (List.getElem_mem (l := o.secs) (by rw [HN1.out]; exact hlt))).bytes
        clear hc c0 c1 c2 c3 c4 c5 hb hf
        generalize o.secs[k]'(by rw [HN1.out]; exact hlt) = x at *
        obtain ⟨S, hS⟩ : ∃ S, bytN (o.secs.take k) = S := ⟨_, rfl⟩
        rw [hS] at HT q1 ⊢
        clear hS
        have HB3 := HB
        have HF3 := HF
        go_wp2_with fail
        go_roundw
        case rel => exact ⟨k + 1, by omega, by go_num, by rw [HT.out]; go_num, HB3, HF3⟩
        case measure => simp [intOf]; try omega
      · obtain rfl : n1 = k := by omega
        have E2 : Hid (lenO o = B0 + (bytN (o.secs.take n1) : Int)) := by
          show _ = _
          rw [E.out, HB0.out, ← HN1.out, List.take_length]
        obtain ⟨S, hS⟩ : ∃ S, B0 + (bytN (o.secs.take n1) : Int) = S := ⟨_, rfl⟩
        rw [hS] at E2 ⊢
        clear hS
        go_wp2_with fail
        go_ret
        exact ⟨by rw [E2.out]; try rfl, HF.out.below⟩
end Go.Proofs.Ytkefbhidfbnipaa
