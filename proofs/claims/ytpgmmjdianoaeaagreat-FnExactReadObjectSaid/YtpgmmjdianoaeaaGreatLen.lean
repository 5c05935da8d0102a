/- Lengths of objects: all names, the table, the number of fixups. Lengths of objects. -/
import Derived.Test.YtpgmmjdianoaeaaGreatPlainR
import Derived.Test.YtpgmmjdianoaeaaGreatNameTab
import Derived.Test.YtpgmmjdianoaeaaGreatTab
import Derived.Test.YtpgmmjdianoaeaaGreatDrawT
import Derived.Test.YtpgmmjdianoaeaaGreatNames
import Derived.Test.YtpgmmjdianoaeaaGreatInv
import Derived.Test.YtpgmmjdianoaeaaGreatObjVal
namespace Go.Proofs.YtpgmmjdianoaeaaGreat
/-! Len -/
open Go.ChangeShapes Go.WideShapes Go.ChangeAt Go.RowKit Go.Joins
set_option linter.unusedSimpArgs false
set_option linter.unusedVariables false
set_option maxRecDepth 100000
theorem row_some {w : World} {base n : Nat} {e : TypeId} {size : Nat} {v : Value} {xs : List Value} (h : w.ownsRow base e size v n xs) (hn : v ≠ .slice none 0 0) : ∃ g c, v = .slice (some ⟨g, 0, none⟩) n c := by
  rcases h.2 with ⟨hv, _⟩ | ⟨g, c, cur, hv, hb, hh, _⟩
  · exact absurd hv hn
  · exact ⟨g, c, hv⟩
theorem src_at {P : Program} {tx e' : TypeId} (hk : P.underlying tx = some (.slice e')) (w : World) (us : List Value) (size n c : Nat) (e : TypeId) (hl : us.length = n * size) (h1 : ∀ u ∈ us, u.oneCell' = true) (B : Nat) (hB : B = w.heap.size) :
    Src P size tx (.slice (some ⟨B, 0, none⟩) n c) n us (w.alloc (.cells us.toArray e)) := by
  subst hB; exact src_new hk w us size n c e hl h1
theorem allNames_sec (o : ObjD) (k : Nat) (hk : k < o.secs.length) : svs ((allNames o).take (k + 1)) = svs ((allNames o).take k) ++ [Value.string o.secs[k].name] := by
  have h : (allNames o)[k]? = some o.secs[k].name := by
    unfold allNames
    rw [List.getElem?_append_left (by simpa using hk), List.getElem?_map, List.getElem?_eq_getElem hk]
    rfl
  obtain ⟨hl, he⟩ := List.getElem?_eq_some_iff.1 h
  rw [List.take_succ_eq_append_getElem hl, svs_append, he]
  rfl
theorem allNames_sym (o : ObjD) (k : Nat) (hk : k < o.syms.length) : svs ((allNames o).take (o.secs.length + k + 1)) = svs ((allNames o).take (o.secs.length + k)) ++ [Value.string o.syms[k].name] := by
  have h : (allNames o)[o.secs.length + k]? = some o.syms[k].name := by
    unfold allNames
    rw [List.getElem?_append_right (by simp), List.length_map, Nat.add_sub_cancel_left, List.getElem?_map, List.getElem?_eq_getElem hk]
    rfl
  obtain ⟨hl, he⟩ := List.getElem?_eq_some_iff.1 h
  rw [List.take_succ_eq_append_getElem hl, svs_append, he]
  rfl
set_option maxHeartbeats 2000000 in
theorem i_tableOf (w : World) (v : Value) (o : ObjD) (h : ObjAt w v o) (ho : objB o = true) (hs : (∀ s ∈ o.secs, s.name.size ≤ maxLen) ∧ ∀ s ∈ o.syms, s.name.size ≤ maxLen) :
    Calls Tryz.prog 40 #[v] w (RetBytes w (tableL (allNames o))) := by
  obtain ⟨i0, hi, hz0, hz1, hz2⟩ := info_parts info_str
  have HS := Lib.hid hs
  clear hs
  obtain ⟨vs, vy, rfl, h1, h2⟩ := h
  have HH : Hid (SecsAt w vs o.secs ∧ SymsAt w vy o.syms) := ⟨h1, h2⟩
  obtain ⟨sa, sc, rfl, hcap, hmax, hnone, hcell⟩ := h1.form
  obtain ⟨ya, yc, rfl, hcap2, hmax2, hnone2, hcell2⟩ := h2.form
  have HC := Lib.hid hcell
  have HD := Lib.hid hcell2
  have hf1 := (objB_few ho).1
  have hf2 := (objB_few ho).2
  have HV := Lib.hid ho
  clear h1 h2 hcell hcell2 hnone hnone2 ho
  unfold maxLen at hmax hmax2
  obtain ⟨n1, hn1⟩ : ∃ n1, o.secs.length = n1 := ⟨_, rfl⟩
  obtain ⟨n2, hn2⟩ : ∃ n2, o.syms.length = n2 := ⟨_, rfl⟩
  have HN1 := Lib.hid hn1
  have HN2 := Lib.hid hn2
  rw [hn1] at hf1 hcap HH ⊢
  rw [hn2] at hf2 hcap2 HH ⊢
  clear hn1 hn2
  go_enter Tryz.func40, Tryz.ntmps40
  go_wp2_with fail
  have hb0 : Blk ((w.alloc (.cells #[.slice sa n1 sc, .slice ya n2 yc] 27)).alloc (.cells #[] 9)) w.heap.size #[.slice sa n1 sc, .slice ya n2 yc] 27 := (Blk.new w _ _).alloc _
  have HB0 := Lib.hid hb0
  have hr0 : ((w.alloc (.cells #[.slice sa n1 sc, .slice ya n2 yc] 27)).alloc (.cells #[] 9)).ownsRow (w.heap.size + 1) 9 1 (.slice (some ⟨w.heap.size + 1, 0, none⟩) 0 0) 0 (svs ((allNames o).take 0)) := by
    have := World.ownsRow_lit (w.alloc (.cells #[.slice sa n1 sc, .slice ya n2 yc] 27)) #[] (e := 9) (size := 1) (base := w.heap.size + 1) 0 (by simp) (Nat.zero_le _) rfl
    simpa [svs] using this
  have HR0 := Lib.hid hr0
  clear hb0 hr0
  go_loopw [3, 12] (fun out i wr => ∃ (k gb gc : Nat), k ≤ n1 ∧ i = .int .i64 k ∧ out = .slice (some ⟨gb, 0, none⟩) (k) gc ∧ Hid (wr.ownsRow (w.heap.size + 1) 9 1 (.slice (some ⟨gb, 0, none⟩) (k) gc) (k) (svs ((allNames o).take (k)))) ∧ Hid (Blk wr w.heap.size #[.slice sa n1 sc, .slice ya n2 yc] 27) ∧ Hid (From w.heap.size w wr)) (fun _ i _ => n1 - (intOf i).toNat)
  case atStart => exact ⟨0, w.heap.size + 1, 0, Nat.zero_le _, rfl, rfl, HR0, HB0, ((From.start w).alloc _).alloc _⟩
  case round =>
    clear HB0 HR0
    obtain ⟨k, gb, gc, hk, rfl, rfl, HO, HB, HF⟩ := hrel
    have cb := HB.out.cell
    have zb := HB.out.lt
    by_cases hlt : k < n1
    · obtain ⟨b, off, rfl, hc⟩ := HC.out (by have := HN1.out; omega)
      obtain ⟨vb, vf, hb, hf, c0, c1, c2, c3, c4, c5⟩ := hc k (by rw [HN1.out]; exact hlt)
      obtain ⟨ba, bc, rfl, -⟩ := hb.form
      obtain ⟨fa, fc, rfl, -⟩ := hf.form
      have hbl : b < w.heap.size := World.block_lt_of_cell? w _ c0
      have g0 := (HF.out.below.cell (p := ⟨b, off + k * 6, none⟩) hbl).trans c0
      have g1 := (HF.out.below.cell (p := ⟨b, off + k * 6 + 1, none⟩) hbl).trans c1
      have g2 := (HF.out.below.cell (p := ⟨b, off + k * 6 + 2, none⟩) hbl).trans c2
      have g3 := (HF.out.below.cell (p := ⟨b, off + k * 6 + 3, none⟩) hbl).trans c3
      have g4 := (HF.out.below.cell (p := ⟨b, off + k * 6 + 4, none⟩) hbl).trans c4
      have g5 := (HF.out.below.cell (p := ⟨b, off + k * 6 + 5, none⟩) hbl).trans c5
      have i1 : (k : Int) < (n1 : Int) := by omega
      have i3 : (0 : Int) ≤ (k : Int) := by omega
      have HT := Lib.hid (allNames_sec o k (by rw [HN1.out]; exact hlt))
      clear hc c0 c1 c2 c3 c4 c5 hb hf
      generalize o.secs[k]'(by rw [HN1.out]; exact hlt) = x at *
      go_wp2_with (at_builtin; refine wpList_append_src rfl (.tmp 16) (.tmp 19) 79 79 rfl (w.heap.size + 1) 9 i0 (.string ⟨#[]⟩) 1 16 Tryz.underlying79 hi hz0 hz1 hz2 rfl (by decide) _ _ _ rfl (World.ownsRow.alloc (World.ownsRow.alloc HO.out _) _) _ 1 [_] rfl (src_at Tryz.underlying79 _ [_] 1 1 1 _ rfl ?c0 _ (by simp)) ?c1 ?c2 ?c3 ?_)
      case c0 => intro u hu; obtain rfl := List.mem_singleton.1 hu; rfl
      case c1 => unfold maxLen; omega
      case c2 => omega
      case c3 => have := HB.out.lt; simp; omega
      intro v' w4 hown hgr
      have hown' : w4.ownsRow (w.heap.size + 1) 9 1 v' (k + 1) (svs ((allNames o).take (k)) ++ [Value.string x.name]) := hown
      obtain ⟨gb4, gc4, rfl⟩ := row_some hown' (owns_more_some hown')
      have HO4 : Hid (w4.ownsRow (w.heap.size + 1) 9 1 (.slice (some ⟨gb4, 0, none⟩) (k + 1) gc4) (k + 1) (svs ((allNames o).take (k + 1)))) := by show World.ownsRow _ _ _ _ _ _ _; rw [HT.out]; exact hown'
      have HF4 := Lib.hid (((HF.out.alloc _).alloc _).grown hgr (fun q e => by have := owns_block HO.out q e; omega))
      have HB4 := Lib.hid (((HB.out.alloc _).alloc _).grown hgr (fun e => by have := owns_block HO.out _ e.symm; omega))
      clear hown hown' hgr HO HF HB
      go_wp2_with fail
      go_roundw
      case rel => exact ⟨k + 1, gb4, gc4, by omega, by go_num, rfl, HO4, HB4, HF4⟩
      case measure => simp [intOf]; try omega
    · obtain rfl : n1 = k := by omega
      go_wp2_with fail
      go_loopw [3, 25] (fun out i wr => ∃ (k gb gc : Nat), k ≤ n2 ∧ i = .int .i64 k ∧ out = .slice (some ⟨gb, 0, none⟩) (n1 + k) gc ∧ Hid (wr.ownsRow (w.heap.size + 1) 9 1 (.slice (some ⟨gb, 0, none⟩) (n1 + k) gc) (n1 + k) (svs ((allNames o).take (n1 + k)))) ∧ Hid (Blk wr w.heap.size #[.slice sa n1 sc, .slice ya n2 yc] 27) ∧ Hid (From w.heap.size w wr)) (fun _ i _ => n2 - (intOf i).toNat)
      case atStart => exact ⟨0, gb, gc, Nat.zero_le _, rfl, rfl, HO, HB, HF⟩
      case round =>
        clear HO HB HF cb zb hlt hk
        obtain ⟨k, gb, gc, hk, rfl, rfl, HO, HB, HF⟩ := hrel
        have cb := HB.out.cell
        have zb := HB.out.lt
        by_cases hlt : k < n2
        · obtain ⟨b, off, rfl, hc⟩ := HD.out (by have := HN2.out; omega)
          obtain ⟨c0, c1, c2, c3⟩ := hc k (by rw [HN2.out]; exact hlt)
          have hbl : b < w.heap.size := World.block_lt_of_cell? w _ c0
          have g0 := (HF.out.below.cell (p := ⟨b, off + k * 4, none⟩) hbl).trans c0
          have g1 := (HF.out.below.cell (p := ⟨b, off + k * 4 + 1, none⟩) hbl).trans c1
          have g2 := (HF.out.below.cell (p := ⟨b, off + k * 4 + 2, none⟩) hbl).trans c2
          have g3 := (HF.out.below.cell (p := ⟨b, off + k * 4 + 3, none⟩) hbl).trans c3
          have i1 : (k : Int) < (n2 : Int) := by omega
          have i3 : (0 : Int) ≤ (k : Int) := by omega
          have HT := Lib.hid (allNames_sym o k (by rw [HN2.out]; exact hlt))
          rw [HN1.out] at HT
          clear hc c0 c1 c2 c3
          generalize o.syms[k]'(by rw [HN2.out]; exact hlt) = x at *
          go_wp2_with (at_builtin; refine wpList_append_src rfl (.tmp 29) (.tmp 32) 79 79 rfl (w.heap.size + 1) 9 i0 (.string ⟨#[]⟩) 1 16 Tryz.underlying79 hi hz0 hz1 hz2 rfl (by decide) _ _ _ rfl (World.ownsRow.alloc (World.ownsRow.alloc HO.out _) _) _ 1 [_] rfl (src_at Tryz.underlying79 _ [_] 1 1 1 _ rfl ?c0 _ (by simp)) ?c1 ?c2 ?c3 ?_)
          case c0 => intro u hu; obtain rfl := List.mem_singleton.1 hu; rfl
          case c1 => unfold maxLen; omega
          case c2 => omega
          case c3 => have := HB.out.lt; simp; omega
          intro v' w4 hown hgr
          have hown' : w4.ownsRow (w.heap.size + 1) 9 1 v' (n1 + k + 1) (svs ((allNames o).take (n1 + k)) ++ [Value.string x.name]) := hown
          obtain ⟨gb4, gc4, rfl⟩ := row_some hown' (owns_more_some hown')
          have HO4 : Hid (w4.ownsRow (w.heap.size + 1) 9 1 (.slice (some ⟨gb4, 0, none⟩) (n1 + k + 1) gc4) (n1 + k + 1) (svs ((allNames o).take (n1 + k + 1)))) := by show World.ownsRow _ _ _ _ _ _ _; rw [HT.out]; exact hown'
          have HF4 := Lib.hid (((HF.out.alloc _).alloc _).grown hgr (fun q e => by have := owns_block HO.out q e; omega))
          have HB4 := Lib.hid (((HB.out.alloc _).alloc _).grown hgr (fun e => by have := owns_block HO.out _ e.symm; omega))
          clear hown hown' hgr HO HF HB
          go_wp2_with fail
          go_roundw
          case rel => exact ⟨k + 1, gb4, gc4, by omega, by go_num, rfl, HO4, HB4, HF4⟩
          case measure => simp [intOf]; try omega
        · obtain rfl : n2 = k := by omega
          have hall : (allNames o).length = n1 + n2 := by rw [allNames_length, HN1.out, HN2.out]
          have hown : OwnS wr (w.heap.size + 1) (.slice (some ⟨gb, 0, none⟩) (allNames o).length gc) (allNames o) := by
            have := HO.out
            rw [← hall, List.take_length] at this
            exact this
          have q1 := i_NameTable wr gb 0 gc (allNames o) hown.reads (by
            intro s hs
            rcases List.mem_append.1 hs with hs | hs
            · obtain ⟨y, hy, rfl⟩ := List.mem_map.1 hs; exact HS.out.1 y hy
            · obtain ⟨y, hy, rfl⟩ := List.mem_map.1 hs; exact HS.out.2 y hy) (by omega)
          rw [hall] at q1
          have Q1 := Lib.hid q1
          clear q1 hown hall
          go_wp2_with fail
          refine Q1.out.mono ?_
          rintro e w2 ⟨r, rfl, o2, h2⟩
          have HF2 := Lib.hid (HF.out.call h2)
          have HO2 := Lib.hid (owns_mono o2 HF.out.le)
          obtain ⟨ra, rc, rfl⟩ := owns_form o2
          obtain ⟨tl, htl⟩ : ∃ tl, (tableL (allNames o)).length = tl := ⟨_, rfl⟩
          have HTL := Lib.hid htl
          rw [htl]
          clear htl o2 h2 Q1 HO HB HF cb
          go_wp2_with fail
          go_ret
          exact ⟨_, rfl, by rw [← HTL.out]; exact HO2.out, HF2.out.below⟩
set_option maxHeartbeats 2000000 in
theorem s_l6Names (w : World) (v : Value) (o : ObjD) (h : ObjAt w v o) (ho : objB o = true) :
    Calls Tryz.prog 53 #[v] w (fun e w' => ∃ r, e = .returned r ∧ OwnS w' w.heap.size r (allNames o) ∧ Below w.heap.size w w') := by
  obtain ⟨i0, hi, hz0, hz1, hz2⟩ := info_parts info_str
  obtain ⟨vs, vy, rfl, h1, h2⟩ := h
  have HH : Hid (SecsAt w vs o.secs ∧ SymsAt w vy o.syms) := ⟨h1, h2⟩
  obtain ⟨sa, sc, rfl, hcap, hmax, hnone, hcell⟩ := h1.form
  obtain ⟨ya, yc, rfl, hcap2, hmax2, hnone2, hcell2⟩ := h2.form
  have HC := Lib.hid hcell
  have HD := Lib.hid hcell2
  have hf1 := (objB_few ho).1
  have hf2 := (objB_few ho).2
  have HV := Lib.hid ho
  clear h1 h2 hcell hcell2 hnone hnone2 ho
  unfold maxLen at hmax hmax2
  obtain ⟨n1, hn1⟩ : ∃ n1, o.secs.length = n1 := ⟨_, rfl⟩
  obtain ⟨n2, hn2⟩ : ∃ n2, o.syms.length = n2 := ⟨_, rfl⟩
  have HN1 := Lib.hid hn1
  have HN2 := Lib.hid hn2
  rw [hn1] at hf1 hcap HH ⊢
  rw [hn2] at hf2 hcap2 HH ⊢
  clear hn1 hn2
  go_enter Tryz.func53, Tryz.ntmps53
  go_wp2_with fail
  have hb0 : Blk ((w.alloc (.cells #[.slice sa n1 sc, .slice ya n2 yc] 27)).alloc (.cells #[] 9)) w.heap.size #[.slice sa n1 sc, .slice ya n2 yc] 27 := (Blk.new w _ _).alloc _
  have HB0 := Lib.hid hb0
  have hr0 : ((w.alloc (.cells #[.slice sa n1 sc, .slice ya n2 yc] 27)).alloc (.cells #[] 9)).ownsRow (w.heap.size + 1) 9 1 (.slice (some ⟨w.heap.size + 1, 0, none⟩) 0 0) 0 (svs ((allNames o).take 0)) := by
    have := World.ownsRow_lit (w.alloc (.cells #[.slice sa n1 sc, .slice ya n2 yc] 27)) #[] (e := 9) (size := 1) (base := w.heap.size + 1) 0 (by simp) (Nat.zero_le _) rfl
    simpa [svs] using this
  have HR0 := Lib.hid hr0
  clear hb0 hr0
  go_loopw [3, 4] (fun out i wr => ∃ (k gb gc : Nat), k ≤ n1 ∧ i = .int .i64 k ∧ out = .slice (some ⟨gb, 0, none⟩) (k) gc ∧ Hid (wr.ownsRow (w.heap.size + 1) 9 1 (.slice (some ⟨gb, 0, none⟩) (k) gc) (k) (svs ((allNames o).take (k)))) ∧ Hid (Blk wr w.heap.size #[.slice sa n1 sc, .slice ya n2 yc] 27) ∧ Hid (From w.heap.size w wr)) (fun _ i _ => n1 - (intOf i).toNat)
  case atStart => exact ⟨0, w.heap.size + 1, 0, Nat.zero_le _, rfl, rfl, HR0, HB0, ((From.start w).alloc _).alloc _⟩
  case round =>
    clear HB0 HR0
    obtain ⟨k, gb, gc, hk, rfl, rfl, HO, HB, HF⟩ := hrel
    have cb := HB.out.cell
    have zb := HB.out.lt
    by_cases hlt : k < n1
    · obtain ⟨b, off, rfl, hc⟩ := HC.out (by have := HN1.out; omega)
      obtain ⟨vb, vf, hb, hf, c0, c1, c2, c3, c4, c5⟩ := hc k (by rw [HN1.out]; exact hlt)
      obtain ⟨ba, bc, rfl, -⟩ := hb.form
      obtain ⟨fa, fc, rfl, -⟩ := hf.form
      have hbl : b < w.heap.size := World.block_lt_of_cell? w _ c0
      have g0 := (HF.out.below.cell (p := ⟨b, off + k * 6, none⟩) hbl).trans c0
      have g1 := (HF.out.below.cell (p := ⟨b, off + k * 6 + 1, none⟩) hbl).trans c1
      have g2 := (HF.out.below.cell (p := ⟨b, off + k * 6 + 2, none⟩) hbl).trans c2
      have g3 := (HF.out.below.cell (p := ⟨b, off + k * 6 + 3, none⟩) hbl).trans c3
      have g4 := (HF.out.below.cell (p := ⟨b, off + k * 6 + 4, none⟩) hbl).trans c4
      have g5 := (HF.out.below.cell (p := ⟨b, off + k * 6 + 5, none⟩) hbl).trans c5
      have i1 : (k : Int) < (n1 : Int) := by omega
      have i3 : (0 : Int) ≤ (k : Int) := by omega
      have HT := Lib.hid (allNames_sec o k (by rw [HN1.out]; exact hlt))
      clear hc c0 c1 c2 c3 c4 c5 hb hf
      generalize o.secs[k]'(by rw [HN1.out]; exact hlt) = x at *
      go_wp2_with (at_builtin; refine wpList_append_src rfl (.tmp 14) (.tmp 21) 79 79 rfl (w.heap.size + 1) 9 i0 (.string ⟨#[]⟩) 1 16 Tryz.underlying79 hi hz0 hz1 hz2 rfl (by decide) _ _ _ rfl (World.ownsRow.alloc HO.out _) _ 1 [_] rfl (src_at Tryz.underlying79 _ [_] 1 1 1 _ rfl ?c0 _ (by simp)) ?c1 ?c2 ?c3 ?_)
      case c0 => intro u hu; obtain rfl := List.mem_singleton.1 hu; rfl
      case c1 => unfold maxLen; omega
      case c2 => omega
      case c3 => have := HB.out.lt; simp; omega
      intro v' w4 hown hgr
      have hown' : w4.ownsRow (w.heap.size + 1) 9 1 v' (k + 1) (svs ((allNames o).take (k)) ++ [Value.string x.name]) := hown
      obtain ⟨gb4, gc4, rfl⟩ := row_some hown' (owns_more_some hown')
      have HO4 : Hid (w4.ownsRow (w.heap.size + 1) 9 1 (.slice (some ⟨gb4, 0, none⟩) (k + 1) gc4) (k + 1) (svs ((allNames o).take (k + 1)))) := by show World.ownsRow _ _ _ _ _ _ _; rw [HT.out]; exact hown'
      have HF4 := Lib.hid ((HF.out.alloc _).grown hgr (fun q e => by have := owns_block HO.out q e; omega))
      have HB4 := Lib.hid ((HB.out.alloc _).grown hgr (fun e => by have := owns_block HO.out _ e.symm; omega))
      clear hown hown' hgr HO HF HB
      go_wp2_with fail
      go_roundw
      case rel => exact ⟨k + 1, gb4, gc4, by omega, by go_num, rfl, HO4, HB4, HF4⟩
      case measure => simp [intOf]; try omega
    · obtain rfl : n1 = k := by omega
      go_wp2_with fail
      go_loopw [3, 5] (fun out i wr => ∃ (k gb gc : Nat), k ≤ n2 ∧ i = .int .i64 k ∧ out = .slice (some ⟨gb, 0, none⟩) (n1 + k) gc ∧ Hid (wr.ownsRow (w.heap.size + 1) 9 1 (.slice (some ⟨gb, 0, none⟩) (n1 + k) gc) (n1 + k) (svs ((allNames o).take (n1 + k)))) ∧ Hid (Blk wr w.heap.size #[.slice sa n1 sc, .slice ya n2 yc] 27) ∧ Hid (From w.heap.size w wr)) (fun _ i _ => n2 - (intOf i).toNat)
      case atStart => exact ⟨0, gb, gc, Nat.zero_le _, rfl, rfl, HO, HB, HF⟩
      case round =>
        clear HO HB HF cb zb hlt hk
        obtain ⟨k, gb, gc, hk, rfl, rfl, HO, HB, HF⟩ := hrel
        have cb := HB.out.cell
        have zb := HB.out.lt
        by_cases hlt : k < n2
        · obtain ⟨b, off, rfl, hc⟩ := HD.out (by have := HN2.out; omega)
          obtain ⟨c0, c1, c2, c3⟩ := hc k (by rw [HN2.out]; exact hlt)
          have hbl : b < w.heap.size := World.block_lt_of_cell? w _ c0
          have g0 := (HF.out.below.cell (p := ⟨b, off + k * 4, none⟩) hbl).trans c0
          have g1 := (HF.out.below.cell (p := ⟨b, off + k * 4 + 1, none⟩) hbl).trans c1
          have g2 := (HF.out.below.cell (p := ⟨b, off + k * 4 + 2, none⟩) hbl).trans c2
          have g3 := (HF.out.below.cell (p := ⟨b, off + k * 4 + 3, none⟩) hbl).trans c3
          have i1 : (k : Int) < (n2 : Int) := by omega
          have i3 : (0 : Int) ≤ (k : Int) := by omega
          have HT := Lib.hid (allNames_sym o k (by rw [HN2.out]; exact hlt))
          rw [HN1.out] at HT
          clear hc c0 c1 c2 c3
          generalize o.syms[k]'(by rw [HN2.out]; exact hlt) = x at *
          go_wp2_with (at_builtin; refine wpList_append_src rfl (.tmp 30) (.tmp 37) 79 79 rfl (w.heap.size + 1) 9 i0 (.string ⟨#[]⟩) 1 16 Tryz.underlying79 hi hz0 hz1 hz2 rfl (by decide) _ _ _ rfl (World.ownsRow.alloc HO.out _) _ 1 [_] rfl (src_at Tryz.underlying79 _ [_] 1 1 1 _ rfl ?c0 _ (by simp)) ?c1 ?c2 ?c3 ?_)
          case c0 => intro u hu; obtain rfl := List.mem_singleton.1 hu; rfl
          case c1 => unfold maxLen; omega
          case c2 => omega
          case c3 => have := HB.out.lt; simp; omega
          intro v' w4 hown hgr
          have hown' : w4.ownsRow (w.heap.size + 1) 9 1 v' (n1 + k + 1) (svs ((allNames o).take (n1 + k)) ++ [Value.string x.name]) := hown
          obtain ⟨gb4, gc4, rfl⟩ := row_some hown' (owns_more_some hown')
          have HO4 : Hid (w4.ownsRow (w.heap.size + 1) 9 1 (.slice (some ⟨gb4, 0, none⟩) (n1 + k + 1) gc4) (n1 + k + 1) (svs ((allNames o).take (n1 + k + 1)))) := by show World.ownsRow _ _ _ _ _ _ _; rw [HT.out]; exact hown'
          have HF4 := Lib.hid ((HF.out.alloc _).grown hgr (fun q e => by have := owns_block HO.out q e; omega))
          have HB4 := Lib.hid ((HB.out.alloc _).grown hgr (fun e => by have := owns_block HO.out _ e.symm; omega))
          clear hown hown' hgr HO HF HB
          go_wp2_with fail
          go_roundw
          case rel => exact ⟨k + 1, gb4, gc4, by omega, by go_num, rfl, HO4, HB4, HF4⟩
          case measure => simp [intOf]; try omega
        · obtain rfl : n2 = k := by omega
          have hall : (allNames o).length = n1 + n2 := by rw [allNames_length, HN1.out, HN2.out]
          have hown : OwnS wr (w.heap.size + 1) (.slice (some ⟨gb, 0, none⟩) (n1 + n2) gc) (allNames o) := by
            have := HO.out
            rw [← hall, List.take_length] at this
            rw [← hall]
            exact this
          have HW := Lib.hid hown
          clear hown hall HO
          go_wp2_with fail
          go_ret
          exact ⟨_, rfl, owns_mono HW.out (Nat.le_succ _), HF.out.below⟩
set_option maxHeartbeats 2000000 in
theorem i_fixupsOf (w : World) (v : Value) (o : ObjD) (h : ObjAt w v o) (ho : objB o = true) :
    Calls Tryz.prog 42 #[v] w fun e w' => e = .returned (.int .i64 (fixN o.secs)) ∧ Below w.heap.size w w' := by
  obtain ⟨vs, vy, rfl, h1, h2⟩ := h
  have HH : Hid (SecsAt w vs o.secs ∧ SymsAt w vy o.syms) := ⟨h1, h2⟩
  obtain ⟨sa, sc, rfl, hcap, hmax, hnone, hcell⟩ := h1.form
  obtain ⟨ya, yc, rfl, hcap2, hmax2, hnone2, hcell2⟩ := h2.form
  have HC := Lib.hid hcell
  have HD := Lib.hid hcell2
  have hf1 := (objB_few ho).1
  have hf2 := (objB_few ho).2
  have HV := Lib.hid ho
  clear h1 h2 hcell hcell2 hnone hnone2 ho
  unfold maxLen at hmax hmax2
  obtain ⟨n1, hn1⟩ : ∃ n1, o.secs.length = n1 := ⟨_, rfl⟩
  obtain ⟨n2, hn2⟩ : ∃ n2, o.syms.length = n2 := ⟨_, rfl⟩
  have HN1 := Lib.hid hn1
  have HN2 := Lib.hid hn2
  rw [hn1] at hf1 hcap HH ⊢
  rw [hn2] at hf2 hcap2 HH ⊢
  clear hn1 hn2
  go_enter Tryz.func42, Tryz.ntmps42
  go_wp2_with fail
  have HB0 := Lib.hid (Blk.new w #[.slice sa n1 sc, .slice ya n2 yc] 27)
  go_loopw [3, 9] (fun q i wr => ∃ (k : Nat), k ≤ n1 ∧ i = .int .i64 k ∧ q = .int .i64 (fixN (o.secs.take k)) ∧ Hid (Blk wr w.heap.size #[.slice sa n1 sc, .slice ya n2 yc] 27) ∧ Hid (From w.heap.size w wr)) (fun _ i _ => n1 - (intOf i).toNat)
  case atStart => exact ⟨0, Nat.zero_le _, rfl, by simp [fixN], HB0, (From.start w).alloc _⟩
  case round =>
    clear HB0
    obtain ⟨k, hk, rfl, rfl, HB, HF⟩ := hrel
    have cb := HB.out.cell
    have zb := HB.out.lt
    by_cases hlt : k < n1
    · obtain ⟨b, off, rfl, hc⟩ := HC.out (by have := HN1.out; omega)
      obtain ⟨vb, vf, hb, hf, c0, c1, c2, c3, c4, c5⟩ := hc k (by rw [HN1.out]; exact hlt)
      obtain ⟨ba, bc, rfl, -⟩ := hb.form
      obtain ⟨fa, fc, rfl, -⟩ := hf.form
      have hbl : b < w.heap.size := World.block_lt_of_cell? w _ c0
      have g0 := (HF.out.below.cell (p := ⟨b, off + k * 6, none⟩) hbl).trans c0
      have g1 := (HF.out.below.cell (p := ⟨b, off + k * 6 + 1, none⟩) hbl).trans c1
      have g2 := (HF.out.below.cell (p := ⟨b, off + k * 6 + 2, none⟩) hbl).trans c2
      have g3 := (HF.out.below.cell (p := ⟨b, off + k * 6 + 3, none⟩) hbl).trans c3
      have g4 := (HF.out.below.cell (p := ⟨b, off + k * 6 + 4, none⟩) hbl).trans c4
      have g5 := (HF.out.below.cell (p := ⟨b, off + k * 6 + 5, none⟩) hbl).trans c5
      have i1 : (k : Int) < (n1 : Int) := by omega
      have i3 : (0 : Int) ≤ (k : Int) := by omega
      have HT := Lib.hid (fixN_step o.secs k (by rw [HN1.out]; exact hlt))
      have q1 := objB_fixN HV.out k
      have q2 := (objB_sec HV.out (List.getElem_mem (l := o.secs) (by rw [HN1.out]; exact hlt))).fixl
      clear hc c0 c1 c2 c3 c4 c5 hb hf
      generalize o.secs[k]'(by rw [HN1.out]; exact hlt) = x at *
      obtain ⟨S, hS⟩ : ∃ S, fixN (o.secs.take k) = S := ⟨_, rfl⟩
      rw [hS] at HT q1 ⊢
      clear hS
      have HB2 := Lib.hid (HB.out.alloc (.cells #[.string x.name, .int .i64 x.kind, .int .i64 x.align, .slice ba x.bytes.length bc, .int .i64 x.size, .slice fa x.fix.length fc] 53))
      have HF2 := Lib.hid (HF.out.alloc (.cells #[.string x.name, .int .i64 x.kind, .int .i64 x.align, .slice ba x.bytes.length bc, .int .i64 x.size, .slice fa x.fix.length fc] 53))
      go_wp2_with fail
      go_roundw
      case rel => exact ⟨k + 1, by omega, by go_num, by rw [HT.out]; go_num, HB2, HF2⟩
      case measure => simp [intOf]; try omega
    · obtain rfl : n1 = k := by omega
      have E : Hid (fixN (o.secs.take n1) = fixN o.secs) := by show _ = _; rw [← HN1.out, List.take_length]
      obtain ⟨S, hS⟩ : ∃ S, fixN (o.secs.take n1) = S := ⟨_, rfl⟩
      rw [hS] at E ⊢
      clear hS
      go_wp2_with fail
      go_ret
      exact ⟨by rw [← E.out]; try rfl, HF.out.below⟩
set_option maxHeartbeats 2000000 in
theorem s_l6Fixups (w : World) (v : Value) (o : ObjD) (h : ObjAt w v o) (ho : objB o = true) :
    Calls Tryz.prog 55 #[v] w fun e w' => e = .returned (.int .i64 (fixN o.secs)) ∧ Below w.heap.size w w' := by
  obtain ⟨vs, vy, rfl, h1, h2⟩ := h
  have HH : Hid (SecsAt w vs o.secs ∧ SymsAt w vy o.syms) := ⟨h1, h2⟩
  obtain ⟨sa, sc, rfl, hcap, hmax, hnone, hcell⟩ := h1.form
  obtain ⟨ya, yc, rfl, hcap2, hmax2, hnone2, hcell2⟩ := h2.form
  have HC := Lib.hid hcell
  have HD := Lib.hid hcell2
  have hf1 := (objB_few ho).1
  have hf2 := (objB_few ho).2
  have HV := Lib.hid ho
  clear h1 h2 hcell hcell2 hnone hnone2 ho
  unfold maxLen at hmax hmax2
  obtain ⟨n1, hn1⟩ : ∃ n1, o.secs.length = n1 := ⟨_, rfl⟩
  obtain ⟨n2, hn2⟩ : ∃ n2, o.syms.length = n2 := ⟨_, rfl⟩
  have HN1 := Lib.hid hn1
  have HN2 := Lib.hid hn2
  rw [hn1] at hf1 hcap HH ⊢
  rw [hn2] at hf2 hcap2 HH ⊢
  clear hn1 hn2
  go_enter Tryz.func55, Tryz.ntmps55
  go_wp2_with fail
  have HB0 := Lib.hid (Blk.new w #[.slice sa n1 sc, .slice ya n2 yc] 27)
  go_loopw [3, 4] (fun q i wr => ∃ (k : Nat), k ≤ n1 ∧ i = .int .i64 k ∧ q = .int .i64 (fixN (o.secs.take k)) ∧ Hid (Blk wr w.heap.size #[.slice sa n1 sc, .slice ya n2 yc] 27) ∧ Hid (From w.heap.size w wr)) (fun _ i _ => n1 - (intOf i).toNat)
  case atStart => exact ⟨0, Nat.zero_le _, rfl, by simp [fixN], HB0, (From.start w).alloc _⟩
  case round =>
    clear HB0
    obtain ⟨k, hk, rfl, rfl, HB, HF⟩ := hrel
    have cb := HB.out.cell
    have zb := HB.out.lt
    by_cases hlt : k < n1
    · obtain ⟨b, off, rfl, hc⟩ := HC.out (by have := HN1.out; omega)
      obtain ⟨vb, vf, hb, hf, c0, c1, c2, c3, c4, c5⟩ := hc k (by rw [HN1.out]; exact hlt)
      obtain ⟨ba, bc, rfl, -⟩ := hb.form
      obtain ⟨fa, fc, rfl, -⟩ := hf.form
      have hbl : b < w.heap.size := World.block_lt_of_cell? w _ c0
      have g0 := (HF.out.below.cell (p := ⟨b, off + k * 6, none⟩) hbl).trans c0
      have g1 := (HF.out.below.cell (p := ⟨b, off + k * 6 + 1, none⟩) hbl).trans c1
      have g2 := (HF.out.below.cell (p := ⟨b, off + k * 6 + 2, none⟩) hbl).trans c2
      have g3 := (HF.out.below.cell (p := ⟨b, off + k * 6 + 3, none⟩) hbl).trans c3
      have g4 := (HF.out.below.cell (p := ⟨b, off + k * 6 + 4, none⟩) hbl).trans c4
      have g5 := (HF.out.below.cell (p := ⟨b, off + k * 6 + 5, none⟩) hbl).trans c5
      have i1 : (k : Int) < (n1 : Int) := by omega
      have i3 : (0 : Int) ≤ (k : Int) := by omega
      have HT := Lib.hid (fixN_step o.secs k (by rw [HN1.out]; exact hlt))
      have q1 := objB_fixN HV.out k
      have q2 := (objB_sec HV.out (List.getElem_mem (l := o.secs) (by rw [HN1.out]; exact hlt))).fixl
      clear hc c0 c1 c2 c3 c4 c5 hb hf
      generalize o.secs[k]'(by rw [HN1.out]; exact hlt) = x at *
      obtain ⟨S, hS⟩ : ∃ S, fixN (o.secs.take k) = S := ⟨_, rfl⟩
      rw [hS] at HT q1 ⊢
      clear hS
      go_wp2_with fail
      go_roundw
      case rel => exact ⟨k + 1, by omega, by go_num, by rw [HT.out]; go_num, HB, HF⟩
      case measure => simp [intOf]; try omega
    · obtain rfl : n1 = k := by omega
      have E : Hid (fixN (o.secs.take n1) = fixN o.secs) := by show _ = _; rw [← HN1.out, List.take_length]
      obtain ⟨S, hS⟩ : ∃ S, fixN (o.secs.take n1) = S := ⟨_, rfl⟩
      rw [hS] at E ⊢
      clear hS
      go_wp2_with fail
      go_ret
      exact ⟨by rw [← E.out]; try rfl, HF.out.below⟩
/-! LenO -/
open Go.ChangeShapes Go.WideShapes Go.ChangeAt Go.RowKit Go.Joins
set_option linter.unusedSimpArgs false
set_option linter.unusedVariables false
set_option maxRecDepth 100000
/-- How many bytes an object has. -/
def lenO (o : ObjD) : Int := if objB o = true then 10 + 6 * (o.secs.length : Int) + 6 * (o.syms.length : Int) + 5 * (fixN o.secs : Int) + ((tableL (allNames o)).length : Int) + (bytN o.secs : Int) else 0
end Go.Proofs.YtpgmmjdianoaeaaGreat
