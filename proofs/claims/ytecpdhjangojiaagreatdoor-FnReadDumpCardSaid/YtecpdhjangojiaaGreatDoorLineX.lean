/- Accepted lines are canonical: the walk of the law; what it draws. -/
import Derived.Test.YtecpdhjangojiaaGreatDoorLineR
import Derived.Test.YtecpdhjangojiaaGreatDoorDumpW
import Derived.Test.YtecpdhjangojiaaGreatDoorDrawO
import Derived.Test.YtecpdhjangojiaaGreatDoorSame
namespace Go.Proofs.YtecpdhjangojiaaGreatDoor
open Go.ChangeShapes Go.WideShapes Go.ChangeAt Go.RowKit Go.Joins
set_option linter.unusedSimpArgs false
set_option linter.unusedVariables false
set_option maxRecDepth 100000
/-- Lines, few and short. -/
def SomeLines (w : World) (v : Value) : Prop := ∃ L : List ByteArray, StrsAt w v L ∧ (∀ s ∈ L, s.size ≤ 1000) ∧ L.length ≤ 1001
set_option maxHeartbeats 1000000 in
theorem s_DrawReadDump_any (w : World) (v : Value) (l : List UInt8) (h : BytesAt w v l) :
    Calls Tryz.prog 5 #[v] w (DrawB SomeLines w) := by
  obtain ⟨t0, ht0, ta0, ta1, ta2⟩ := info_parts info_str
  have H := Lib.hid h
  clear h
  go_enter Tryz.func5, Tryz.ntmps5
  go_wp2_with fail
  refine (l20Open_any w _ l H.out).mono ?_
  rintro e w1 ⟨g, rfl, hg, hR, hb⟩
  have HF := Lib.hid ((From.start w).call hb)
  have HR := Lib.hid hR
  have HGW : Hid (g < w1.heap.size) := hR.lt
  clear hb hR
  go_wp2_with fail
  refine (l20Object_any w1 g 0 HR.out (by decide) 0 (by decide) (by decide)).mono ?_
  rintro e w2 ⟨_, q, rfl, hO, hq, hD⟩
  obtain ⟨o, ho, hn1, hn2, -⟩ := hO.read
  obtain ⟨a, n, b, c, m, d, rfl⟩ := hO.form
  have HO := Lib.hid ho
  have HN := Lib.hid (⟨fun s hs => by have := hn1 s hs; unfold maxLen; omega, fun s hs => by have := hn2 s hs; unfold maxLen; omega⟩ : (∀ s ∈ o.secs, s.name.size ≤ maxLen) ∧ ∀ s ∈ o.syms, s.name.size ≤ maxLen)
  have HF2 := Lib.hid (HF.out.drawn hD hg)
  have HD := Lib.hid hD
  have hgl : g < w2.heap.size := hD.lt
  clear hO ho hn1 hn2 hD HF HR
  go_wp2_with fail
  refine (s_DumpObject w2 _ o HO.out HN.out).mono ?_
  rintro e w3 ⟨r, rfl, hr, k3⟩
  have hdl := dump_lines o
  have hdf := dump_few o
  obtain ⟨W, hW⟩ : ∃ W, (dumpL o).map txt = W := ⟨_, rfl⟩
  have HSZ : Hid (∀ s ∈ W, s.size ≤ 1000) := fun s hs => by
    rw [← hW] at hs
    obtain ⟨y, hy, rfl⟩ := List.mem_map.1 hs
    rw [txt_size]; exact hdl y hy
  have hWl : W.length ≤ 1000 := by rw [← hW, List.length_map]; exact hdf
  rw [hW] at hr
  obtain ⟨nW, hnW⟩ : ∃ m, W.length = m := ⟨_, rfl⟩
  have hr2 : w3.ownsRow w2.heap.size 9 1 r nW (svs W) := by have h9 := hr; unfold OwnS at h9; rw [hnW] at h9; exact h9
  obtain ⟨ra, rc, rfl⟩ := owns_form hr2
  have HNW := Lib.hid hnW
  rw [hnW] at hWl
  have HW := Lib.hid hr2
  have HF3 := Lib.hid (HF2.out.call k3)
  have HD3 := Lib.hid (HD.out.below k3)
  clear hr hr2 hnW k3 hW hdl hdf HO HN HF2 HD
  go_wp2_with fail
  refine (odd_any w3 g q HD3.out.rd (by omega) 3 (by decide) (by decide)).mono ?_
  rintro e w4 ⟨_, q4, rfl, ⟨bo, rfl⟩, hq4, hD⟩
  have hw4 := owns_drawn HW.out hD.grow hgl
  have HW4 := Lib.hid (reads_of_owns hw4)
  have HF4 := Lib.hid (HF3.out.drawn hD hg)
  have HD4 := Lib.hid (HD3.out.next hD)
  clear hD HW HF3 HD3 hw4
  cases bo
  · go_wp2_with fail
    go_ret
    exact ⟨_, rfl, ⟨W, (by show Reads _ _ _ _ _; rw [HNW.out]; exact HW4.out), HSZ.out, by rw [HNW.out]; omega⟩, HF4.out⟩
  · obtain ⟨b4, hb4⟩ : ∃ x, w4.heap.size = x := ⟨_, rfl⟩
    have hG4 : (w4.alloc (.cells #[] 9)).ownsRow b4 9 1 (.slice (some ⟨b4, 0, none⟩) 0 0) 0 (svs []) := by
      have h9 := World.ownsRow_lit w4 #[] (e := 9) (size := 1) (base := w4.heap.size) 0 (Nat.le_refl _) (Nat.zero_le _) rfl
      rw [hb4] at h9
      exact h9
    have HG4 := Lib.hid hG4
    have hu4 := ((From.start w4).alloc (.cells #[] 9)).below
    have HW5 := Lib.hid (Reads.below HW4.out (Nat.le_refl _) hu4)
    have HF5 := Lib.hid (HF4.out.call hu4)
    have HD5 := Lib.hid (HD4.out.below hu4)
    have hwb : w.heap.size ≤ b4 := by rw [← hb4]; exact HF4.out.le
    have hgb : g < b4 := by rw [← hb4]; exact HD4.out.lt
    have BS5 : Hid (b4 ≤ (w4.alloc (.cells #[] 9)).heap.size) := by show _ ≤ _; simp [hb4]
    have HB1 : Hid (w1.heap.size ≤ b4) := by show _ ≤ _; rw [← hb4]; exact HD4.out.grow.size
    clear hu4 hG4 HW4 HF4 HD4
    go_wp2_with (at_builtin; go_loud (refine wpList_append_src rfl (.tmp 12) (.tmp 13) 23 23 rfl b4 9 t0 (.string ⟨#[]⟩) 1 16 Tryz.underlying23 ht0 ta0 ta1 ta2 rfl (by decide) _ _ _ rfl HG4.out _ nW (svs W) rfl (src_reads Tryz.underlying23 HW5.out (svs_one _)) ?c1 ?c2 ?c3 ?_))
    case c1 => unfold maxLen; omega
    case c2 => omega
    case c3 => exact BS5.out
    intro v' w6 hown hgr
    try rw [Nat.zero_add] at hown
    have hG6 : OwnS w6 b4 v' W := by show World.ownsRow _ _ _ _ _ _ _; rw [HNW.out]; exact hown
    have HF6 := Lib.hid (HF5.out.grown hgr (fun k hk => by simp only [Value.ownBlock, Option.some.injEq] at hk; omega))
    have HD6 := Lib.hid (HD5.out.grownRow hgr (fun k hk => by simp only [Value.ownBlock, Option.some.injEq] at hk; have := HB1.out; omega) HGW.out)
    have BS6 : Hid (b4 ≤ w6.heap.size) := Nat.le_trans BS5.out hgr.size
    have hr6 : w6.ownsRow b4 9 1 v' nW (svs W) := by have h9 := hG6; unfold OwnS at h9; rw [HNW.out] at h9; exact h9
    obtain ⟨ga, gc, rfl⟩ := owns_form hr6
    have HG6 := Lib.hid hr6
    clear hown hgr hG6 hr6 HW5 HF5 HD5 HG4 BS5
    go_wp2_with fail
    refine (pick_over w6 w6 g q4 (Drawn.start HD6.out.rd) (by omega) _ _ 10 (by decide) (by decide)).mono ?_
    rintro e w7 ⟨x, rfl, hx0, hx1, hD, hB⟩
    obtain ⟨s, hs, hc⟩ := lit_str hB x hx0 hx1 20 rfl
    have HF7 := Lib.hid (HF6.out.drawn hD hg)
    have HG7 := Lib.hid (owns_drawn HG6.out hD.grow hgb)
    have BS7 : Hid (b4 ≤ w7.heap.size) := Nat.le_trans BS6.out hD.grow.size
    have HSS : Hid (s.size ≤ 20) := hs
    clear hD hB hs HF6 HG6 HD6 BS6
    go_wp2_with (at_builtin; go_loud (refine wpList_append_own rfl (.tmp 14) (.tmp 20) 23 23 rfl b4 9 t0 (.string ⟨#[]⟩) 1 16 Tryz.underlying23 ht0 ta0 ta1 ta2 rfl (by decide) _ _ _ rfl (World.ownsRow.alloc HG7.out _) _ 1 [_] rfl (src_new Tryz.underlying23 _ [_] 1 1 1 _ rfl ?c0) ?c1 ?c2 ?c3 ?_))
    case c0 => first | rfl | exact ⟨rfl⟩ | (intro u hu; obtain rfl := List.mem_singleton.1 hu; rfl)
    case c1 => unfold maxLen; omega
    case c2 => omega
    case c3 => have h9 := BS7.out; first | omega | (simp; omega)
    intro v' w9 hown hgr hpl
    have hG9 : OwnS w9 b4 v' (W ++ [s]) := owns_snocS (by rw [HNW.out]; exact hown)
    have HG9 := Lib.hid hG9
    have HF9 := Lib.hid ((HF7.out.alloc (.cells #[.string s] 9)).grown hgr (fun k hk => by have := (World.ownsRow.lt HG7.out k hk).1; omega))
    have hwl : (W ++ [s]).length ≤ 1001 := by rw [List.length_append, HNW.out]; simp; omega
    have HWL := Lib.hid hwl
    have HSZ9 : Hid (∀ y ∈ W ++ [s], y.size ≤ 1000) := fun y hy => by
      rcases List.mem_append.1 hy with hy | hy
      · exact HSZ.out y hy
      · obtain rfl := List.mem_singleton.1 hy
        have := HSS.out; omega
    clear hown hgr hpl hG9 hwl HF7 HG7
    go_wp2_with fail
    go_ret
    exact ⟨_, rfl, ⟨_, OwnS.reads HG9.out, HSZ9.out, HWL.out⟩, HF9.out⟩
theorem nameB_smallD {s : ByteArray} (h : nameB s = true) : s.size ≤ maxLen := by
  unfold nameB at h
  rw [Bool.and_eq_true] at h
  have := ((withinB_iff _ _ _).1 h.2).2
  unfold maxLen
  omega
theorem objB_smallD {o : ObjD} (h : objB o = true) : (∀ s ∈ o.secs, s.name.size ≤ maxLen) ∧ ∀ s ∈ o.syms, s.name.size ≤ maxLen :=
  ⟨fun s hs => nameB_smallD (objB_sec h hs).name, fun s hs => nameB_smallD (objB_sym h hs).name⟩
set_option maxHeartbeats 2000000 in
theorem walk_FnReadDump (w : World) (v : Value) (l : List UInt8) (h : BytesAt w v l) (he : Env w) :
    Calls Tryz.prog 3 #[v] w fun e w' => e = .returned (.bool true) ∧ Below w.heap.size w w' := by
  obtain ⟨a, cap, hv, hcap, hmax, hnone, hcell⟩ := h.form
  clear hnone hcell
  have HE : Hid (∀ u, Below w.heap.size w u → Env u) := fun u hu => he.call hu
  clear he
  by_cases hl : (l.length : Int) ≤ 1048576
  · have H := Lib.hid h
    clear h
    subst hv
    unfold maxLen at hmax
    go_enter Tryz.func3, Tryz.ntmps3
    go_wp2_with fail
    refine (s_DrawReadDump_any w _ l H.out).mono ?_
    rintro e w1 ⟨v1, rfl, ⟨W, hW, hWs, hWl⟩, hF⟩
    obtain ⟨ba, bc, rfl, -⟩ := hW.form
    have HF1 := Lib.hid hF
    have HB1 := Lib.hid hW
    have HSZ : Hid (∀ s ∈ W, s.size ≤ 1073741824) := fun s hs => by have := hWs s hs; omega
    have hWl2 : W.length ≤ 1073741824 := by omega
    clear hF hW hWs
    go_wp2_with fail
    refine (i_ReadDump w1 _ W HB1.out HSZ.out hWl2 (HE.out _ HF1.out.below)).mono ?_
    rintro e w2 ⟨r2, rfl, o2, k2⟩
    obtain ⟨R, hR⟩ : ∃ R, readD lineI (W.map bytesS) = R := ⟨_, rfl⟩
    rw [hR] at o2
    obtain ⟨o, ho⟩ : ∃ o : ObjD, R.getD ⟨[], []⟩ = o := ⟨_, rfl⟩
    rw [ho] at o2
    rw [hR]
    have HRR := Lib.hid hR
    clear hR
    obtain ⟨ta, tc, tb, td, rfl⟩ := o2.reads.agg
    have HF2 := Lib.hid ((HF1.out.call k2).alloc (.cells #[.slice ta o.secs.length tc, .slice tb o.syms.length td] 28))
    have HB2 := Lib.hid ((HB1.out.below (Nat.le_refl _) k2).below (Nat.le_refl _) ((From.start w2).alloc (.cells #[.slice ta o.secs.length tc, .slice tb o.syms.length td] 28)).below)
    have HO2 := Lib.hid (o2.reads.below (Nat.le_refl _) ((From.start w2).alloc (.cells #[.slice ta o.secs.length tc, .slice tb o.syms.length td] 28)).below)
    have HX2 := Lib.hid (Blk.new w2 #[.slice ta o.secs.length tc, .slice tb o.syms.length td] 28)
    clear k2 o2 HF1 HB1
    go_wp2_with fail
    refine (s_ReadDump _ _ W HB2.out HSZ.out hWl2).mono ?_
    rw [readD_eq lineS_reads lineI_reads, HRR.out]
    rintro e w3 ⟨r3, rfl, o3, k3⟩
    rw [ho] at o3
    obtain ⟨ua, uc, ub, ud, rfl⟩ := o3.reads.agg
    have HF3 := Lib.hid ((HF2.out.call k3).alloc (.cells #[.slice ua o.secs.length uc, .slice ub o.syms.length ud] 28))
    have HB3 := Lib.hid ((HB2.out.below (Nat.le_refl _) k3).below (Nat.le_refl _) ((From.start w3).alloc (.cells #[.slice ua o.secs.length uc, .slice ub o.syms.length ud] 28)).below)
    have HO3 := Lib.hid ((HO2.out.below (Nat.le_refl _) k3).below (Nat.le_refl _) ((From.start w3).alloc (.cells #[.slice ua o.secs.length uc, .slice ub o.syms.length ud] 28)).below)
    have HX3 := Lib.hid ((HX2.out.call k3).alloc (.cells #[.slice ua o.secs.length uc, .slice ub o.syms.length ud] 28))
    have HQ3 := Lib.hid (o3.reads.below (Nat.le_refl _) ((From.start w3).alloc (.cells #[.slice ua o.secs.length uc, .slice ub o.syms.length ud] 28)).below)
    have HY3 := Lib.hid (Blk.new w3 #[.slice ua o.secs.length uc, .slice ub o.syms.length ud] 28)
    clear k3 o3 HF2 HB2 HO2 HX2
    have cX := HX3.out.cell
    have zX := HX3.out.lt
    have cY := HY3.out.cell
    have zY := HY3.out.lt
    go_wp2_with fail
    refine (sameObject_same _ _ _ o HO3.out HQ3.out).mono ?_
    rintro e w5 ⟨rfl, k5⟩
    have HF5 := Lib.hid (HF3.out.call k5)
    have HB5 := Lib.hid (HB3.out.below (Nat.le_refl _) k5)
    have HO5 := Lib.hid (HO3.out.below (Nat.le_refl _) k5)
    have HX5 := Lib.hid (HX3.out.call k5)
    clear k5 cX zX cY zY HF3 HB3 HO3 HX3 HQ3 HY3
    have cX := HX5.out.cell
    have zX := HX5.out.lt
    cases R with
    | none =>
      simp only [Option.getD_none] at ho
      subst ho
      simp only [List.length_nil] at cX ⊢
      simp only [Option.isSome_none]
      go_wp2_with (first | (go_at_call 9; (with_reducible refine (alive_any _).mono ?_); rintro e w' ⟨rfl, rfl⟩))
      go_ret
      exact ⟨rfl, HF5.out.below⟩
    | some O =>
      obtain ⟨h1, h2⟩ := (readD_iff lineI_reads _ O).1 HRR.out
      simp only [Option.getD_some] at ho
      subst ho
      have HNL : Hid ((∀ s ∈ O.secs, s.name.size ≤ maxLen) ∧ ∀ s ∈ O.syms, s.name.size ≤ maxLen) := objB_smallD h1
      have HW : Hid ((dumpL O).map txt = W) := by show _ = _; rw [h2, List.map_map]; simp [Function.comp_def, txt_bytesS]
      simp only [Option.isSome_some]
      clear h1 h2
      go_wp2_with fail
      refine (i_DumpObject w5 _ O HO5.out HNL.out (HE.out _ HF5.out.below).tab).mono ?_
      unfold RetL
      rw [HW.out]
      rintro e w7 ⟨r7, rfl, o7, k7⟩
      have h7 := OwnS.reads o7
      obtain ⟨ra, rc, rfl, -⟩ := h7.form
      have HF7 := Lib.hid (HF5.out.call k7)
      have HB7 := Lib.hid (HB5.out.below (Nat.le_refl _) k7)
      have HR7 := Lib.hid h7
      clear k7 o7 h7 cX zX HF5 HB5 HO5 HX5
      go_wp2_with fail
      refine (l_sameTexts_same w7 _ _ W HR7.out HB7.out).mono ?_
      rintro e w8 ⟨rfl, k8⟩
      have HF8 := Lib.hid (HF7.out.call k8)
      clear k8
      go_wp2_with fail
      go_ret
      exact ⟨rfl, HF8.out.below⟩
  · subst hv
    have hl' : (1048576 : Int) < (l.length : Int) := by omega
    clear hl h
    unfold maxLen at hmax
    go_enter Tryz.func3, Tryz.ntmps3
    go_wp2_with fail
    go_ret
    exact ⟨rfl, Below.refl _ _⟩
end Go.Proofs.YtecpdhjangojiaaGreatDoor
