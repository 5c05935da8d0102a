/- Objects stripped: the reference. -/
import Derived.Test.YthccjimckjecjaaKeepS
namespace Go.Proofs.Ythccjimckjecjaa
open Go.ChangeShapes Go.WideShapes Go.ChangeAt Go.RowKit Go.Joins
set_option linter.unusedSimpArgs false
set_option linter.unusedVariables false
set_option maxRecDepth 100000
theorem bbs_append (a b : List Bool) : bbs (a ++ b) = bbs a ++ bbs b := by simp [bbs]
theorem maskL_take (p : Nat → SymD → Bool) (l : List SymD) (k : Nat) (hk : k < l.length) : maskL p (l.take (k + 1)) = maskL p (l.take k) ++ [p k l[k]] := by
  unfold maskL
  rw [List.take_succ_eq_append_getElem hk, List.mapIdx_append]
  simp [Nat.min_eq_left (Nat.le_of_lt hk)]
theorem OwnObj.setBelow {w : World} {base : Nat} {v : Value} {o : ObjD} (h : OwnObj w base v o) {a : Addr} (ha : a.block < base) (u : Value) : OwnObj (w.setCell a u) base v o := by
  obtain ⟨vs, vy, ls, h1, h2, h3, h4, h5⟩ := h
  exact ⟨vs, vy, ls, h1, h2, h3.setBelow ha u, ownsRow_setCell_below h4 ha u, h5⟩
set_option maxHeartbeats 8000000 in
theorem s_StripLocals (w : World) (v : Value) (o : ObjD) (h : ObjAt w v o) (hw : FewObj o) (hs : (∀ s ∈ o.secs, s.name.size ≤ maxLen) ∧ ∀ s ∈ o.syms, s.name.size ≤ maxLen) :
    Calls Try.prog 35 #[v] w fun e w' => ∃ r, e = .returned r ∧ OwnObj w' w.heap.size r (stripO localK o) ∧ Below w.heap.size w w' := by
  obtain ⟨l0, hl0, la0, la1, la2⟩ := info_parts info_bool
  have HOB := Lib.hid h
  have HN0 := Lib.hid hs
  have HFw := Lib.hid hw
  have hf2 := hw.2.1
  obtain ⟨sa, sc, ya, yc, rfl⟩ := h.agg
  clear h hs hw
  obtain ⟨n1, hn1⟩ : ∃ n1, o.secs.length = n1 := ⟨_, rfl⟩
  obtain ⟨n2, hn2⟩ : ∃ n2, o.syms.length = n2 := ⟨_, rfl⟩
  have HN1 := Lib.hid hn1
  have HN2 := Lib.hid hn2
  rw [hn2] at hf2
  rw [hn1, hn2] at HOB ⊢
  clear hn1 hn2
  have HF0 := Lib.hid (((From.start w).alloc (.cells #[.slice sa n1 sc, .slice ya n2 yc] 26)).alloc (.cells #[.slice none 0 0, .slice none 0 0] 26))
  have HB0 := Lib.hid ((Blk.new w #[.slice sa n1 sc, .slice ya n2 yc] 26).alloc (.cells #[.slice none 0 0, .slice none 0 0] 26))
  have hr0 : Blk ((w.alloc (.cells #[.slice sa n1 sc, .slice ya n2 yc] 26)).alloc (.cells #[.slice none 0 0, .slice none 0 0] 26)) (w.heap.size + 1) #[.slice none 0 0, .slice none 0 0] 26 := Blk.newAt _ _ _ _ (by simp)
  have HR0 := Lib.hid hr0
  clear hr0
  cases hq : objB o
  · have E : stripO localK o = ⟨[], []⟩ := by unfold stripO; rw [hq]; rfl
    rw [E]
    go_enter Try.func35, Try.ntmps35
    go_wp2_with fail
    generalize hw1 : (w.alloc (.cells #[.slice sa n1 sc, .slice ya n2 yc] 26)).alloc (.cells #[.slice none 0 0, .slice none 0 0] 26) = W at *
    clear hw1
    refine (s_l1OwnObject W _ o (HOB.out.below (Nat.le_refl _) HF0.out.below) HFw.out).mono ?_
    rintro e w1 ⟨r, rfl, ho, k1⟩
    have hrd := ho.reads
    obtain ⟨ra, rc, rb, rd, rfl⟩ := hrd.agg
    rw [HN1.out, HN2.out] at ho hrd ⊢
    have HF1 := Lib.hid (HF0.out.call k1)
    have HB1 := Lib.hid (HB0.out.call k1)
    have HR1 := Lib.hid (HR0.out.call k1)
    have HO1 := Lib.hid ho
    have hwW : w.heap.size < W.heap.size := by have := HB0.out.lt; exact this
    have HO3 := Lib.hid ((HO1.out.setBelow (a := ⟨w.heap.size, 0, none⟩) hwW (.slice ra n1 rc)).setBelow (a := ⟨w.heap.size, 1, none⟩) hwW (.slice rb n2 rd))
    have cb := HB1.out.cell
    have fb := HB1.out.frozen
    have zb := HB1.out.lt
    clear ho hrd k1 HF0 HB0 HR0
    have hb2 : Blk ((w1.setCell ⟨w.heap.size, 0, none⟩ (.slice ra n1 rc)).setCell ⟨w.heap.size, 1, none⟩ (.slice rb n2 rd)) w.heap.size #[.slice ra n1 rc, .slice rb n2 rd] 26 := by
      have := (HB1.out.set (o := 0) (.slice ra n1 rc)).set (o := 1) (.slice rb n2 rd)
      simpa using this
    have HB2 := Lib.hid hb2
    have HF2 := Lib.hid ((HF1.out.setCell (p := ⟨w.heap.size, 0, none⟩) (Nat.le_refl _) (.slice ra n1 rc)).setCell (p := ⟨w.heap.size, 1, none⟩) (Nat.le_refl _) (.slice rb n2 rd))
    have HR2 := Lib.hid ((HR1.out.other (p := ⟨w.heap.size, 0, none⟩) (by show w.heap.size ≠ _; omega) (.slice ra n1 rc)).other (p := ⟨w.heap.size, 1, none⟩) (by show w.heap.size ≠ _; omega) (.slice rb n2 rd))
    have HO2 := Lib.hid HO3.out.reads
    clear hb2 HB1 HF1 HR1 HO1 HO3
    go_wp2_with fail
    generalize hw2 : (w1.setCell ⟨w.heap.size, 0, none⟩ (.slice ra n1 rc)).setCell ⟨w.heap.size, 1, none⟩ (.slice rb n2 rd) = w2 at *
    clear hw2 cb fb zb
    refine (s_ObjectValid _ _ o HO2.out HN0.out).mono ?_
    rw [hq]
    rintro e w3 ⟨rfl, k3⟩
    have HF3 := Lib.hid (HF2.out.call k3)
    have HR3 := Lib.hid (HR2.out.call k3)
    have cR := HR3.out.cell
    have fR := HR3.out.frozen
    have zR := HR3.out.lt
    clear k3 hq
    go_wp2_with fail
    refine bodyPost_ret (v := .agg #[.slice none 0 0, .slice none 0 0]) (by simp [results, Try.results35, go_sem, cR, zR]) rfl ⟨_, rfl, ⟨_, _, [], rfl, rfl, ⟨World.ownsRow_nil _ _ _ _, (fun x hx => by cases hx), by simp [blksOf, Value.ownBlock]⟩, World.ownsRow_nil _ _ _ _, fun k hk => by cases hk⟩, ?_⟩
    exact ((HF3.out.setCell (p := ⟨w.heap.size + 1, 0, none⟩) (Nat.le_succ _) (.slice none 0 0)).setCell (p := ⟨w.heap.size + 1, 1, none⟩) (Nat.le_succ _) (.slice none 0 0)).below
  have HFew := Lib.hid (objB_fewO hq)
  have HFX : Hid (∀ s ∈ o.secs, ∀ f ∈ s.fix, 0 ≤ f.2.2.1 ∧ f.2.2.1 < o.syms.length) := fun s hs f hf => ((objB_sec hq hs).fix f hf).to
  have EI : Hid (stripO localK o = keepO o (maskL (localK o.secs) o.syms)) := by show _ = _; unfold stripO; rw [hq, if_pos rfl]
  go_enter Try.func35, Try.ntmps35
  go_wp2_with fail
  generalize hw1 : (w.alloc (.cells #[.slice sa n1 sc, .slice ya n2 yc] 26)).alloc (.cells #[.slice none 0 0, .slice none 0 0] 26) = W at *
  clear hw1
  refine (s_l1OwnObject W _ o (HOB.out.below (Nat.le_refl _) HF0.out.below) HFw.out).mono ?_
  rintro e w1 ⟨r, rfl, ho, k1⟩
  have hrd := ho.reads
  obtain ⟨ra, rc, rb, rd, rfl⟩ := hrd.agg
  rw [HN1.out, HN2.out] at ho hrd ⊢
  have HF1 := Lib.hid (HF0.out.call k1)
  have HB1 := Lib.hid (HB0.out.call k1)
  have HR1 := Lib.hid (HR0.out.call k1)
  have HO1 := Lib.hid ho
  have hwW : w.heap.size < W.heap.size := by have := HB0.out.lt; exact this
  have HO3 := Lib.hid ((HO1.out.setBelow (a := ⟨w.heap.size, 0, none⟩) hwW (.slice ra n1 rc)).setBelow (a := ⟨w.heap.size, 1, none⟩) hwW (.slice rb n2 rd))
  have cb := HB1.out.cell
  have fb := HB1.out.frozen
  have zb := HB1.out.lt
  clear ho hrd k1 HF0 HB0 HR0
  have hb2 : Blk ((w1.setCell ⟨w.heap.size, 0, none⟩ (.slice ra n1 rc)).setCell ⟨w.heap.size, 1, none⟩ (.slice rb n2 rd)) w.heap.size #[.slice ra n1 rc, .slice rb n2 rd] 26 := by
    have := (HB1.out.set (o := 0) (.slice ra n1 rc)).set (o := 1) (.slice rb n2 rd)
    simpa using this
  have HB2 := Lib.hid hb2
  have HF2 := Lib.hid ((HF1.out.setCell (p := ⟨w.heap.size, 0, none⟩) (Nat.le_refl _) (.slice ra n1 rc)).setCell (p := ⟨w.heap.size, 1, none⟩) (Nat.le_refl _) (.slice rb n2 rd))
  have HR2 := Lib.hid ((HR1.out.other (p := ⟨w.heap.size, 0, none⟩) (by show w.heap.size ≠ _; omega) (.slice ra n1 rc)).other (p := ⟨w.heap.size, 1, none⟩) (by show w.heap.size ≠ _; omega) (.slice rb n2 rd))
  have HO2 := Lib.hid HO3.out.reads
  clear hb2 HB1 HF1 HR1 HO1 HO3
  go_wp2_with fail
  generalize hw2 : (w1.setCell ⟨w.heap.size, 0, none⟩ (.slice ra n1 rc)).setCell ⟨w.heap.size, 1, none⟩ (.slice rb n2 rd) = w2 at *
  clear hw2 cb fb zb
  refine (s_ObjectValid _ _ o HO2.out HN0.out).mono ?_
  rw [hq]
  rintro e w3 ⟨rfl, k3⟩
  have HF3 := Lib.hid (HF2.out.call k3)
  have HR3 := Lib.hid (HR2.out.call k3)
  have HB3 := Lib.hid (HB2.out.call k3)
  have HO3 := Lib.hid (HO2.out.below (Nat.le_refl _) k3)
  clear k3 hq HF2 HR2 HB2 HO2
  have HF4 := Lib.hid (HF3.out.alloc (.cells #[] 4))
  have HR4 := Lib.hid (HR3.out.alloc (.cells #[] 4))
  have HB4 := Lib.hid (HB3.out.alloc (.cells #[] 4))
  have HO4 := Lib.hid (HO3.out.below (Nat.le_refl _) ((From.start w3).alloc (.cells #[] 4)).below)
  have hk4 := World.ownsRow_lit w3 #[] (e := 4) (size := 1) (base := w3.heap.size) 0 (Nat.le_refl _) (Nat.zero_le _) rfl
  have HK4 : Hid ((w3.alloc (.cells #[] 4)).ownsRow w3.heap.size 4 1 (.slice (some ⟨w3.heap.size, 0, none⟩) 0 0) 0 (bbs (maskL (localK o.secs) (o.syms.take 0)))) := by show World.ownsRow _ _ _ _ _ _ _; simpa [maskL, bbs] using hk4
  have HX4 := Lib.hid ((From.start w3).alloc (.cells #[] 4))
  have hBM : w.heap.size < w3.heap.size := HB3.out.lt
  have hRM : w.heap.size + 1 < w3.heap.size := HR3.out.lt
  obtain ⟨vs', vy', hv', hsx, hyx⟩ := HO3.out
  simp only [Value.agg.injEq, Array.mk.injEq, List.cons.injEq, and_true] at hv'
  obtain ⟨rfl, rfl⟩ := hv'
  obtain ⟨ra', rc', hv', -, -, -, hcell⟩ := hyx.form
  simp only [Value.slice.injEq] at hv'
  obtain ⟨rfl, -, rfl⟩ := hv'
  have HD := Lib.hid hcell
  clear hk4 hsx hyx hcell HF4 HO4
  go_wp2_with fail
  generalize hw4 : w3.alloc (.cells #[] 4) = w4 at *
  clear hw4
  obtain ⟨M, hM⟩ : ∃ M, w3.heap.size = M := ⟨_, rfl⟩
  simp only [hM] at HK4 HX4 hBM hRM ⊢
  have HMe := Lib.hid hM
  clear hM
  go_loopw [3, 4] (fun kp i wr => ∃ (k : Nat) (ka : Option Addr) (kc : Nat), k ≤ n2 ∧ i = .int .i64 k ∧ kp = .slice ka k kc ∧ Hid (wr.ownsRow M 4 1 (.slice ka k kc) k (bbs (maskL (localK o.secs) (o.syms.take k)))) ∧ Hid (Blk wr w.heap.size #[.slice ra n1 rc, .slice rb n2 rd] 26) ∧ Hid (Blk wr (w.heap.size + 1) #[.slice none 0 0, .slice none 0 0] 26) ∧ Hid (From M w3 wr)) (fun _ i _ => n2 - (intOf i).toNat)
  case atStart => exact ⟨0, _, _, Nat.zero_le _, rfl, rfl, HK4, HB4, HR4, HX4⟩
  case round =>
    clear HK4 HB4 HR4 HX4
    obtain ⟨k, ka, kc, hk, rfl, rfl, HK, HB, HR, HX⟩ := hrel
    have cB := HB.out.cell
    have zB1 := HB.out.lt
    by_cases hlt : k < n2
    · have i1 : (k : Int) < (n2 : Int) := by omega
      have i3 : (0 : Int) ≤ (k : Int) := by omega
      obtain ⟨b, off, rfl, hc⟩ := HD.out (by have := HN2.out; omega)
      have hltL : k < o.syms.length := by rw [HN2.out]; exact hlt
      have c0 := hc k hltL
      have hbl : b < w3.heap.size := World.block_lt_of_cell? w3 _ c0.1
      rw [HMe.out] at hbl
      have HC := Lib.hid (c0.2.1)
      have HT := Lib.hid (maskL_take (localK o.secs) o.syms k hltL)
      have p0 := (HX.out.below.cell (p := ⟨b, off + k * 4 + 1, none⟩) hbl).trans HC.out
      clear hc c0
      generalize o.syms[k] = x at *
      obtain ⟨bq, hbq⟩ : ∃ bq, localK o.secs k x = bq := ⟨_, rfl⟩
      rw [hbq] at HT
      by_cases hx : x.bind = 0
      · have e0 : (x.bind != 0) = false := by simpa using hx
        have E : Hid (usedB o.secs k = bq) := by show _ = _; rw [← hbq]; unfold localK; simp [hx]
        clear hx hbq
        go_wp2_with fail
        refine (s_l9Used wr _ o (HO3.out.below (Nat.le_of_eq HMe.out) HX.out.below) (k : Int)).mono ?_
        rw [E.out]
        rintro e w5 ⟨rfl, k5⟩
        have HK := Lib.hid (owns_call HK.out k5)
        have HB := Lib.hid (HB.out.call k5)
        have HR := Lib.hid (HR.out.call k5)
        have HX := Lib.hid (HX.out.call k5)
        clear k5 p0 cB zB1
        have cB := HB.out.cell
        have zB1 := HB.out.lt
        go_wp2_with (at_builtin; refine wpList_append_src rfl (.tmp 19) (.tmp 32) 99 99 rfl M 4 l0 _ 1 1 Try.underlying99 hl0 la0 la1 la2 rfl (by decide) _ _ _ rfl (World.ownsRow.alloc HK.out _) _ 1 [_] rfl (src_new Try.underlying99 _ [_] 1 1 1 _ rfl ?c0) ?c1 ?c2 ?c3 ?_)
        case c0 => intro u hu; obtain rfl := List.mem_singleton.1 hu; rfl
        case c1 => unfold maxLen; omega
        case c2 => omega
        case c3 => have := HX.out.le; simp; omega
        intro v' w6 hown hgr
        have hK7 : w6.ownsRow M 4 1 v' (k + 1) (bbs (maskL (localK o.secs) (o.syms.take (k + 1)))) := by rw [HT.out, bbs_append]; skip; exact hown
        obtain ⟨va, vc, rfl⟩ := owns_form hK7
        have HK9 := Lib.hid hK7
        have hKr : (_ : World).ownsRow M 4 1 (.slice ka k kc) k (bbs (maskL (localK o.secs) (o.syms.take k))) := World.ownsRow.alloc HK.out (.cells #[.bool bq] 4)
        have HB9 := Lib.hid (Blk.grown (HB.out.alloc (.cells #[.bool bq] 4)) hgr (fun e => blk_apart (HB.out.alloc _) hKr (by decide) e))
        have HR9 := Lib.hid (Blk.grown (HR.out.alloc (.cells #[.bool bq] 4)) hgr (fun e => blk_apart (HR.out.alloc _) hKr (by decide) e))
        have HX9 := Lib.hid (From.grown (HX.out.alloc (.cells #[.bool bq] 4)) hgr (fun k' hk' => (World.ownsRow.lt HK.out k' hk').1))
        clear hown hgr hK7 hKr HK HB HR HX cB zB1
        go_wp2_with fail
        go_roundw
        case rel => exact ⟨k + 1, va, vc, by omega, by go_num, rfl, HK9, HB9, HR9, HX9⟩
        case measure => simp [intOf]; try omega
      · have e0 : (x.bind != 0) = true := by simpa using hx
        have E : Hid (bq = true) := by show _ = _; rw [← hbq]; unfold localK; simp [hx]
        clear hx hbq
        go_wp2_with (at_builtin; refine wpList_append_src rfl (.tmp 19) (.tmp 32) 99 99 rfl M 4 l0 _ 1 1 Try.underlying99 hl0 la0 la1 la2 rfl (by decide) _ _ _ rfl (World.ownsRow.alloc HK.out _) _ 1 [_] rfl (src_new Try.underlying99 _ [_] 1 1 1 _ rfl ?c0) ?c1 ?c2 ?c3 ?_)
        case c0 => intro u hu; obtain rfl := List.mem_singleton.1 hu; rfl
        case c1 => unfold maxLen; omega
        case c2 => omega
        case c3 => have := HX.out.le; simp; omega
        intro v' w6 hown hgr
        have hK7 : w6.ownsRow M 4 1 v' (k + 1) (bbs (maskL (localK o.secs) (o.syms.take (k + 1)))) := by rw [HT.out, bbs_append]; rw [E.out]; exact hown
        obtain ⟨va, vc, rfl⟩ := owns_form hK7
        have HK9 := Lib.hid hK7
        have hKr : (_ : World).ownsRow M 4 1 (.slice ka k kc) k (bbs (maskL (localK o.secs) (o.syms.take k))) := World.ownsRow.alloc HK.out (.cells #[.bool true] 4)
        have HB9 := Lib.hid (Blk.grown (HB.out.alloc (.cells #[.bool true] 4)) hgr (fun e => blk_apart (HB.out.alloc _) hKr (by decide) e))
        have HR9 := Lib.hid (Blk.grown (HR.out.alloc (.cells #[.bool true] 4)) hgr (fun e => blk_apart (HR.out.alloc _) hKr (by decide) e))
        have HX9 := Lib.hid (From.grown (HX.out.alloc (.cells #[.bool true] 4)) hgr (fun k' hk' => (World.ownsRow.lt HK.out k' hk').1))
        clear hown hgr hK7 hKr HK HB HR HX cB zB1
        go_wp2_with fail
        go_roundw
        case rel => exact ⟨k + 1, va, vc, by omega, by go_num, rfl, HK9, HB9, HR9, HX9⟩
        case measure => simp [intOf]; try omega
    · obtain rfl : n2 = k := by omega
      have HKf : Hid (wr.ownsRow M 4 1 (.slice ka n2 kc) n2 (bbs (maskL (localK o.secs) o.syms))) := by show World.ownsRow _ _ _ _ _ _ _; have := HK.out; rw [← HN2.out, List.take_length, HN2.out] at this; exact this
      have HRd : Hid (Reads wr 1 (.slice ka n2 kc) (maskL (localK o.secs) o.syms).length (bbs (maskL (localK o.secs) o.syms))) := by show Reads _ _ _ _ _; rw [maskL_length, HN2.out]; exact reads_of_owns HKf.out
      have HFr := Lib.hid (HF3.out.trans (HX.out.below.mono (show w.heap.size ≤ M by omega)))
      have HOr : Hid (ObjAt wr (.agg #[.slice ra n1 rc, .slice rb n2 rd]) o) := HO3.out.below (Nat.le_of_eq HMe.out) HX.out.below
      go_wp2_with fail
      refine (s_l9Keep wr _ _ o (maskL (localK o.secs) o.syms) HOr.out HRd.out (maskL_length _ _) HFew.out HFX.out).mono ?_
      rintro e w5 ⟨r, rfl, ⟨vs, vy, ls, rfl, hsecs, hS, hY, hd⟩, k5⟩
      obtain ⟨pa, pc, rfl⟩ := owns_form hS.row
      obtain ⟨qa, qc, rfl⟩ := owns_form hY
      have zM : M ≤ wr.heap.size := HX.out.le
      have zR2 : w.heap.size + 1 < wr.heap.size := HR.out.lt
      have HF5 := Lib.hid (HFr.out.call k5)
      have HR5 := Lib.hid (HR.out.call k5)
      have HS5 := Lib.hid hS
      have HY5 := Lib.hid hY
      have HD5 := Lib.hid hd
      have HSE := Lib.hid hsecs
      have cR := HR5.out.cell
      have fR := HR5.out.frozen
      have zR := HR5.out.lt
      clear hS hY hd hsecs k5 HK HB HR HX HRd HFr HOr HKf cB zB1
      obtain ⟨m1, hm1⟩ : ∃ m1, ls.length = m1 := ⟨_, rfl⟩
      obtain ⟨m2, hm2⟩ : ∃ m2, (keepO o (maskL (localK o.secs) o.syms)).syms.length = m2 := ⟨_, rfl⟩
      have HM1 := Lib.hid hm1
      have HM2 := Lib.hid hm2
      rw [hm1] at HS5 HD5 ⊢
      rw [hm2] at HY5 HD5 ⊢
      clear hm1 hm2
      go_wp2_with fail
      refine bodyPost_ret (v := .agg #[.slice pa m1 pc, .slice qa m2 qc]) (by simp [results, Try.results35, go_sem, cR, zR]) rfl ⟨_, rfl, ?_, ?_⟩
      · rw [EI.out]
        refine ⟨_, _, ls, rfl, HSE.out, ?_, ?_, HD5.out⟩
        · exact ((HS5.out.setBelow (a := ⟨w.heap.size + 1, 0, none⟩) zR2 _).setBelow (a := ⟨w.heap.size + 1, 1, none⟩) zR2 _).mono (show w.heap.size ≤ wr.heap.size by omega)
        · have h := ownsRow_setCell_below (ownsRow_setCell_below HY5.out (a := ⟨w.heap.size + 1, 0, none⟩) zR2 (.slice pa m1 pc)) (a := ⟨w.heap.size + 1, 1, none⟩) zR2 (.slice qa m2 qc)
          unfold OwnSyms
          rw [HM2.out]
          rw [HM2.out] at h
          exact owns_mono h (show w.heap.size ≤ wr.heap.size by omega)
      · exact ((HF5.out.setCell (p := ⟨w.heap.size + 1, 0, none⟩) (Nat.le_succ _) (.slice pa m1 pc)).setCell (p := ⟨w.heap.size + 1, 1, none⟩) (Nat.le_succ _) (.slice qa m2 qc)).below
set_option maxHeartbeats 8000000 in
theorem s_StripWanted (w : World) (v : Value) (o : ObjD) (h : ObjAt w v o) (hw : FewObj o) (hs : (∀ s ∈ o.secs, s.name.size ≤ maxLen) ∧ ∀ s ∈ o.syms, s.name.size ≤ maxLen) :
    Calls Try.prog 37 #[v] w fun e w' => ∃ r, e = .returned r ∧ OwnObj w' w.heap.size r (stripO wantK o) ∧ Below w.heap.size w w' := by
  obtain ⟨l0, hl0, la0, la1, la2⟩ := info_parts info_bool
  have HOB := Lib.hid h
  have HN0 := Lib.hid hs
  have HFw := Lib.hid hw
  have hf2 := hw.2.1
  obtain ⟨sa, sc, ya, yc, rfl⟩ := h.agg
  clear h hs hw
  obtain ⟨n1, hn1⟩ : ∃ n1, o.secs.length = n1 := ⟨_, rfl⟩
  obtain ⟨n2, hn2⟩ : ∃ n2, o.syms.length = n2 := ⟨_, rfl⟩
  have HN1 := Lib.hid hn1
  have HN2 := Lib.hid hn2
  rw [hn2] at hf2
  rw [hn1, hn2] at HOB ⊢
  clear hn1 hn2
  have HF0 := Lib.hid (((From.start w).alloc (.cells #[.slice sa n1 sc, .slice ya n2 yc] 26)).alloc (.cells #[.slice none 0 0, .slice none 0 0] 26))
  have HB0 := Lib.hid ((Blk.new w #[.slice sa n1 sc, .slice ya n2 yc] 26).alloc (.cells #[.slice none 0 0, .slice none 0 0] 26))
  have hr0 : Blk ((w.alloc (.cells #[.slice sa n1 sc, .slice ya n2 yc] 26)).alloc (.cells #[.slice none 0 0, .slice none 0 0] 26)) (w.heap.size + 1) #[.slice none 0 0, .slice none 0 0] 26 := Blk.newAt _ _ _ _ (by simp)
  have HR0 := Lib.hid hr0
  clear hr0
  cases hq : objB o
  · have E : stripO wantK o = ⟨[], []⟩ := by unfold stripO; rw [hq]; rfl
    rw [E]
    go_enter Try.func37, Try.ntmps37
    go_wp2_with fail
    generalize hw1 : (w.alloc (.cells #[.slice sa n1 sc, .slice ya n2 yc] 26)).alloc (.cells #[.slice none 0 0, .slice none 0 0] 26) = W at *
    clear hw1
    refine (s_l1OwnObject W _ o (HOB.out.below (Nat.le_refl _) HF0.out.below) HFw.out).mono ?_
    rintro e w1 ⟨r, rfl, ho, k1⟩
    have hrd := ho.reads
    obtain ⟨ra, rc, rb, rd, rfl⟩ := hrd.agg
    rw [HN1.out, HN2.out] at ho hrd ⊢
    have HF1 := Lib.hid (HF0.out.call k1)
    have HB1 := Lib.hid (HB0.out.call k1)
    have HR1 := Lib.hid (HR0.out.call k1)
    have HO1 := Lib.hid ho
    have hwW : w.heap.size < W.heap.size := by have := HB0.out.lt; exact this
    have HO3 := Lib.hid ((HO1.out.setBelow (a := ⟨w.heap.size, 0, none⟩) hwW (.slice ra n1 rc)).setBelow (a := ⟨w.heap.size, 1, none⟩) hwW (.slice rb n2 rd))
    have cb := HB1.out.cell
    have fb := HB1.out.frozen
    have zb := HB1.out.lt
    clear ho hrd k1 HF0 HB0 HR0
    have hb2 : Blk ((w1.setCell ⟨w.heap.size, 0, none⟩ (.slice ra n1 rc)).setCell ⟨w.heap.size, 1, none⟩ (.slice rb n2 rd)) w.heap.size #[.slice ra n1 rc, .slice rb n2 rd] 26 := by
      have := (HB1.out.set (o := 0) (.slice ra n1 rc)).set (o := 1) (.slice rb n2 rd)
      simpa using this
    have HB2 := Lib.hid hb2
    have HF2 := Lib.hid ((HF1.out.setCell (p := ⟨w.heap.size, 0, none⟩) (Nat.le_refl _) (.slice ra n1 rc)).setCell (p := ⟨w.heap.size, 1, none⟩) (Nat.le_refl _) (.slice rb n2 rd))
    have HR2 := Lib.hid ((HR1.out.other (p := ⟨w.heap.size, 0, none⟩) (by show w.heap.size ≠ _; omega) (.slice ra n1 rc)).other (p := ⟨w.heap.size, 1, none⟩) (by show w.heap.size ≠ _; omega) (.slice rb n2 rd))
    have HO2 := Lib.hid HO3.out.reads
    clear hb2 HB1 HF1 HR1 HO1 HO3
    go_wp2_with fail
    generalize hw2 : (w1.setCell ⟨w.heap.size, 0, none⟩ (.slice ra n1 rc)).setCell ⟨w.heap.size, 1, none⟩ (.slice rb n2 rd) = w2 at *
    clear hw2 cb fb zb
    refine (s_ObjectValid _ _ o HO2.out HN0.out).mono ?_
    rw [hq]
    rintro e w3 ⟨rfl, k3⟩
    have HF3 := Lib.hid (HF2.out.call k3)
    have HR3 := Lib.hid (HR2.out.call k3)
    have cR := HR3.out.cell
    have fR := HR3.out.frozen
    have zR := HR3.out.lt
    clear k3 hq
    go_wp2_with fail
    refine bodyPost_ret (v := .agg #[.slice none 0 0, .slice none 0 0]) (by simp [results, Try.results37, go_sem, cR, zR]) rfl ⟨_, rfl, ⟨_, _, [], rfl, rfl, ⟨World.ownsRow_nil _ _ _ _, (fun x hx => by cases hx), by simp [blksOf, Value.ownBlock]⟩, World.ownsRow_nil _ _ _ _, fun k hk => by cases hk⟩, ?_⟩
    exact ((HF3.out.setCell (p := ⟨w.heap.size + 1, 0, none⟩) (Nat.le_succ _) (.slice none 0 0)).setCell (p := ⟨w.heap.size + 1, 1, none⟩) (Nat.le_succ _) (.slice none 0 0)).below
  have HFew := Lib.hid (objB_fewO hq)
  have HFX : Hid (∀ s ∈ o.secs, ∀ f ∈ s.fix, 0 ≤ f.2.2.1 ∧ f.2.2.1 < o.syms.length) := fun s hs f hf => ((objB_sec hq hs).fix f hf).to
  have EI : Hid (stripO wantK o = keepO o (maskL (wantK o.secs) o.syms)) := by show _ = _; unfold stripO; rw [hq, if_pos rfl]
  go_enter Try.func37, Try.ntmps37
  go_wp2_with fail
  generalize hw1 : (w.alloc (.cells #[.slice sa n1 sc, .slice ya n2 yc] 26)).alloc (.cells #[.slice none 0 0, .slice none 0 0] 26) = W at *
  clear hw1
  refine (s_l1OwnObject W _ o (HOB.out.below (Nat.le_refl _) HF0.out.below) HFw.out).mono ?_
  rintro e w1 ⟨r, rfl, ho, k1⟩
  have hrd := ho.reads
  obtain ⟨ra, rc, rb, rd, rfl⟩ := hrd.agg
  rw [HN1.out, HN2.out] at ho hrd ⊢
  have HF1 := Lib.hid (HF0.out.call k1)
  have HB1 := Lib.hid (HB0.out.call k1)
  have HR1 := Lib.hid (HR0.out.call k1)
  have HO1 := Lib.hid ho
  have hwW : w.heap.size < W.heap.size := by have := HB0.out.lt; exact this
  have HO3 := Lib.hid ((HO1.out.setBelow (a := ⟨w.heap.size, 0, none⟩) hwW (.slice ra n1 rc)).setBelow (a := ⟨w.heap.size, 1, none⟩) hwW (.slice rb n2 rd))
  have cb := HB1.out.cell
  have fb := HB1.out.frozen
  have zb := HB1.out.lt
  clear ho hrd k1 HF0 HB0 HR0
  have hb2 : Blk ((w1.setCell ⟨w.heap.size, 0, none⟩ (.slice ra n1 rc)).setCell ⟨w.heap.size, 1, none⟩ (.slice rb n2 rd)) w.heap.size #[.slice ra n1 rc, .slice rb n2 rd] 26 := by
    have := (HB1.out.set (o := 0) (.slice ra n1 rc)).set (o := 1) (.slice rb n2 rd)
    simpa using this
  have HB2 := Lib.hid hb2
  have HF2 := Lib.hid ((HF1.out.setCell (p := ⟨w.heap.size, 0, none⟩) (Nat.le_refl _) (.slice ra n1 rc)).setCell (p := ⟨w.heap.size, 1, none⟩) (Nat.le_refl _) (.slice rb n2 rd))
  have HR2 := Lib.hid ((HR1.out.other (p := ⟨w.heap.size, 0, none⟩) (by show w.heap.size ≠ _; omega) (.slice ra n1 rc)).other (p := ⟨w.heap.size, 1, none⟩) (by show w.heap.size ≠ _; omega) (.slice rb n2 rd))
  have HO2 := Lib.hid HO3.out.reads
  clear hb2 HB1 HF1 HR1 HO1 HO3
  go_wp2_with fail
  generalize hw2 : (w1.setCell ⟨w.heap.size, 0, none⟩ (.slice ra n1 rc)).setCell ⟨w.heap.size, 1, none⟩ (.slice rb n2 rd) = w2 at *
  clear hw2 cb fb zb
  refine (s_ObjectValid _ _ o HO2.out HN0.out).mono ?_
  rw [hq]
  rintro e w3 ⟨rfl, k3⟩
  have HF3 := Lib.hid (HF2.out.call k3)
  have HR3 := Lib.hid (HR2.out.call k3)
  have HB3 := Lib.hid (HB2.out.call k3)
  have HO3 := Lib.hid (HO2.out.below (Nat.le_refl _) k3)
  clear k3 hq HF2 HR2 HB2 HO2
  have HF4 := Lib.hid (HF3.out.alloc (.cells #[] 4))
  have HR4 := Lib.hid (HR3.out.alloc (.cells #[] 4))
  have HB4 := Lib.hid (HB3.out.alloc (.cells #[] 4))
  have HO4 := Lib.hid (HO3.out.below (Nat.le_refl _) ((From.start w3).alloc (.cells #[] 4)).below)
  have hk4 := World.ownsRow_lit w3 #[] (e := 4) (size := 1) (base := w3.heap.size) 0 (Nat.le_refl _) (Nat.zero_le _) rfl
  have HK4 : Hid ((w3.alloc (.cells #[] 4)).ownsRow w3.heap.size 4 1 (.slice (some ⟨w3.heap.size, 0, none⟩) 0 0) 0 (bbs (maskL (wantK o.secs) (o.syms.take 0)))) := by show World.ownsRow _ _ _ _ _ _ _; simpa [maskL, bbs] using hk4
  have HX4 := Lib.hid ((From.start w3).alloc (.cells #[] 4))
  have hBM : w.heap.size < w3.heap.size := HB3.out.lt
  have hRM : w.heap.size + 1 < w3.heap.size := HR3.out.lt
  obtain ⟨vs', vy', hv', hsx, hyx⟩ := HO3.out
  simp only [Value.agg.injEq, Array.mk.injEq, List.cons.injEq, and_true] at hv'
  obtain ⟨rfl, rfl⟩ := hv'
  obtain ⟨ra', rc', hv', -, -, -, hcell⟩ := hyx.form
  simp only [Value.slice.injEq] at hv'
  obtain ⟨rfl, -, rfl⟩ := hv'
  have HD := Lib.hid hcell
  clear hk4 hsx hyx hcell HF4 HO4
  go_wp2_with fail
  generalize hw4 : w3.alloc (.cells #[] 4) = w4 at *
  clear hw4
  obtain ⟨M, hM⟩ : ∃ M, w3.heap.size = M := ⟨_, rfl⟩
  simp only [hM] at HK4 HX4 hBM hRM ⊢
  have HMe := Lib.hid hM
  clear hM
  go_loopw [3, 4] (fun kp i wr => ∃ (k : Nat) (ka : Option Addr) (kc : Nat), k ≤ n2 ∧ i = .int .i64 k ∧ kp = .slice ka k kc ∧ Hid (wr.ownsRow M 4 1 (.slice ka k kc) k (bbs (maskL (wantK o.secs) (o.syms.take k)))) ∧ Hid (Blk wr w.heap.size #[.slice ra n1 rc, .slice rb n2 rd] 26) ∧ Hid (Blk wr (w.heap.size + 1) #[.slice none 0 0, .slice none 0 0] 26) ∧ Hid (From M w3 wr)) (fun _ i _ => n2 - (intOf i).toNat)
  case atStart => exact ⟨0, _, _, Nat.zero_le _, rfl, rfl, HK4, HB4, HR4, HX4⟩
  case round =>
    clear HK4 HB4 HR4 HX4
    obtain ⟨k, ka, kc, hk, rfl, rfl, HK, HB, HR, HX⟩ := hrel
    have cB := HB.out.cell
    have zB1 := HB.out.lt
    by_cases hlt : k < n2
    · have i1 : (k : Int) < (n2 : Int) := by omega
      have i3 : (0 : Int) ≤ (k : Int) := by omega
      obtain ⟨b, off, rfl, hc⟩ := HD.out (by have := HN2.out; omega)
      have hltL : k < o.syms.length := by rw [HN2.out]; exact hlt
      have c0 := hc k hltL
      have hbl : b < w3.heap.size := World.block_lt_of_cell? w3 _ c0.1
      rw [HMe.out] at hbl
      have HC := Lib.hid (c0.2.2.1)
      have HT := Lib.hid (maskL_take (wantK o.secs) o.syms k hltL)
      have p0 := (HX.out.below.cell (p := ⟨b, off + k * 4 + 2, none⟩) hbl).trans HC.out
      clear hc c0
      generalize o.syms[k] = x at *
      obtain ⟨bq, hbq⟩ : ∃ bq, wantK o.secs k x = bq := ⟨_, rfl⟩
      rw [hbq] at HT
      by_cases hx : x.whr = -1
      · have e0 : (x.whr != -1) = false := by simpa using hx
        have E : Hid (usedB o.secs k = bq) := by show _ = _; rw [← hbq]; unfold wantK; simp [hx]
        clear hx hbq
        go_wp2_with fail
        refine (s_l9Used wr _ o (HO3.out.below (Nat.le_of_eq HMe.out) HX.out.below) (k : Int)).mono ?_
        rw [E.out]
        rintro e w5 ⟨rfl, k5⟩
        have HK := Lib.hid (owns_call HK.out k5)
        have HB := Lib.hid (HB.out.call k5)
        have HR := Lib.hid (HR.out.call k5)
        have HX := Lib.hid (HX.out.call k5)
        clear k5 p0 cB zB1
        have cB := HB.out.cell
        have zB1 := HB.out.lt
        go_wp2_with (at_builtin; refine wpList_append_src rfl (.tmp 19) (.tmp 32) 99 99 rfl M 4 l0 _ 1 1 Try.underlying99 hl0 la0 la1 la2 rfl (by decide) _ _ _ rfl (World.ownsRow.alloc HK.out _) _ 1 [_] rfl (src_new Try.underlying99 _ [_] 1 1 1 _ rfl ?c0) ?c1 ?c2 ?c3 ?_)
        case c0 => intro u hu; obtain rfl := List.mem_singleton.1 hu; rfl
        case c1 => unfold maxLen; omega
        case c2 => omega
        case c3 => have := HX.out.le; simp; omega
        intro v' w6 hown hgr
        have hK7 : w6.ownsRow M 4 1 v' (k + 1) (bbs (maskL (wantK o.secs) (o.syms.take (k + 1)))) := by rw [HT.out, bbs_append]; skip; exact hown
        obtain ⟨va, vc, rfl⟩ := owns_form hK7
        have HK9 := Lib.hid hK7
        have hKr : (_ : World).ownsRow M 4 1 (.slice ka k kc) k (bbs (maskL (wantK o.secs) (o.syms.take k))) := World.ownsRow.alloc HK.out (.cells #[.bool bq] 4)
        have HB9 := Lib.hid (Blk.grown (HB.out.alloc (.cells #[.bool bq] 4)) hgr (fun e => blk_apart (HB.out.alloc _) hKr (by decide) e))
        have HR9 := Lib.hid (Blk.grown (HR.out.alloc (.cells #[.bool bq] 4)) hgr (fun e => blk_apart (HR.out.alloc _) hKr (by decide) e))
        have HX9 := Lib.hid (From.grown (HX.out.alloc (.cells #[.bool bq] 4)) hgr (fun k' hk' => (World.ownsRow.lt HK.out k' hk').1))
        clear hown hgr hK7 hKr HK HB HR HX cB zB1
        go_wp2_with fail
        go_roundw
        case rel => exact ⟨k + 1, va, vc, by omega, by go_num, rfl, HK9, HB9, HR9, HX9⟩
        case measure => simp [intOf]; try omega
      · have e0 : (x.whr != -1) = true := by simpa using hx
        have E : Hid (bq = true) := by show _ = _; rw [← hbq]; unfold wantK; simp [hx]
        clear hx hbq
        go_wp2_with (at_builtin; refine wpList_append_src rfl (.tmp 19) (.tmp 32) 99 99 rfl M 4 l0 _ 1 1 Try.underlying99 hl0 la0 la1 la2 rfl (by decide) _ _ _ rfl (World.ownsRow.alloc HK.out _) _ 1 [_] rfl (src_new Try.underlying99 _ [_] 1 1 1 _ rfl ?c0) ?c1 ?c2 ?c3 ?_)
        case c0 => intro u hu; obtain rfl := List.mem_singleton.1 hu; rfl
        case c1 => unfold maxLen; omega
        case c2 => omega
        case c3 => have := HX.out.le; simp; omega
        intro v' w6 hown hgr
        have hK7 : w6.ownsRow M 4 1 v' (k + 1) (bbs (maskL (wantK o.secs) (o.syms.take (k + 1)))) := by rw [HT.out, bbs_append]; rw [E.out]; exact hown
        obtain ⟨va, vc, rfl⟩ := owns_form hK7
        have HK9 := Lib.hid hK7
        have hKr : (_ : World).ownsRow M 4 1 (.slice ka k kc) k (bbs (maskL (wantK o.secs) (o.syms.take k))) := World.ownsRow.alloc HK.out (.cells #[.bool true] 4)
        have HB9 := Lib.hid (Blk.grown (HB.out.alloc (.cells #[.bool true] 4)) hgr (fun e => blk_apart (HB.out.alloc _) hKr (by decide) e))
        have HR9 := Lib.hid (Blk.grown (HR.out.alloc (.cells #[.bool true] 4)) hgr (fun e => blk_apart (HR.out.alloc _) hKr (by decide) e))
        have HX9 := Lib.hid (From.grown (HX.out.alloc (.cells #[.bool true] 4)) hgr (fun k' hk' => (World.ownsRow.lt HK.out k' hk').1))
        clear hown hgr hK7 hKr HK HB HR HX cB zB1
        go_wp2_with fail
        go_roundw
        case rel => exact ⟨k + 1, va, vc, by omega, by go_num, rfl, HK9, HB9, HR9, HX9⟩
        case measure => simp [intOf]; try omega
    · obtain rfl : n2 = k := by omega
      have HKf : Hid (wr.ownsRow M 4 1 (.slice ka n2 kc) n2 (bbs (maskL (wantK o.secs) o.syms))) := by show World.ownsRow _ _ _ _ _ _ _; have := HK.out; rw [← HN2.out, List.take_length, HN2.out] at this; exact this
      have HRd : Hid (Reads wr 1 (.slice ka n2 kc) (maskL (wantK o.secs) o.syms).length (bbs (maskL (wantK o.secs) o.syms))) := by show Reads _ _ _ _ _; rw [maskL_length, HN2.out]; exact reads_of_owns HKf.out
      have HFr := Lib.hid (HF3.out.trans (HX.out.below.mono (show w.heap.size ≤ M by omega)))
      have HOr : Hid (ObjAt wr (.agg #[.slice ra n1 rc, .slice rb n2 rd]) o) := HO3.out.below (Nat.le_of_eq HMe.out) HX.out.below
      go_wp2_with fail
      refine (s_l9Keep wr _ _ o (maskL (wantK o.secs) o.syms) HOr.out HRd.out (maskL_length _ _) HFew.out HFX.out).mono ?_
      rintro e w5 ⟨r, rfl, ⟨vs, vy, ls, rfl, hsecs, hS, hY, hd⟩, k5⟩
      obtain ⟨pa, pc, rfl⟩ := owns_form hS.row
      obtain ⟨qa, qc, rfl⟩ := owns_form hY
      have zM : M ≤ wr.heap.size := HX.out.le
      have zR2 : w.heap.size + 1 < wr.heap.size := HR.out.lt
      have HF5 := Lib.hid (HFr.out.call k5)
      have HR5 := Lib.hid (HR.out.call k5)
      have HS5 := Lib.hid hS
      have HY5 := Lib.hid hY
      have HD5 := Lib.hid hd
      have HSE := Lib.hid hsecs
      have cR := HR5.out.cell
      have fR := HR5.out.frozen
      have zR := HR5.out.lt
      clear hS hY hd hsecs k5 HK HB HR HX HRd HFr HOr HKf cB zB1
      obtain ⟨m1, hm1⟩ : ∃ m1, ls.length = m1 := ⟨_, rfl⟩
      obtain ⟨m2, hm2⟩ : ∃ m2, (keepO o (maskL (wantK o.secs) o.syms)).syms.length = m2 := ⟨_, rfl⟩
      have HM1 := Lib.hid hm1
      have HM2 := Lib.hid hm2
      rw [hm1] at HS5 HD5 ⊢
      rw [hm2] at HY5 HD5 ⊢
      clear hm1 hm2
      go_wp2_with fail
      refine bodyPost_ret (v := .agg #[.slice pa m1 pc, .slice qa m2 qc]) (by simp [results, Try.results37, go_sem, cR, zR]) rfl ⟨_, rfl, ?_, ?_⟩
      · rw [EI.out]
        refine ⟨_, _, ls, rfl, HSE.out, ?_, ?_, HD5.out⟩
        · exact ((HS5.out.setBelow (a := ⟨w.heap.size + 1, 0, none⟩) zR2 _).setBelow (a := ⟨w.heap.size + 1, 1, none⟩) zR2 _).mono (show w.heap.size ≤ wr.heap.size by omega)
        · have h := ownsRow_setCell_below (ownsRow_setCell_below HY5.out (a := ⟨w.heap.size + 1, 0, none⟩) zR2 (.slice pa m1 pc)) (a := ⟨w.heap.size + 1, 1, none⟩) zR2 (.slice qa m2 qc)
          unfold OwnSyms
          rw [HM2.out]
          rw [HM2.out] at h
          exact owns_mono h (show w.heap.size ≤ wr.heap.size by omega)
      · exact ((HF5.out.setCell (p := ⟨w.heap.size + 1, 0, none⟩) (Nat.le_succ _) (.slice pa m1 pc)).setCell (p := ⟨w.heap.size + 1, 1, none⟩) (Nat.le_succ _) (.slice qa m2 qc)).below
end Go.Proofs.Ythccjimckjecjaa
