/- Copies of objects: copyObject. -/
import Derived.Test.YthccjimckjecjaaCopy
import Derived.Test.YthccjimckjecjaaDrawY
import Derived.Test.YthccjimckjecjaaInv
namespace Go.Proofs.Ythccjimckjecjaa
open Go.ChangeShapes Go.WideShapes Go.ChangeAt Go.RowKit Go.Joins
set_option linter.unusedSimpArgs false
set_option linter.unusedVariables false
set_option maxRecDepth 100000
set_option maxHeartbeats 4000000 in
theorem i_copyObject (w : World) (v : Value) (o : ObjD) (h : ObjAt w v o) (hf : FewObj o) :
    Calls Try.prog 73 #[v] w fun e w' => ∃ r, e = .returned r ∧ OwnObj w' w.heap.size r o ∧ Below w.heap.size w w' := by
  obtain ⟨vs, vy, rfl, h1, h2⟩ := h
  obtain ⟨j0, hj0, hy0, hy1, hy2⟩ := info_parts info_sec
  have HY := Lib.hid h2
  obtain ⟨sa, sc, rfl, hcap, hmax, hnone, hcell⟩ := h1.form
  obtain ⟨ya, yc, rfl, -⟩ := h2.form
  have HC := Lib.hid hcell
  have HFew := Lib.hid hf
  clear h1 h2 hcell hnone
  unfold maxLen at hmax
  have hl1 := hf.1
  clear hf
  obtain ⟨n2, hn2⟩ : ∃ n2, o.syms.length = n2 := ⟨_, rfl⟩
  rw [hn2] at HY ⊢
  clear hn2
  go_enter Try.func73, Try.ntmps73
  go_wp2_with fail
  have ha : From w.heap.size w ((w.alloc (.cells #[.slice sa o.secs.length sc, .slice ya n2 yc] 26)).alloc (.cells #[.slice none 0 0, .slice none 0 0] 26)) := ((From.start w).alloc _).alloc _
  have hb0 : Blk ((w.alloc (.cells #[.slice sa o.secs.length sc, .slice ya n2 yc] 26)).alloc (.cells #[.slice none 0 0, .slice none 0 0] 26)) w.heap.size #[.slice sa o.secs.length sc, .slice ya n2 yc] 26 := (Blk.new w _ _).alloc _
  have hb1 : Blk ((w.alloc (.cells #[.slice sa o.secs.length sc, .slice ya n2 yc] 26)).alloc (.cells #[.slice none 0 0, .slice none 0 0] 26)) (w.heap.size + 1) #[.slice none 0 0, .slice none 0 0] 26 := Blk.newAt _ _ _ _ (by simp)
  have HF1 := Lib.hid ha
  have HB0 := Lib.hid hb0
  have HB1 := Lib.hid hb1
  clear ha hb0 hb1
  generalize hw1 : (w.alloc (.cells #[.slice sa o.secs.length sc, .slice ya n2 yc] 26)).alloc (.cells #[.slice none 0 0, .slice none 0 0] 26) = w1 at HF1 HB0 HB1 ⊢
  have z1 : w.heap.size + 1 < w1.heap.size := HB1.out.lt
  clear hw1
  refine (cloneSyms w1 _ o.syms (HY.out.below (Nat.le_refl _) HF1.out.below) (by have := HFew.out.2.1; omega)).mono ?_
  rintro e w2 ⟨r, rfl, oy, h2⟩
  obtain ⟨ra, rc, rfl⟩ := owns_form oy
  have HF2 := Lib.hid (HF1.out.call h2)
  have HB02 := Lib.hid (HB0.out.call h2)
  have HB12 := Lib.hid (HB1.out.call h2)
  have HOy := Lib.hid oy
  have z2 : w1.heap.size ≤ w2.heap.size := h2.size
  have c0 := HB02.out.cell
  have z0 := HB02.out.lt
  clear oy h2 HF1 HB0 HB1
  obtain ⟨m2, hm2⟩ : ∃ m2, o.syms.length = m2 := ⟨_, rfl⟩
  rw [hm2]
  have HM2 := Lib.hid hm2
  clear hm2
  go_wp2_with fail
  have hf3 := HF2.out.alloc (.cells #[.slice none 0 0, .slice ra m2 rc] 26)
  have hb3 := Blk.new w2 #[.slice none 0 0, .slice ra m2 rc] 26
  have hb13 := HB12.out.alloc (.cells #[.slice none 0 0, .slice ra m2 rc] 26)
  have hy3 : OwnSyms (w2.alloc (.cells #[.slice none 0 0, .slice ra m2 rc] 26)) w1.heap.size (.slice ra o.syms.length rc) o.syms := World.ownsRow.alloc HOy.out _
  have HF3 := Lib.hid hf3
  have HB3 := Lib.hid hb3
  have HB13 := Lib.hid hb13
  have HY3 := Lib.hid hy3
  clear hf3 hb3 hb13 hy3 c0 z0 HF2 HB02 HB12
  generalize hw3 : w2.alloc (.cells #[.slice none 0 0, .slice ra m2 rc] 26) = w3 at HF3 HB3 HB13 HY3 ⊢
  clear hw3
  have HYlt : Hid (∀ q, (Value.slice ra o.syms.length rc).ownBlock = some q → w1.heap.size ≤ q ∧ q < w2.heap.size) := fun q hq => World.ownsRow.lt HOy.out q hq
  clear HOy
  generalize hB : w2.heap.size = B at *
  clear hB
  go_loopw [13] (fun i wr => ∃ (k : Nat) (ls : List (SecD × Value × Value)) (va : Option Addr) (vc : Nat), k ≤ o.secs.length ∧ i = .int .i64 k ∧ Hid (o.secs.take k = ls.map (·.1)) ∧ Hid (OwnSecs wr (B + 1) (.slice va ls.length vc) ls) ∧
      Hid (OwnSyms wr w1.heap.size (.slice ra o.syms.length rc) o.syms) ∧ Hid (Blk wr (w.heap.size + 1) #[.slice none 0 0, .slice none 0 0] 26) ∧ Hid (Blk wr B #[.slice va ls.length vc, .slice ra m2 rc] 26) ∧ Hid (From w.heap.size w wr)) (fun i _ => o.secs.length - (intOf i).toNat)
  case atStart => exact ⟨0, [], none, 0, Nat.zero_le _, rfl, (by show _ = _; simp), ⟨World.ownsRow_nil _ _ _ _, (fun x hx => by cases hx), by simp [blksOf, Value.ownBlock]⟩, HY3, HB13, HB3, HF3⟩
  case round =>
    clear HF3 HB3 HB13 HY3
    obtain ⟨k, ls, va, vc, hk, rfl, HL, HO, HY3, HB1, HB3, HF⟩ := hrel
    by_cases hlt : k < o.secs.length
    · obtain ⟨b, off, rfl, hc⟩ := HC.out (by omega)
      obtain ⟨vb, vf, hb, hf, c0, c1, c2, c3, c4, c5⟩ := hc k hlt
      have hbl : b < w.heap.size := World.block_lt_of_cell? w _ c0
      have g0 := (HF.out.below.cell (p := ⟨b, off + k * 6, none⟩) hbl).trans c0
      have g1 := (HF.out.below.cell (p := ⟨b, off + k * 6 + 1, none⟩) hbl).trans c1
      have g2 := (HF.out.below.cell (p := ⟨b, off + k * 6 + 2, none⟩) hbl).trans c2
      have g3 := (HF.out.below.cell (p := ⟨b, off + k * 6 + 3, none⟩) hbl).trans c3
      have g4 := (HF.out.below.cell (p := ⟨b, off + k * 6 + 4, none⟩) hbl).trans c4
      have g5 := (HF.out.below.cell (p := ⟨b, off + k * 6 + 5, none⟩) hbl).trans c5
      have i1 : (k : Int) < (o.secs.length : Int) := by omega
      obtain ⟨ba, bc, rfl, -⟩ := hb.form
      obtain ⟨fa, fc, rfl, -⟩ := hf.form
      have HBy0 := Lib.hid hb
      have HFi0 := Lib.hid hf
      have HT : Hid (o.secs.take (k + 1) = ls.map (·.1) ++ [o.secs[k]]) := by show _ = _; rw [List.take_succ_eq_append_getElem hlt, HL.out]
      have HBk := Lib.hid (HFew.out.2.2 o.secs[k] (List.getElem_mem hlt))
      have hlsl : ls.length ≤ k := by have := congrArg List.length HL.out; simp at this; omega
      clear hc c0 c1 c2 c3 c4 c5 hb hf HL
      generalize o.secs[k] = x at *
      obtain ⟨nb, hnb⟩ : ∃ nb, x.bytes.length = nb := ⟨_, rfl⟩
      obtain ⟨nf, hnf⟩ : ∃ nf, x.fix.length = nf := ⟨_, rfl⟩
      rw [hnb] at g3 HBy0
      rw [hnf] at g5 HFi0
      have HNB := Lib.hid hnb
      have HNF := Lib.hid hnf
      clear hnb hnf
      go_wp2_with fail
      have hbx := Blk.new wr #[.string x.name, .int .i64 x.kind, .int .i64 x.align, .slice ba nb bc, .int .i64 x.size, .slice fa nf fc] 69
      have hfx := (From.start wr).alloc (.cells #[.string x.name, .int .i64 x.kind, .int .i64 x.align, .slice ba nb bc, .int .i64 x.size, .slice fa nf fc] 69)
      have HBX := Lib.hid hbx
      have HFX := Lib.hid hfx
      clear hbx hfx
      generalize hwx : wr.alloc (.cells #[.string x.name, .int .i64 x.kind, .int .i64 x.align, .slice ba nb bc, .int .i64 x.size, .slice fa nf fc] 69) = wx at HBX HFX ⊢
      have hXM : wr.heap.size < wx.heap.size := HBX.out.lt
      have HBw : Hid (BytesAt wr (.slice ba nb bc) x.bytes) := HBy0.out.below (Nat.le_refl _) HF.out.below
      have HFw : Hid (FixAt wr (.slice fa nf fc) x.fix) := HFi0.out.below (Nat.le_refl _) HF.out.below
      have hb30 := HBk.out.1
      have hf30 := HBk.out.2
      clear hwx g0 g1 g2 g3 g4 g5
      obtain ⟨X, hX⟩ : ∃ X, wr.heap.size = X := ⟨_, rfl⟩
      obtain ⟨M, hMM⟩ : ∃ M, wx.heap.size = M := ⟨_, rfl⟩
      rw [hX] at HBX HFX hXM ⊢
      rw [hMM] at hXM
      let V : Nat → Value → World → Prop := fun i v u => match i with
        | 0 => v = .pointer (some ⟨X, 3, none⟩)
        | 1 => v = .slice ba nb bc
        | 2 => OwnB u M v x.bytes
        | 3 => v = .pointer (some ⟨X, 5, none⟩)
        | 4 => v = .slice fa nf fc
        | 5 => OwnF u M v x.fix
        | 6 => v = .pointer (some ⟨X, 3, none⟩)
        | 8 => v = .pointer (some ⟨X, 5, none⟩)
        | _ => True
      have hcall : ∀ j y u u', Below u.heap.size u u' → V j y u → V j y u' := by
        intro j y u u' hb h
        rcases j with _ | _ | _ | _ | _ | _ | _ | _ | _ | j
        all_goals first
          | exact h
          | exact owns_call h hb
          | exact trivial
      have hset : ∀ j y u o z, V j y u → V j y (u.setCell ⟨X, o, none⟩ z) := by
        intro j y u o z h
        rcases j with _ | _ | _ | _ | _ | _ | _ | _ | _ | j
        all_goals first
          | exact h
          | exact ownsRow_setCell_below h (a := ⟨X, o, none⟩) hXM _
          | exact trivial
      refine wp_region_set V (fun _ f u => (From X wr u ∧ M ≤ u.heap.size) ∧ (f 7 = false → Blk u X #[.string x.name, .int .i64 x.kind, .int .i64 x.align, .slice ba nb bc, .int .i64 x.size, .slice fa nf fc] 69) ∧ (f 7 = true → f 9 = false → ∃ vb1, OwnB u M vb1 x.bytes ∧ Blk u X #[.string x.name, .int .i64 x.kind, .int .i64 x.align, vb1, .int .i64 x.size, .slice fa nf fc] 69) ∧ (f 9 = true → ∃ vb1 vf1, OwnB u M vb1 x.bytes ∧ OwnF u M vf1 x.fix ∧ Blk u X #[.string x.name, .int .i64 x.kind, .int .i64 x.align, vb1, .int .i64 x.size, vf1] 69)) [[], [0], [1], [], [3], [4], [], [2, 6], [], [5, 8]] [[], [0], [0, 1], [], [3], [0, 1, 2, 3, 4], [0, 1, 2, 3, 4], [0, 1, 2, 3, 4, 5, 6], [0, 1, 2, 3, 4, 5, 6, 7], [0, 1, 2, 3, 4, 5, 6, 7, 8]] [] (by kernel_rfl) (by kernel_rfl) (by kernel_rfl) (by kernel_rfl) (by kernel_rfl) ⟨⟨HFX.out.drew, Nat.le_of_eq hMM.symm⟩, fun _ => HBX.out.drew, fun (h : false = true) _ => absurd h (by decide), fun (h : false = true) => absurd h (by decide)⟩ ?ho ?hq
      case ho =>
        refine ⟨?_, ?_, ?_, ?_, ?_, ?_, ?_, ?_, ?_, ?_, trivial⟩
        · intro n f A u K hfr hn hl hS hv hK
          have e4 : A.tmps.getD 5 undef = .pointer (some ⟨X, 0, none⟩) := hfr 5 (not_dst (by kernel_rfl))
          have e5 : (A.tmps[5]?).getD undef = .pointer (some ⟨X, 0, none⟩) := by simpa using e4
          refine owe_run rfl (wp_val (v := .pointer (some ⟨X, 3, none⟩)) ?_ (hK _ _ ⟨hS.1, fun h => hS.2.1 (setl_off h), fun h h9 => hS.2.2.1 (by rwa [setl_ne (by decide)] at h) (setl_off h9), fun h => hS.2.2.2 (by rwa [setl_ne (by decide)] at h)⟩ (fun _ _ _ h => h) (fun _ => rfl)))
          first
            | (go_simp; done)
            | (go_simp; rfl)
        · intro n f A u K hfr hn hl hS hv hK
          have h7 : f 7 = false := hl.2.2 7 (by decide)
          have HX := hS.2.1 h7
          have cX := HX.cell
          have eA0 : A.tmps.getD 17 undef = .pointer (some ⟨X, 3, none⟩) := hv.1
          have eB0 : (A.tmps[17]?).getD undef = .pointer (some ⟨X, 3, none⟩) := by simpa using eA0
          refine owe_run rfl (wp_val (v := .slice ba nb bc) ?_ (hK _ _ ⟨hS.1, fun h => hS.2.1 (setl_off h), fun h h9 => hS.2.2.1 (by rwa [setl_ne (by decide)] at h) (setl_off h9), fun h => hS.2.2.2 (by rwa [setl_ne (by decide)] at h)⟩ (fun _ _ _ h => h) (fun _ => rfl)))
          first
            | (go_simp; done)
            | (go_simp; rfl)
        · intro n f A u K hfr hn hl hS hv hK
          have h7 : f 7 = false := hl.2.2 7 (by decide)
          have HX := hS.2.1 h7
          have h0 : A.tmps.getD 18 undef = .slice ba nb bc := hv.1
          have q1 := cloneBytes u (.slice ba nb bc) x.bytes (HBw.out.below (Nat.le_of_eq hX) hS.1.1.below) (by omega)
          refine owe_run rfl (wp_fn rfl (args1 h0) (enter_fn Try.func133 (by kernel_rfl) rfl _ _) (q1.mono ?_))
          rintro e u1 ⟨r5, rfl, o5, h5⟩
          exact ⟨_, rfl, hK _ _ ⟨⟨hS.1.1.call h5, Nat.le_trans hS.1.2 h5.size⟩, fun h => HX.call h5, fun h => (by rw [setl_ne (by decide), h7] at h; cases h), fun h => (by rw [setl_ne (by decide), hl.2.2 9 (by decide)] at h; cases h)⟩ (fun j y hj h => hcall j y u _ h5 h) (fun _ => owns_mono o5 hS.1.2)⟩
        · intro n f A u K hfr hn hl hS hv hK
          have e4 : A.tmps.getD 5 undef = .pointer (some ⟨X, 0, none⟩) := hfr 5 (not_dst (by kernel_rfl))
          have e5 : (A.tmps[5]?).getD undef = .pointer (some ⟨X, 0, none⟩) := by simpa using e4
          refine owe_run rfl (wp_val (v := .pointer (some ⟨X, 5, none⟩)) ?_ (hK _ _ ⟨hS.1, fun h => hS.2.1 (setl_off h), fun h h9 => hS.2.2.1 (by rwa [setl_ne (by decide)] at h) (setl_off h9), fun h => hS.2.2.2 (by rwa [setl_ne (by decide)] at h)⟩ (fun _ _ _ h => h) (fun _ => rfl)))
          first
            | (go_simp; done)
            | (go_simp; rfl)
        · intro n f A u K hfr hn hl hS hv hK
          have h7 : f 7 = false := hl.2.2 7 (by decide)
          have HX := hS.2.1 h7
          have cX := HX.cell
          have eA0 : A.tmps.getD 20 undef = .pointer (some ⟨X, 5, none⟩) := hv.1
          have eB0 : (A.tmps[20]?).getD undef = .pointer (some ⟨X, 5, none⟩) := by simpa using eA0
          refine owe_run rfl (wp_val (v := .slice fa nf fc) ?_ (hK _ _ ⟨hS.1, fun h => hS.2.1 (setl_off h), fun h h9 => hS.2.2.1 (by rwa [setl_ne (by decide)] at h) (setl_off h9), fun h => hS.2.2.2 (by rwa [setl_ne (by decide)] at h)⟩ (fun _ _ _ h => h) (fun _ => rfl)))
          first
            | (go_simp; done)
            | (go_simp; rfl)
        · intro n f A u K hfr hn hl hS hv hK
          have h7 : f 7 = false := hl.2.2 7 (by decide)
          have HX := hS.2.1 h7
          have h0 : A.tmps.getD 21 undef = .slice fa nf fc := hv.1
          have q1 := cloneFix u (.slice fa nf fc) x.fix (HFw.out.below (Nat.le_of_eq hX) hS.1.1.below) (by omega)
          refine owe_run rfl (wp_fn rfl (args1 h0) (enter_fn Try.func134 (by kernel_rfl) rfl _ _) (q1.mono ?_))
          rintro e u1 ⟨r5, rfl, o5, h5⟩
          exact ⟨_, rfl, hK _ _ ⟨⟨hS.1.1.call h5, Nat.le_trans hS.1.2 h5.size⟩, fun h => HX.call h5, fun h => (by rw [setl_ne (by decide), h7] at h; cases h), fun h => (by rw [setl_ne (by decide), hl.2.2 9 (by decide)] at h; cases h)⟩ (fun j y hj h => hcall j y u _ h5 h) (fun _ => owns_mono o5 hS.1.2)⟩
        · intro n f A u K hfr hn hl hS hv hK
          have e4 : A.tmps.getD 5 undef = .pointer (some ⟨X, 0, none⟩) := hfr 5 (not_dst (by kernel_rfl))
          have e5 : (A.tmps[5]?).getD undef = .pointer (some ⟨X, 0, none⟩) := by simpa using e4
          refine owe_run rfl (wp_val (v := .pointer (some ⟨X, 3, none⟩)) ?_ (hK _ _ ⟨hS.1, fun h => hS.2.1 (setl_off h), fun h h9 => hS.2.2.1 (by rwa [setl_ne (by decide)] at h) (setl_off h9), fun h => hS.2.2.2 (by rwa [setl_ne (by decide)] at h)⟩ (fun _ _ _ h => h) (fun _ => rfl)))
          first
            | (go_simp; done)
            | (go_simp; rfl)
        · intro n f A u K hfr hn hl hS hv hK
          obtain ⟨h0, h1, -⟩ : OwnB u M (A.tmps.getD 19 undef) x.bytes ∧ A.tmps.getD 23 undef = .pointer (some ⟨X, 3, none⟩) ∧ True := ⟨hv.1, hv.2.1, trivial⟩
          have HX := hS.2.1 hl.1
          have cX := HX.cell
          have fX := HX.frozen
          obtain ⟨g1, g2, hg⟩ := owns_form h0
          have eB : (A.tmps[19]?).getD undef = .slice g1 x.bytes.length g2 := by rw [← hg]; simp
          have eP : (A.tmps[23]?).getD undef = .pointer (some ⟨X, 3, none⟩) := by simpa using h1
          rw [hg] at h0
          have HX2 : Blk (u.setCell ⟨X, 3, none⟩ (.slice g1 x.bytes.length g2)) X #[.string x.name, .int .i64 x.kind, .int .i64 x.align, .slice g1 x.bytes.length g2, .int .i64 x.size, .slice fa nf fc] 69 := by
            have := HX.set (o := 3) (.slice g1 x.bytes.length g2)
            simpa using this
          refine owe_run rfl (wp_skp (w' := u.setCell ⟨X, 3, none⟩ (.slice g1 x.bytes.length g2)) ?_ (hK undef _ ⟨⟨hS.1.1.setCell (Nat.le_refl _) _, by simpa using hS.1.2⟩, fun h => (by rw [setl_at] at h; cases h), fun _ _ => ⟨_, ownsRow_setCell_below h0 (a := ⟨X, 3, none⟩) hXM _, HX2⟩, fun h => (by rw [setl_ne (by decide), hl.2.2 9 (by decide)] at h; cases h)⟩ (fun j y hj h => hset j y u 3 _ h) (fun h => absurd rfl h)))
          first
            | (go_simp; done)
            | (go_simp; rfl)
        · intro n f A u K hfr hn hl hS hv hK
          have e4 : A.tmps.getD 5 undef = .pointer (some ⟨X, 0, none⟩) := hfr 5 (not_dst (by kernel_rfl))
          have e5 : (A.tmps[5]?).getD undef = .pointer (some ⟨X, 0, none⟩) := by simpa using e4
          refine owe_run rfl (wp_val (v := .pointer (some ⟨X, 5, none⟩)) ?_ (hK _ _ ⟨hS.1, fun h => hS.2.1 (setl_off h), fun h h9 => hS.2.2.1 (by rwa [setl_ne (by decide)] at h) (setl_off h9), fun h => hS.2.2.2 (by rwa [setl_ne (by decide)] at h)⟩ (fun _ _ _ h => h) (fun _ => rfl)))
          first
            | (go_simp; done)
            | (go_simp; rfl)
        · intro n f A u K hfr hn hl hS hv hK
          obtain ⟨h0, h1, -⟩ : OwnF u M (A.tmps.getD 22 undef) x.fix ∧ A.tmps.getD 24 undef = .pointer (some ⟨X, 5, none⟩) ∧ True := ⟨hv.1, hv.2.1, trivial⟩
          obtain ⟨vb1, hvb1, HX⟩ := hS.2.2.1 (hl.2.1 7 (by decide)) hl.1
          have cX := HX.cell
          have fX := HX.frozen
          obtain ⟨g1, g2, hg⟩ := owns_form h0
          have eB : (A.tmps[22]?).getD undef = .slice g1 x.fix.length g2 := by rw [← hg]; simp
          have eP : (A.tmps[24]?).getD undef = .pointer (some ⟨X, 5, none⟩) := by simpa using h1
          rw [hg] at h0
          have HX2 : Blk (u.setCell ⟨X, 5, none⟩ (.slice g1 x.fix.length g2)) X #[.string x.name, .int .i64 x.kind, .int .i64 x.align, vb1, .int .i64 x.size, .slice g1 x.fix.length g2] 69 := by
            have := HX.set (o := 5) (.slice g1 x.fix.length g2)
            simpa using this
          refine owe_run rfl (wp_skp (w' := u.setCell ⟨X, 5, none⟩ (.slice g1 x.fix.length g2)) ?_ (hK undef _ ⟨⟨hS.1.1.setCell (Nat.le_refl _) _, by simpa using hS.1.2⟩, fun h => (by rw [setl_ne (by decide), hl.2.1 7 (by decide)] at h; cases h), fun _ h => (by rw [setl_at] at h; cases h), fun _ => ⟨vb1, _, ownsRow_setCell_below hvb1 (a := ⟨X, 5, none⟩) hXM _, ownsRow_setCell_below h0 (a := ⟨X, 5, none⟩) hXM _, HX2⟩⟩ (fun j y hj h => hset j y u 5 _ h) (fun h => absurd rfl h)))
          first
            | (go_simp; done)
            | (go_simp; rfl)
      case hq =>
        intro g u hS hg
        clear hg
        simp only [List.map, putG, Nat.zero_add, Nat.reduceAdd, List.setIfInBounds_toArray, List.set_cons_zero, List.set_cons_succ]
        obtain ⟨vb1, vf1, hb1, hf1, hbx⟩ := hS.2.2.2 (by decide)
        have hFu : From wr.heap.size wr u := by rw [hX]; exact hS.1.1
        have hMu : M ≤ u.heap.size := hS.1.2
        have hne := owns_ne hb1 hf1 (by decide)
        obtain ⟨g1, g2, rfl⟩ := owns_form hb1
        obtain ⟨q1, q2, rfl⟩ := owns_form hf1
        have HBb := Lib.hid hb1
        have HFf := Lib.hid hf1
        have HNE := Lib.hid hne
        have HBX2 := Lib.hid hbx
        have HLT := Lib.hid HO.out.lt
        have HO2 := Lib.hid (HO.out.call hFu.below)
        have HY2 : Hid (OwnSyms u w1.heap.size (.slice ra o.syms.length rc) o.syms) := owns_call HY3.out hFu.below
        have HB12 := Lib.hid (HB1.out.call hFu.below)
        have HB32 := Lib.hid (HB3.out.call hFu.below)
        have HF2 := Lib.hid (HF.out.call hFu.below)
        have zB : B < wr.heap.size := HB3.out.lt
        have cX := hbx.cell
        have zX := hbx.lt
        have cB := HB32.out.cell
        have fB := HB32.out.frozen
        have zB2 := HB32.out.lt
        clear V hcall hset hS hb1 hf1 hne hbx hFu HO HY3 HB1 HB3 HF HBX HFX HBw HFw HBy0 HFi0
        go_wp2_with (at_builtin; refine wpList_append_own rfl (.tmp 26) (.tmp 28) 23 23 rfl (B + 1) 69 j0 _ 6 88 Try.underlying23 hj0 hy0 hy1 hy2 rfl (by decide) _ _ _ rfl (World.ownsRow.alloc HO2.out.row _) _ 1 [_, _, _, _, _, _] rfl (src_new Try.underlying23 _ [_, _, _, _, _, _] 6 1 1 _ rfl ?c0) ?c1 ?c2 ?c3 ?_)
        case c0 =>
          intro u hu
          simp only [List.mem_cons, List.not_mem_nil, or_false] at hu
          rcases hu with rfl | rfl | rfl | rfl | rfl | rfl <;> rfl
        case c1 => unfold maxLen; omega
        case c2 => omega
        case c3 => first | omega | (simp; omega)
        intro v' w4 hown hgr hpl
        obtain ⟨ls2, hls2⟩ : ∃ ls2, ls ++ [(x, Value.slice g1 x.bytes.length g2, Value.slice q1 x.fix.length q2)] = ls2 := ⟨_, rfl⟩
        have hsn := (HO2.out.alloc (.cells #[.string x.name, .int .i64 x.kind, .int .i64 x.align, .slice g1 x.bytes.length g2, .int .i64 x.size, .slice q1 x.fix.length q2] 69)).snoc (m := M) (x := (x, .slice g1 x.bytes.length g2, .slice q1 x.fix.length q2)) (fun k hk => by have := (HLT.out k hk).2; omega) (by omega) (World.ownsRow.alloc HBb.out _) (World.ownsRow.alloc HFf.out _) HNE.out hgr hown (by simpa using hpl)
        have hlen2 : ls.length + 1 = ls2.length := by rw [← hls2, List.length_append]; rfl
        have hown2 := hown
        rw [hlen2] at hown2
        obtain ⟨va2, vc2, rfl⟩ := owns_form hown2
        rw [hls2] at hsn
        have HSN := Lib.hid hsn
        have HB34 := Lib.hid (Blk.grown (HB32.out.alloc (.cells #[.string x.name, .int .i64 x.kind, .int .i64 x.align, .slice g1 x.bytes.length g2, .int .i64 x.size, .slice q1 x.fix.length q2] 69)) hgr (fun e => by have := owns_block HO2.out.row B e.symm; omega))
        have HB14 := Lib.hid (Blk.grown (HB12.out.alloc (.cells #[.string x.name, .int .i64 x.kind, .int .i64 x.align, .slice g1 x.bytes.length g2, .int .i64 x.size, .slice q1 x.fix.length q2] 69)) hgr (fun e => by have := owns_block HO2.out.row _ e.symm; omega))
        have HY4 : Hid (OwnSyms w4 w1.heap.size (.slice ra o.syms.length rc) o.syms) := World.ownsRow.kept (World.ownsRow.alloc HY2.out _) hgr (by
          cases hq : (Value.slice ra o.syms.length rc).ownBlock with
          | none => exact .inl rfl
          | some q => exact .inr fun e => (by have := HYlt.out q hq; have := owns_block HO2.out.row q e.symm; omega))
        have HF4 := Lib.hid (From.grown (HF2.out.alloc (.cells #[.string x.name, .int .i64 x.kind, .int .i64 x.align, .slice g1 x.bytes.length g2, .int .i64 x.size, .slice q1 x.fix.length q2] 69)) hgr (fun k hk => by have := owns_block HO2.out.row k hk; omega))
        have HL2 : Hid (o.secs.take (k + 1) = ls2.map (·.1)) := by show _ = _; rw [HT.out, ← hls2, List.map_append]; rfl
        have HO5 : Hid (OwnSecs (w4.setCell ⟨B, 0, none⟩ (.slice va2 ls2.length vc2)) (B + 1) (.slice va2 ls2.length vc2) ls2) := HSN.out.setBelow (a := ⟨B, 0, none⟩) (Nat.lt_succ_self B) _
        have HY5 : Hid (OwnSyms (w4.setCell ⟨B, 0, none⟩ (.slice va2 ls2.length vc2)) w1.heap.size (.slice ra o.syms.length rc) o.syms) := ownsRow_setCell_other HY4.out (a := ⟨B, 0, none⟩) (fun e => by have := (HYlt.out B e).2; omega) _
        have HB15 : Hid (Blk (w4.setCell ⟨B, 0, none⟩ (.slice va2 ls2.length vc2)) (w.heap.size + 1) #[.slice none 0 0, .slice none 0 0] 26) := Blk.other HB14.out (p := ⟨B, 0, none⟩) (by show B ≠ _; omega) _
        have HB35 : Hid (Blk (w4.setCell ⟨B, 0, none⟩ (.slice va2 ls2.length vc2)) B #[.slice va2 ls2.length vc2, .slice ra m2 rc] 26) := by
          show Blk _ _ _ _
          have := HB34.out.set (o := 0) (.slice va2 ls2.length vc2)
          simpa using this
        have HF5 : Hid (From w.heap.size w (w4.setCell ⟨B, 0, none⟩ (.slice va2 ls2.length vc2))) := From.setCell HF4.out (p := ⟨B, 0, none⟩) (by show _ ≤ B; omega) _
        have cB4 := HB34.out.cell
        have fB4 := HB34.out.frozen
        have zB4 := HB34.out.lt
        rw [hlen2] at *
        clear hown hown2 hgr hpl hsn hls2 cB fB cX zX
        go_wp2_with fail
        go_roundw
        case rel => exact ⟨k + 1, ls2, va2, vc2, by omega, by go_num, HL2, HO5, HY5, HB15, HB35, HF5⟩
        case measure => simp [intOf]; try omega
    · obtain rfl : k = o.secs.length := by omega
      have hsecs : Hid (o.secs = ls.map (·.1)) := by show _ = _; rw [← HL.out, List.take_length]
      have cR := HB1.out.cell
      have fR := HB1.out.frozen
      have zR := HB1.out.lt
      have cB := HB3.out.cell
      have zB := HB3.out.lt
      have hne : B ≠ w.heap.size + 1 := by omega
      go_wp2_with fail
      refine bodyPost_ret (v := .agg #[.slice va ls.length vc, .slice ra m2 rc]) (by simp [results, Try.results73, go_sem, cR, zR]) rfl ⟨_, rfl, ⟨_, _, ls, rfl, hsecs.out, ?_, ?_, ?_⟩, ?_⟩
      · exact ((HO.out.setBelow (a := ⟨w.heap.size + 1, 0, none⟩) (by show w.heap.size + 1 < B + 1; omega) _).setBelow (a := ⟨w.heap.size + 1, 1, none⟩) (by show w.heap.size + 1 < B + 1; omega) _).mono (show w.heap.size ≤ B + 1 by omega)
      · have h := ownsRow_setCell_below (ownsRow_setCell_below HY3.out (a := ⟨w.heap.size + 1, 0, none⟩) z1 (.slice va ls.length vc)) (a := ⟨w.heap.size + 1, 1, none⟩) z1 (.slice ra m2 rc)
        rw [HM2.out] at h
        unfold OwnSyms
        rw [HM2.out]
        exact owns_mono h (show w.heap.size ≤ w1.heap.size by omega)
      · intro q hq hm
        have := (HO.out.lt q hm).1
        have := (HYlt.out q (by rw [HM2.out]; exact hq)).2
        omega
      · exact ((HF.out.setCell (p := ⟨w.heap.size + 1, 0, none⟩) (Nat.le_succ _) (.slice va ls.length vc)).setCell (p := ⟨w.heap.size + 1, 1, none⟩) (Nat.le_succ _) (.slice ra m2 rc)).below
end Go.Proofs.Ythccjimckjecjaa
