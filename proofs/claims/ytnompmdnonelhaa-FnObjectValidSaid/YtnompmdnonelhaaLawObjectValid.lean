/- Objects have different names: a valid object with a symbol twice is invalid, if that is not BindLocal. No condition. -/
import Derived.Test.YtnompmdnonelhaaFacts
import Derived.Test.YtnompmdnonelhaaDrawK
import Derived.Test.YtnompmdnonelhaaDrawP
import Derived.Test.YtnompmdnonelhaaInvF
import Derived.Test.YtnompmdnonelhaaObjValI
import Derived.Test.YtnompmdnonelhaaObjValS
namespace Go.Proofs.Ytnompmdnonelhaa
open Go.ChangeShapes Go.WideShapes Go.ChangeAt Go.RowKit Go.Joins
set_option linter.unusedSimpArgs false
set_option linter.unusedVariables false
set_option maxRecDepth 100000
theorem sym_one (s : SymD) : ∀ u ∈ symL s, u.oneCell' = true := by
  intro u hu
  simp only [List.mem_cons, List.not_mem_nil, or_false] at hu
  rcases hu with rfl | rfl | rfl | rfl <;> rfl
set_option maxHeartbeats 1000000 in
theorem walk_FnObjectValid (w : World) (v : Value) (l : List UInt8) (h : BytesAt w v l) :
    Calls Try.prog 6 #[v] w fun e w' => e = .returned (.bool true) ∧ Below w.heap.size w w' := by
  obtain ⟨a, cap, hv, hcap, hmax, hnone, hcell⟩ := h.form
  clear hnone hcell
  by_cases hl : (l.length : Int) ≤ 1048576
  · have H := Lib.hid h
    clear h
    subst hv
    unfold maxLen at hmax
    go_enter Try.func6, Try.ntmps6
    go_wp2_with fail
    refine (s_DrawObjectValid_any _ _ l H.out).mono ?_
    rintro e w1 ⟨_, rfl, ⟨o, ho, hn1, hn2, hl1, hl2, -⟩, hF⟩
    obtain ⟨sa, sc, ya, yc, rfl⟩ := ho.agg
    obtain ⟨j0, hi, hz0, hz1, hz2⟩ := info_parts info_sym
    have HF := Lib.hid hF
    have HO := Lib.hid ho
    have HN := Lib.hid (⟨fun s hs => by have := hn1 s hs; unfold maxLen; omega, fun s hs => by have := hn2 s hs; unfold maxLen; omega⟩ : (∀ s ∈ o.secs, s.name.size ≤ maxLen) ∧ ∀ s ∈ o.syms, s.name.size ≤ maxLen)
    clear hF ho hn1 hn2
    go_wp2_with fail
    refine (i_ObjectValid _ _ o (HO.out.below (Nat.le_refl _) ((From.start w1).alloc _).below) HN.out).mono ?_
    rintro e w2 ⟨rfl, h2⟩
    have HG2 := Lib.hid (((From.start w1).alloc _).call h2)
    have HF2 := Lib.hid ((HF.out.alloc _).call h2)
    have B2 := (Blk.new w1 #[.slice sa o.secs.length sc, .slice ya o.syms.length yc] 41).call h2
    have HB2 := Lib.hid B2
    have c2 := B2.cell
    have z2 := B2.lt
    clear h2 HF B2
    go_wp2_with fail
    refine (s_ObjectValid _ _ o (HO.out.below (Nat.le_refl _) HG2.out.below) HN.out).mono ?_
    rintro e w3 ⟨rfl, h3⟩
    have HF3 := Lib.hid (HF2.out.call h3)
    have HG3 := Lib.hid (HG2.out.call h3)
    have HT3 := Lib.hid (HB2.out.call h3)
    have c3 := HT3.out.cell
    have zT3 := HT3.out.lt
    have e3 : (objB o != objB o) = false := by simp
    clear h3 HF2 HG2 c2 z2 HB2
    obtain ⟨ov, hov⟩ : ∃ ov, objB o = ov := ⟨_, rfl⟩
    have HOV := Lib.hid hov
    rw [hov] at e3
    rw [hov]
    clear hov
    have last : ∀ (u : World), From w.heap.size w u → Calls Try.prog 28 #[.agg #[.slice none 0 0, .slice none 0 0]] u fun e w' => e = .returned (.bool true) ∧ Below u.heap.size u w' := fun u hu => by
      have := i_ObjectValid u (.agg #[.slice none 0 0, .slice none 0 0]) ⟨[], []⟩ ⟨_, _, rfl, ⟨[], rfl, Reads.nil _ _, fun x hx => by cases hx⟩, Reads.nil _ _⟩ ⟨fun s hs => (by cases hs), fun s hs => (by cases hs)⟩
      rwa [objB_empty] at this
    have HL := Lib.hid last
    clear last
    cases ov
    · go_wp2_with fail
      refine (HL.out _ HF3.out).mono ?_
      rintro e w4 ⟨rfl, h4⟩
      have HF4 := Lib.hid (HF3.out.call h4)
      clear h4 HF3 HG3 c3 zT3
      go_wp2_with (first | (go_at_call 20; (with_reducible refine (alive_any _).mono ?_); rintro e w' ⟨rfl, rfl⟩))
      go_ret
      exact ⟨rfl, HF4.out.below⟩
    by_cases hlen : o.syms.length = 0
    · have el : ((o.syms.length : Int) == 0) = true := by simpa using hlen
      clear hlen
      go_wp2_with fail
      refine (HL.out _ HF3.out).mono ?_
      rintro e w4 ⟨rfl, h4⟩
      have HF4 := Lib.hid (HF3.out.call h4)
      clear h4 HF3 HG3 c3 zT3
      go_wp2_with (first | (go_at_call 20; (with_reducible refine (alive_any _).mono ?_); rintro e w' ⟨rfl, rfl⟩))
      go_ret
      exact ⟨rfl, HF4.out.below⟩
    have el : ((o.syms.length : Int) == 0) = false := by simpa using hlen
    have HY1 : SymsAt w1 (.slice ya o.syms.length yc) o.syms := by
      obtain ⟨vs', vy', hv, -, hy⟩ := HO.out
      simp only [Value.agg.injEq, Array.mk.injEq, List.cons.injEq, and_true] at hv
      obtain ⟨rfl, rfl⟩ := hv
      exact hy
    have HY3 := Lib.hid (HY1.below (Nat.le_refl _) HG3.out.below)
    obtain ⟨a', c', hv, -, -, -, hc⟩ := HY3.out.form
    simp only [Value.slice.injEq] at hv
    obtain ⟨rfl, -, rfl⟩ := hv
    obtain ⟨yb, yo, rfl, hcc⟩ := hc (by omega)
    obtain ⟨s0, rs, hs0⟩ : ∃ s0 rs, o.syms = s0 :: rs := by
      cases h : o.syms with
      | nil => rw [h] at hlen; simp at hlen
      | cons a b => exact ⟨a, b, rfl⟩
    have HS0 := Lib.hid hs0
    have h00 : o.syms[0]'(by omega) = s0 := by simp [hs0]
    obtain ⟨c0, c1, c4, c5⟩ := hcc 0 (by omega)
    rw [h00] at c0 c1 c4 c5
    simp only [Nat.zero_mul, Nat.add_zero] at c0 c1 c4 c5
    have HC3 : Hid (yb < w3.heap.size ∧ w3.cell? ⟨yb, yo, none⟩ = some (.string s0.name) ∧ w3.cell? ⟨yb, yo + 1, none⟩ = some (.int .i64 s0.bind) ∧ w3.cell? ⟨yb, yo + 2, none⟩ = some (.int .i64 s0.whr) ∧ w3.cell? ⟨yb, yo + 3, none⟩ = some (.int .i64 s0.val)) := ⟨World.block_lt_of_cell? w3 _ c0, c0, c1, c4, c5⟩
    have l0 : (0 : Int) < (o.syms.length : Int) := by omega
    clear hc hcc hs0 h00 HY1 c0 c4 c5
    by_cases hb : s0.bind = 0
    · have eb : (s0.bind == 0) = true := by simpa using hb
      clear hb
      go_wp2_with fail
      refine (HL.out _ HF3.out).mono ?_
      rintro e w4 ⟨rfl, h4⟩
      have HF4 := Lib.hid (HF3.out.call h4)
      clear h4 HF3 HG3 c3 zT3 c1
      go_wp2_with (first | (go_at_call 20; (with_reducible refine (alive_any _).mono ?_); rintro e w' ⟨rfl, rfl⟩))
      go_ret
      exact ⟨rfl, HF4.out.below⟩
    have eb : (s0.bind == 0) = false := by simpa using hb
    have HBad : Hid (objB ⟨o.secs, o.syms ++ [s0]⟩ = false) := objB_twice HS0.out hb
    clear hb
    go_wp2_with fail
    clear c1 c3
    let VB : Bool → Nat → Value → World → Prop := fun b14 i v u => match i with
      | 0 => v = .pointer (some ⟨w1.heap.size, 0, none⟩)
      | 1 => v = .slice sa o.secs.length sc
      | 2 => ∃ q, v = .slice (some ⟨q, 0, none⟩) 0 0 ∧ w3.heap.size ≤ q ∧ Blk u q #[] 34
      | 3 => v = .pointer (some ⟨w1.heap.size, 1, none⟩)
      | 4 => v = .slice (some ⟨yb, yo, none⟩) o.syms.length yc
      | 5 => u.ownsRow w3.heap.size 34 4 v o.syms.length (o.syms.flatMap symL)
      | 6 => v = .pointer (some ⟨w1.heap.size, 1, none⟩)
      | 7 => v = .slice (some ⟨yb, yo, none⟩) o.syms.length yc
      | 8 => v = .pointer (some ⟨yb, yo, none⟩)
      | 9 => v = symV s0
      | 10 => ∃ q, v = .slice (some ⟨q, 0, none⟩) 1 1 ∧ w3.heap.size ≤ q ∧ Blk u q (symCells s0) 34
      | 11 => u.ownsRow w3.heap.size 34 4 v (o.syms.length + 1) (o.syms.flatMap symL ++ symL s0)
      | 12 => ∃ ta tc, v = .agg #[.slice sa o.secs.length sc, .slice ta (o.syms.length + 1) tc] ∧ u.ownsRow w3.heap.size 34 4 (.slice ta (o.syms.length + 1) tc) (o.syms.length + 1) (o.syms.flatMap symL ++ symL s0)
      | 13 => ∃ q c, v = .pointer (some ⟨q, 0, none⟩) ∧ w3.heap.size ≤ q ∧ Blk u q c 41 ∧ c.size = 2 ∧ (b14 = true → ∃ ta tc, c = #[.slice sa o.secs.length sc, .slice ta (o.syms.length + 1) tc] ∧ u.ownsRow w3.heap.size 34 4 (.slice ta (o.syms.length + 1) tc) (o.syms.length + 1) (o.syms.flatMap symL ++ symL s0))
      | _ => True
    let V : (Nat → Bool) → Nat → Value → World → Prop := fun f => VB (f 14)
    have hsame : ∀ k, k ≠ 14 → ∀ (f : Nat → Bool) j x u, V f j x u → V (setl f k) j x u := by
      intro k hk f j x u h
      show VB (setl f k 14) j x u
      rw [setl_ne (Ne.symm hk)]
      exact h
    have halloc : ∀ k, k ≠ 14 → ∀ (f : Nat → Bool) j x u u', f 14 = false → Below u.heap.size u u' → V f j x u → V (setl f k) j x u' := by
      intro k hk f j x u u' hf hb h
      show VB (setl f k 14) j x u'
      rw [setl_ne (Ne.symm hk), hf]
      have h : VB (f 14) j x u := h
      rw [hf] at h
      rcases j with _ | _ | _ | _ | _ | _ | _ | _ | _ | _ | _ | _ | _ | _ | j
      all_goals first
        | exact h
        | exact owns_call h hb
        | (obtain ⟨p, h4, h5, h6⟩ := h
           exact ⟨p, h4, h5, h6.call hb⟩)
        | (obtain ⟨ta, tc, h4, h5⟩ := h
           exact ⟨ta, tc, h4, owns_call h5 hb⟩)
        | (obtain ⟨p, c, h4, h5, h6, h7, h8⟩ := h
           exact ⟨p, c, h4, h5, h6.call hb, h7, fun hh => by cases hh⟩)
    refine wp_region_flag V (fun _ _ u => From w3.heap.size w3 u) [[], [0], [], [], [3], [2, 4], [], [6], [7], [8], [9], [5, 10], [1, 11], [], [12, 13]] [[], [0], [], [], [3], [2, 3, 4], [], [6], [6, 7], [6, 7, 8], [6, 7, 8, 9], [2, 3, 4, 5, 6, 7, 8, 9, 10], [0, 1, 2, 3, 4, 5, 6, 7, 8, 9, 10, 11], [], [0, 1, 2, 3, 4, 5, 6, 7, 8, 9, 10, 11, 12, 13]] [13] (by kernel_rfl) (by kernel_rfl) (by kernel_rfl) (by kernel_rfl) (by kernel_rfl) (From.start w3).drew ?ho ?hq
    case ho =>
      refine ⟨?_, ?_, ?_, ?_, ?_, ?_, ?_, ?_, ?_, ?_, ?_, ?_, ?_, ?_, ?_, trivial⟩
      · intro n f A u K hfr hn hl hS hv hK
        have e4 : A.tmps.getD 3 undef = .pointer (some ⟨w1.heap.size, 0, none⟩) := hfr 3 (not_dst (by kernel_rfl))
        have e5 : (A.tmps[3]?).getD undef = .pointer (some ⟨w1.heap.size, 0, none⟩) := by simpa using e4
        refine owe_run rfl (wp_val (v := .pointer (some ⟨w1.heap.size, 0, none⟩)) ?_ (hK _ _ hS (fun j d hd hj h => hsame 0 (by decide) f j _ u h) (fun _ => rfl)))
        first
          | (go_simp; done)
          | (go_simp; rfl)
      · intro n f A u K hfr hn hl hS hv hK
        have cT0 := (HT3.out.below hS.below zT3).cell 0
        have cT1 := (HT3.out.below hS.below zT3).cell 1
        simp at cT0 cT1
        have eA0 : A.tmps.getD 38 undef = .pointer (some ⟨w1.heap.size, 0, none⟩) := hv.1
        have eB0 : (A.tmps[38]?).getD undef = .pointer (some ⟨w1.heap.size, 0, none⟩) := by simpa using eA0
        refine owe_run rfl (wp_val (v := .slice sa o.secs.length sc) ?_ (hK _ _ hS (fun j d hd hj h => hsame 1 (by decide) f j _ u h) (fun _ => rfl)))
        first
          | (go_simp; done)
          | (go_simp; rfl)
      · intro n f A u K hfr hn hl hS hv hK
        refine owe_run rfl (wp_val (v := .slice (some ⟨u.heap.size, 0, none⟩) 0 0) (w' := u.alloc (.cells #[] 34)) ?_ (hK _ _ (hS.alloc _) (fun j d hd hj h => halloc 2 (by decide) f j _ u _ (hl.2.2 14 (by decide)) ((From.start u).alloc _).below h) (fun _ => ⟨_, rfl, hS.le, Blk.new u _ _⟩)))
        first
          | (go_simp; done)
          | (go_simp; rfl)
      · intro n f A u K hfr hn hl hS hv hK
        have e4 : A.tmps.getD 3 undef = .pointer (some ⟨w1.heap.size, 0, none⟩) := hfr 3 (not_dst (by kernel_rfl))
        have e5 : (A.tmps[3]?).getD undef = .pointer (some ⟨w1.heap.size, 0, none⟩) := by simpa using e4
        refine owe_run rfl (wp_val (v := .pointer (some ⟨w1.heap.size, 1, none⟩)) ?_ (hK _ _ hS (fun j d hd hj h => hsame 3 (by decide) f j _ u h) (fun _ => rfl)))
        first
          | (go_simp; done)
          | (go_simp; rfl)
      · intro n f A u K hfr hn hl hS hv hK
        have cT0 := (HT3.out.below hS.below zT3).cell 0
        have cT1 := (HT3.out.below hS.below zT3).cell 1
        simp at cT0 cT1
        have eA0 : A.tmps.getD 41 undef = .pointer (some ⟨w1.heap.size, 1, none⟩) := hv.1
        have eB0 : (A.tmps[41]?).getD undef = .pointer (some ⟨w1.heap.size, 1, none⟩) := by simpa using eA0
        refine owe_run rfl (wp_val (v := .slice (some ⟨yb, yo, none⟩) o.syms.length yc) ?_ (hK _ _ hS (fun j d hd hj h => hsame 4 (by decide) f j _ u h) (fun _ => rfl)))
        first
          | (go_simp; done)
          | (go_simp; rfl)
      · intro n f A u K hfr hn hl hS hv hK
        obtain ⟨⟨q, h0, h1, h2⟩, h3, -⟩ : (∃ q, A.tmps.getD 40 undef = .slice (some ⟨q, 0, none⟩) 0 0 ∧ w3.heap.size ≤ q ∧ Blk u q #[] 34) ∧ A.tmps.getD 42 undef = .slice (some ⟨yb, yo, none⟩) o.syms.length yc ∧ True := ⟨hv.1, hv.2.1, trivial⟩
        have ho : u.ownsRow w3.heap.size 34 4 (.slice (some ⟨q, 0, none⟩) 0 0) 0 [] := ⟨rfl, .inr ⟨q, 0, #[], rfl, h1, h2, Nat.le_refl _, Nat.zero_le _, rfl, rfl⟩⟩
        obtain ⟨v', u', hrun, hown, hgr⟩ := run_append_src u 39 39 39 w3.heap.size 34 j0 _ Try.underlying39 hi hz0 (by rw [hz1]; rfl) (by rw [hz1]; decide) _ 0 [] (by rw [hz1]; exact ho) (.slice (some ⟨yb, yo, none⟩) o.syms.length yc) o.syms.length (o.syms.flatMap symL) (by rw [hz1]; exact src_reads Try.underlying39 (HY3.out.below (Nat.le_refl _) hS.below) (flat_one symL sym_one _)) (by unfold maxLen; omega) (by rw [hz2]; omega) hS.le
        rw [hz1] at hown
        refine owe_run rfl (wp_val (v := v') (w' := u') ?_ (hK _ _ (hS.grown hgr (fun b hb => by simp [Value.ownBlock] at hb; omega)) (fun j d hd hj h => ?_) (fun _ => by rw [Nat.zero_add, List.nil_append] at hown; exact hown)))
        · simp at h0 h3 hrun
          simp [execOp, resolve, invoke, builtin, Act.eval, h0, h3, hrun]
        · have hq : ∀ p c t, Blk u p c t → (c ≠ #[] ∨ t ≠ 34) → Blk u' p c t := fun p c t hb hne => hb.grown hgr (fun e => by
            simp only [Value.ownBlock, Option.some.injEq] at e
            subst e
            have h7 : u.heap[p]? = some (.cells #[] 34 (0, 0)) := h2
            have h8 : u.heap[p]? = some (.cells c t (0, 0)) := hb
            rw [h7] at h8
            simp only [Option.some.injEq, Obj.cells.injEq] at h8
            rcases hne with hne | hne
            · exact hne h8.1.symm
            · exact hne h8.2.1.symm)
          rcases j with _ | _ | _ | _ | _ | _ | _ | _ | _ | _ | _ | _ | _ | _ | _ | j
          all_goals first
            | exact h
            | exact absurd hj (by decide)
            | exact trivial
            | (obtain ⟨p, h4, h5, h6⟩ := h
               exact ⟨p, h4, h5, hq p _ _ h6 (.inl (by simp))⟩)
            | (obtain ⟨p, c, h4, h5, h6, h7, h8⟩ := h
               exact ⟨p, c, h4, h5, hq p _ _ h6 (.inr (by decide)), h7, fun hf => by rw [setl_ne (by decide), hl.2.2 14 (by decide)] at hf; cases hf⟩)
      · intro n f A u K hfr hn hl hS hv hK
        have e4 : A.tmps.getD 3 undef = .pointer (some ⟨w1.heap.size, 0, none⟩) := hfr 3 (not_dst (by kernel_rfl))
        have e5 : (A.tmps[3]?).getD undef = .pointer (some ⟨w1.heap.size, 0, none⟩) := by simpa using e4
        refine owe_run rfl (wp_val (v := .pointer (some ⟨w1.heap.size, 1, none⟩)) ?_ (hK _ _ hS (fun j d hd hj h => hsame 6 (by decide) f j _ u h) (fun _ => rfl)))
        first
          | (go_simp; done)
          | (go_simp; rfl)
      · intro n f A u K hfr hn hl hS hv hK
        have cT0 := (HT3.out.below hS.below zT3).cell 0
        have cT1 := (HT3.out.below hS.below zT3).cell 1
        simp at cT0 cT1
        have eA0 : A.tmps.getD 44 undef = .pointer (some ⟨w1.heap.size, 1, none⟩) := hv.1
        have eB0 : (A.tmps[44]?).getD undef = .pointer (some ⟨w1.heap.size, 1, none⟩) := by simpa using eA0
        refine owe_run rfl (wp_val (v := .slice (some ⟨yb, yo, none⟩) o.syms.length yc) ?_ (hK _ _ hS (fun j d hd hj h => hsame 7 (by decide) f j _ u h) (fun _ => rfl)))
        first
          | (go_simp; done)
          | (go_simp; rfl)
      · intro n f A u K hfr hn hl hS hv hK
        have l0 : (0 : Int) < (o.syms.length : Int) := by omega
        have eA0 : A.tmps.getD 45 undef = .slice (some ⟨yb, yo, none⟩) o.syms.length yc := hv.1
        have eB0 : (A.tmps[45]?).getD undef = .slice (some ⟨yb, yo, none⟩) o.syms.length yc := by simpa using eA0
        refine owe_run rfl (wp_val (v := .pointer (some ⟨yb, yo, none⟩)) ?_ (hK _ _ hS (fun j d hd hj h => hsame 8 (by decide) f j _ u h) (fun _ => rfl)))
        first
          | (go_simp; done)
          | (go_simp; rfl)
      · intro n f A u K hfr hn hl hS hv hK
        have d0 := (hS.below.cell (p := ⟨yb, yo, none⟩) HC3.out.1).trans HC3.out.2.1
        have d1 := (hS.below.cell (p := ⟨yb, yo + 1, none⟩) HC3.out.1).trans HC3.out.2.2.1
        have d2 := (hS.below.cell (p := ⟨yb, yo + 2, none⟩) HC3.out.1).trans HC3.out.2.2.2.1
        have d3 := (hS.below.cell (p := ⟨yb, yo + 3, none⟩) HC3.out.1).trans HC3.out.2.2.2.2
        have eA0 : A.tmps.getD 46 undef = .pointer (some ⟨yb, yo, none⟩) := hv.1
        have eB0 : (A.tmps[46]?).getD undef = .pointer (some ⟨yb, yo, none⟩) := by simpa using eA0
        refine owe_run rfl (wp_val (v := symV s0) ?_ (hK _ _ hS (fun j d hd hj h => hsame 9 (by decide) f j _ u h) (fun _ => rfl)))
        first
          | (go_simp; done)
          | (go_simp; rfl)
      · intro n f A u K hfr hn hl hS hv hK
        have e4 : A.tmps.getD 47 undef = symV s0 := hv.1
        have e5 : (A.tmps[47]?).getD undef = symV s0 := by simpa using e4
        refine owe_run rfl (wp_val (v := .slice (some ⟨u.heap.size, 0, none⟩) 1 1) (w' := u.alloc (.cells (symCells s0) 34)) ?_ (hK _ _ (hS.alloc _) (fun j d hd hj h => halloc 10 (by decide) f j _ u _ (hl.2.2 14 (by decide)) ((From.start u).alloc _).below h) (fun _ => ⟨_, rfl, hS.le, Blk.new u _ _⟩)))
        first
          | (go_simp; done)
          | (go_simp; rfl)
      · intro n f A u K hfr hn hl hS hv hK
        obtain ⟨h0, ⟨q, h3, h1, h2⟩, -⟩ : u.ownsRow w3.heap.size 34 4 (A.tmps.getD 43 undef) o.syms.length (o.syms.flatMap symL) ∧ (∃ q, A.tmps.getD 48 undef = .slice (some ⟨q, 0, none⟩) 1 1 ∧ w3.heap.size ≤ q ∧ Blk u q (symCells s0) 34) ∧ True := ⟨hv.1, hv.2.1, trivial⟩
        obtain ⟨v', u', hrun, hown, hgr⟩ := run_append_src u 39 39 39 w3.heap.size 34 j0 _ Try.underlying39 hi hz0 (by rw [hz1]; rfl) (by rw [hz1]; decide) _ _ _ (by rw [hz1]; exact h0) (.slice (some ⟨q, 0, none⟩) 1 1) 1 (symL s0) (by rw [hz1]; exact src_blk Try.underlying39 u q (symL s0) 4 1 1 34 h2 rfl (sym_one s0)) (by unfold maxLen; omega) (by rw [hz2]; omega) hS.le
        rw [hz1] at hown
        refine owe_run rfl (wp_val (v := v') (w' := u') ?_ (hK _ _ (hS.grown hgr (owns_block h0)) (fun j d hd hj h => ?_) (fun _ => hown)))
        · simp at h3 hrun
          simp [execOp, resolve, invoke, builtin, Act.eval, h3, hrun]
        · rcases j with _ | _ | _ | _ | _ | _ | _ | _ | _ | _ | _ | _ | _ | _ | _ | j
          all_goals first
            | exact h
            | exact absurd hj (by decide)
            | exact trivial
            | (obtain ⟨p, c, h4, h5, h6, h7, h8⟩ := h
               refine ⟨p, c, h4, h5, h6.grown hgr (fun e => ?_), h7, fun hf => by rw [setl_ne (by decide), hl.2.2 14 (by decide)] at hf; cases hf⟩
               rcases h0.2 with ⟨hv0, _⟩ | ⟨gg, cap, cur, hv0, hb0, hg0, _⟩
               · rw [hv0] at e; simp [Value.ownBlock] at e
               · rw [hv0] at e
                 simp only [Value.ownBlock, Option.some.injEq] at e
                 subst e
                 have h9 : u.heap[p]? = some (.cells c 41 (0, 0)) := h6
                 rw [hg0] at h9
                 simp at h9)
      · intro n f A u K hfr hn hl hS hv hK
        obtain ⟨h0, h1, -⟩ : A.tmps.getD 39 undef = .slice sa o.secs.length sc ∧ u.ownsRow w3.heap.size 34 4 (A.tmps.getD 49 undef) (o.syms.length + 1) (o.syms.flatMap symL ++ symL s0) ∧ True := ⟨hv.1, hv.2.1, trivial⟩
        obtain ⟨ta, tc, h2⟩ := owns_form h1
        rw [h2] at h1
        have h0' : (A.tmps[39]?).getD undef = .slice sa o.secs.length sc := by simpa using h0
        have h2' : (A.tmps[49]?).getD undef = .slice ta (o.syms.length + 1) tc := by simpa using h2
        refine owe_run rfl (wp_val (v := .agg #[.slice sa o.secs.length sc, .slice ta (o.syms.length + 1) tc]) ?_ (hK _ _ hS (fun j d hd hj h => hsame 12 (by decide) f j _ u h) (fun _ => ⟨ta, tc, rfl, h1⟩)))
        first
          | (go_simp; done)
          | (go_simp; rfl)
      · intro n f A u K hfr hn hl hS hv hK
        refine owe_run rfl (wp_val (v := .pointer (some ⟨u.heap.size, 0, none⟩)) (w' := u.alloc (.cells objZero 41)) ?_ (hK _ _ (hS.alloc _) (fun j d hd hj h => halloc 13 (by decide) f j _ u _ (hl.2.2 14 (by decide)) ((From.start u).alloc _).below h) (fun _ => ⟨_, _, rfl, hS.le, Blk.new u _ _, rfl, fun hf => by rw [setl_ne (by decide), hl.2.2 14 (by decide)] at hf; cases hf⟩)))
        first
          | (go_simp; done)
          | (go_simp; rfl)
      · intro n f A u K hfr hn hl hS hv hK
        obtain ⟨⟨ta, tc, h0, h1⟩, ⟨q, c, h2, h3, h4, h5, -⟩, -⟩ : (∃ ta tc, A.tmps.getD 50 undef = .agg #[.slice sa o.secs.length sc, .slice ta (o.syms.length + 1) tc] ∧ u.ownsRow w3.heap.size 34 4 (.slice ta (o.syms.length + 1) tc) (o.syms.length + 1) (o.syms.flatMap symL ++ symL s0)) ∧ (∃ q c, A.tmps.getD 5 undef = .pointer (some ⟨q, 0, none⟩) ∧ w3.heap.size ≤ q ∧ Blk u q c 41 ∧ c.size = 2 ∧ (f 14 = true → ∃ ta tc, c = #[.slice sa o.secs.length sc, .slice ta (o.syms.length + 1) tc] ∧ u.ownsRow w3.heap.size 34 4 (.slice ta (o.syms.length + 1) tc) (o.syms.length + 1) (o.syms.flatMap symL ++ symL s0))) ∧ True := ⟨hv.1, hv.2.1, trivial⟩
        obtain ⟨z0, z1, rfl⟩ : ∃ z0 z1, c = #[z0, z1] := by
          rcases c with ⟨_ | ⟨z0, _ | ⟨z1, _ | ⟨z2, zr⟩⟩⟩⟩ <;> simp at h5
          exact ⟨z0, z1, rfl⟩
        have h0' : (A.tmps[50]?).getD undef = .agg #[.slice sa o.secs.length sc, .slice ta (o.syms.length + 1) tc] := by simpa using h0
        have h2' : (A.tmps[5]?).getD undef = .pointer (some ⟨q, 0, none⟩) := by simpa using h2
        have cq := h4.cell
        have fq := h4.frozen
        have hne : (Value.slice ta (o.syms.length + 1) tc).ownBlock = none ∨ (Value.slice ta (o.syms.length + 1) tc).ownBlock ≠ some q := by
          rcases h1.2 with ⟨hv0, _⟩ | ⟨gg, cap, cur, hv0, hb0, hg0, _⟩
          · left; rw [hv0]; rfl
          · right
            intro e
            rw [hv0] at e
            simp only [Value.ownBlock, Option.some.injEq] at e
            subst e
            have h9 : u.heap[gg]? = some (.cells #[z0, z1] 41 (0, 0)) := h4
            rw [hg0] at h9
            simp at h9
        have hB2 : Blk ((u.setCell ⟨q, 0, none⟩ (.slice sa o.secs.length sc)).setCell ⟨q, 1, none⟩ (.slice ta (o.syms.length + 1) tc)) q #[.slice sa o.secs.length sc, .slice ta (o.syms.length + 1) tc] 41 := by
          have := (h4.set (o := 0) (.slice sa o.secs.length sc)).set (o := 1) (.slice ta (o.syms.length + 1) tc)
          simpa using this
        have hO2 := World.ownsRow.kept h1 ((grown_set u q 0 (.slice sa o.secs.length sc)).trans (grown_set _ q 1 (.slice ta (o.syms.length + 1) tc))) hne
        refine owe_run rfl (wp_skp (w' := (u.setCell ⟨q, 0, none⟩ (.slice sa o.secs.length sc)).setCell ⟨q, 1, none⟩ (.slice ta (o.syms.length + 1) tc)) ?_ (hK undef _ ((hS.setCell (p := ⟨q, 0, none⟩) h3 _).setCell (p := ⟨q, 1, none⟩) h3 _) (fun j d hd hj h => ?_) (fun h => absurd rfl h)))
        · first
            | (go_simp; done)
            | (go_simp; rfl)
        · rcases j with _ | _ | _ | _ | _ | _ | _ | _ | _ | _ | _ | _ | _ | _ | _ | j
          all_goals first
            | exact trivial
            | exact absurd hj (by decide)
            | (have e13 := hd.symm.trans (show _ = some 5 by kernel_rfl)
               simp only [Option.some.injEq] at e13
               subst e13
               exact ⟨q, _, h2, h3, hB2, rfl, fun _ => ⟨ta, tc, rfl, hO2⟩⟩)
    case hq =>
      intro gg u hS hv
      obtain ⟨q, c, hg, hq, hB, -, hc⟩ : ∃ q c, gg 13 = .pointer (some ⟨q, 0, none⟩) ∧ w3.heap.size ≤ q ∧ Blk u q c 41 ∧ c.size = 2 ∧ (true = true → ∃ ta tc, c = #[.slice sa o.secs.length sc, .slice ta (o.syms.length + 1) tc] ∧ u.ownsRow w3.heap.size 34 4 (.slice ta (o.syms.length + 1) tc) (o.syms.length + 1) (o.syms.flatMap symL ++ symL s0)) := hv.2.2.2.2.2.2.2.2.2.2.2.2.2.1 (by decide)
      obtain ⟨ta, tc, rfl, hO⟩ := hc rfl
      have HF5 := Lib.hid (HF3.out.call hS.below)
      have HX : Hid (ObjAt u (.agg #[.slice sa o.secs.length sc, .slice ta (o.syms.length + 1) tc]) ⟨o.secs, o.syms ++ [s0]⟩) := by
        obtain ⟨vs', vy', hv', hs', -⟩ := HO.out
        simp only [Value.agg.injEq, Array.mk.injEq, List.cons.injEq, and_true] at hv'
        obtain ⟨rfl, -⟩ := hv'
        refine ⟨_, _, rfl, hs'.below (Nat.le_refl _) (HG3.out.call hS.below).below, ?_⟩
        show Reads _ 4 _ (o.syms ++ [s0]).length ((o.syms ++ [s0]).flatMap symL)
        rw [List.length_append, List.flatMap_append]
        simpa using reads_of_owns hO
      have HNX : Hid ((∀ s ∈ o.secs, s.name.size ≤ maxLen) ∧ ∀ s ∈ o.syms ++ [s0], s.name.size ≤ maxLen) := ⟨HN.out.1, fun s hs => by
        rcases List.mem_append.1 hs with hs | hs
        · exact HN.out.2 s hs
        · obtain rfl := List.mem_singleton.1 hs
          exact HN.out.2 s (by rw [HS0.out]; simp)⟩
      have cq := hB.cell
      clear hv hS hO hsame halloc V VB
      simp only [List.map, putG, List.setIfInBounds_toArray, List.set_cons_succ, List.set_cons_zero]
      simp only [Nat.zero_add, Nat.reduceAdd] at hg ⊢
      rw [hg]
      obtain ⟨n1, hn1⟩ : ∃ n1, o.syms.length + 1 = n1 := ⟨_, rfl⟩
      rw [hn1] at HX cq
      clear hn1 hB
      go_wp2_with fail
      refine (i_ObjectValid u _ ⟨o.secs, o.syms ++ [s0]⟩ HX.out HNX.out).mono ?_
      rw [HBad.out]
      rintro e w6 ⟨rfl, h6⟩
      have HF6 := Lib.hid (HF5.out.call h6)
      clear h6 HF5 cq
      go_wp2_with fail
      go_ret
      exact ⟨rfl, HF6.out.below⟩
  · subst hv
    have hl' : (1048576 : Int) < (l.length : Int) := by omega
    clear hl h
    unfold maxLen at hmax
    go_enter Try.func6, Try.ntmps6
    go_wp2_with fail
    go_ret
    exact ⟨rfl, Below.refl _ _⟩
set_option maxRecDepth 100000 in
theorem lifted_FnObjectValid (os : Os) (started : os.Started) (H : Type) (enc : TypeId × Value → H) :
    ReturnsInHanded {} Try.checked os 6 .any (Rows.fnObjectValidSpec.pre6 enc Try.prog Try.f6 Rows.fnObjectValidRow.domain false) (Rows.fnObjectValidSpec.post enc Try.prog Try.f6 false true false false) := by
  refine returnsInHanded_of_change (C := Try.checked) own_knob started (by kernel_rfl) Try.func6
    (ChangeSpec.witness6 (enc := enc) (C := Try.checked) false ⟨#[], #[.slice none 0 0], []⟩ 8 (by kernel_rfl) (by kernel_rfl) (by kernel_rfl) (by kernel_rfl)) ?_
  intro W base args ds gs before hval0 hW hcnd _
  have hval : ∀ (j : Nat) t v, Try.f6.params[j]? = some t → args[j]? = some v → Value.okWide Try.prog W .any base t v := hval0
  have hW' := hW
  obtain ⟨p, q, hA0, hV, rfl, hfz, hnd⟩ := hW
  have hA : DataW.TrodAll enc Try.prog W 0 (fun _ => true) true Try.f6.params.toList args.toList ds p := hA0
  rw [Try.params6] at hA hval
  obtain ⟨v0, vs0, d0, ds0, p0, q0, hargs, rfl, rfl, h0, r0⟩ := trodAll_cons hA
  obtain ⟨rfl, rfl, rfl⟩ := trodAll_nil r0
  obtain rfl : args = #[v0] := by cases args; simp_all
  obtain ⟨rfl, rfl⟩ := trodVars_none hV
  clear hA0 hval0
  have k0 := h0
  have t0 : ∀ x ∈ p0, x.block < W.heap.size := fun x hx => by simpa using hW'.lt x (by simp [hx])
  obtain ⟨l0, o0⟩ := open_bytesAt (hval 0 22 v0 rfl rfl) h0
  refine (walk_FnObjectValid W v0 l0 o0).mono fun e W' ⟨he, hg⟩ => ?_
  subst he
  exact ⟨_, rfl, _, _, _, _, _, _, hW', (trodAll_cons_mk (shut_bool Try.underlying4 _) trodAll_mk0), (trodAll_cons_mk (Below.trod laid_out (by kernel_rfl) (of_decide_eq_true (by kernel_rfl)) k0 hg t0) trodAll_mk0), rfl, hg.frame _, fun h => by cases h⟩

theorem facts_FnObjectValid : joinedFacts Try.prog 6 Try.f6 Rows.fnObjectValidSpec Rows.fnObjectValidRow = true := by
  unfold joinedFacts
  simp only [Bool.and_eq_true]
  repeat' apply And.intro
  all_goals first
    | with_reducible exact laid_out
    | with_reducible exact may_enter
    | (with_reducible rw [lifts_final]; as_aux_lemma => kernel_rfl)
    | (with_reducible rw [make_cut]; as_aux_lemma => kernel_rfl)
    | as_aux_lemma => kernel_rfl
theorem inst_FnObjectValid : Try.f6.isInstance Try.prog Rows.fnObjectValidRow.origin Rows.fnObjectValidRow.targs := of_decide_eq_true (by kernel_rfl)
theorem wrap_FnObjectValid : Try.f6.isWrapper Try.prog Rows.fnObjectValidRow.wrapper Rows.fnObjectValidRow.mainSum := by
  unfold Func.isWrapper
  first | (rw [if_pos (by decide +kernel)]; kernel_rfl) | (rw [if_neg (by decide +kernel)]; exact ⟨rfl, rfl⟩)
theorem named_FnObjectValid : Try.prog.funcNamed Rows.fnObjectValidRow.func = some 6 := by kernel_rfl
theorem over_FnObjectValid : Rows.fnObjectValidRow.holds Try.pinned (OpenSpec.ofChange Rows.fnObjectValidSpec) :=
  OpenClaim.holds_of_wide 6 Try.f6 rfl rfl rfl rfl rfl rfl rfl ⟨rfl, rfl, rfl, rfl, rfl⟩ rfl rfl rfl rfl rfl named_FnObjectValid Try.func6 facts_FnObjectValid inst_FnObjectValid wrap_FnObjectValid
    (fun os started H enc _ => lifted_FnObjectValid os started H enc)

/-- The statement. -/
theorem holds_FnObjectValid : Rows.FnObjectValidSaid :=
  over_FnObjectValid
#print axioms holds_FnObjectValid
end Go.Proofs.Ytnompmdnonelhaa
