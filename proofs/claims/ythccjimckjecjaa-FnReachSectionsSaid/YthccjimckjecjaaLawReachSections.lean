/- What is reached is kept well; with more names no less is reached. No condition. -/
import Derived.Test.YthccjimckjecjaaBase
import Derived.Test.YthccjimckjecjaaDrawK
import Derived.Test.YthccjimckjecjaaDrawR
import Derived.Test.YthccjimckjecjaaReachI
import Derived.Test.YthccjimckjecjaaReachS
import Derived.Test.YthccjimckjecjaaKeepSec
import Derived.Test.YthccjimckjecjaaNames
namespace Go.Proofs.Ythccjimckjecjaa
open Go.ChangeShapes Go.WideShapes Go.ChangeAt Go.RowKit Go.Joins
set_option linter.unusedSimpArgs false
set_option linter.unusedVariables false
set_option maxRecDepth 100000
set_option maxHeartbeats 1000000 in
theorem walk_FnReachSections (w : World) (v : Value) (l : List UInt8) (h : BytesAt w v l) :
    Calls Try.prog 9 #[v] w fun e w' => e = .returned (.bool true) ∧ Below w.heap.size w w' := by
  obtain ⟨a, cap, hv, hcap, hmax, hnone, hcell⟩ := h.form
  clear hnone hcell
  by_cases hl : (l.length : Int) ≤ 1048576
  · have H := Lib.hid h
    clear h
    subst hv
    unfold maxLen at hmax
    go_enter Try.func9, Try.ntmps9
    go_wp2_with fail
    obtain ⟨i0, hi, hz0, hz1, hz2⟩ := info_parts info_str
    refine (s_DrawReachSections_any _ _ l H.out).mono ?_
    rintro e w1 ⟨_, rfl, ⟨vo, vl, o, L, rfl, ho, hn1, hn2, hL, hL1, hL2⟩, hF⟩
    obtain ⟨sa, sc, ya, yc, rfl⟩ := ho.agg
    obtain ⟨la, lc, rfl, -, -, -, hcl⟩ := hL.form
    have F := Lib.hid hF
    have HO := Lib.hid ho
    have HL := Lib.hid hL
    have HN := Lib.hid (⟨fun s hs => by have := hn1 s hs; unfold maxLen; omega, fun s hs => by have := hn2 s hs; unfold maxLen; omega⟩ : (∀ s ∈ o.secs, s.name.size ≤ maxLen) ∧ ∀ s ∈ o.syms, s.name.size ≤ maxLen)
    obtain ⟨n1, hn1'⟩ : ∃ n1, o.secs.length = n1 := ⟨_, rfl⟩
    obtain ⟨n2, hn2'⟩ : ∃ n2, o.syms.length = n2 := ⟨_, rfl⟩
    obtain ⟨n3, hn3'⟩ : ∃ n3, L.length = n3 := ⟨_, rfl⟩
    have HN1 := Lib.hid hn1'
    have HN2 := Lib.hid hn2'
    have HN3 := Lib.hid hn3'
    rw [hn1', hn2'] at HO
    rw [hn3'] at HL hL1
    rw [hn1', hn2', hn3']
    obtain ⟨X, hX⟩ : ∃ X, reachI o L = X := ⟨_, rfl⟩
    have HX := Lib.hid hX
    clear hF ho hn1 hn2 hL hL2 hcl hn1' hn2' hn3' hX
    have G := Lib.hid (From.start w1)
    go_wp2_with fail
    have gg := ((From.start w1).alloc (.cells #[.slice sa n1 sc, .slice ya n2 yc] 26)).below
    have F := Lib.hid (F.out.call gg)
    have G := Lib.hid (G.out.call gg)
    clear gg
    have B3 := Lib.hid (Blk.new w1 #[.slice sa n1 sc, .slice ya n2 yc] 26)
    have cB3 := B3.out.cell
    have zB3 := B3.out.lt
    go_wp2_with fail
    clear cB3 zB3
    refine (i_ReachSections _ _ _ o L (HO.out.below (Nat.le_refl _) G.out.below) (HL.out.below (Nat.le_refl _) G.out.below) HN.out).mono ?_
    rw [HX.out]
    rintro e w2 ⟨rx, rfl, ox, gg⟩
    have F := Lib.hid (F.out.call gg)
    have G := Lib.hid (G.out.call gg)
    have B3 := Lib.hid (B3.out.call gg)
    obtain ⟨xa, xc, rfl⟩ := owns_form ox
    have OX := Lib.hid ox
    clear gg ox
    have cB3 := B3.out.cell
    have zB3 := B3.out.lt
    go_wp2_with fail
    clear cB3 zB3
    refine (s_ReachSections _ _ _ o L (HO.out.below (Nat.le_refl _) G.out.below) (HL.out.below (Nat.le_refl _) G.out.below) HN.out).mono ?_
    rw [HX.out]
    rintro e w3 ⟨ry, rfl, oy, gg⟩
    have F := Lib.hid (F.out.call gg)
    have G := Lib.hid (G.out.call gg)
    have B3 := Lib.hid (B3.out.call gg)
    have OX := Lib.hid (owns_call OX.out gg)
    have Y := Lib.hid (OwnI.reads oy)
    clear gg oy
    have cB3 := B3.out.cell
    have zB3 := B3.out.lt
    go_wp2_with fail
    clear cB3 zB3
    refine (sameInts_same _ _ _ X (OwnI.reads OX.out) Y.out).mono ?_
    rintro e w4 ⟨rfl, gg⟩
    have F := Lib.hid (F.out.call gg)
    have G := Lib.hid (G.out.call gg)
    have B3 := Lib.hid (B3.out.call gg)
    have OX := Lib.hid (owns_call OX.out gg)
    clear gg Y
    have cB3 := B3.out.cell
    have zB3 := B3.out.lt
    go_wp2_with fail
    clear cB3 zB3
    refine (s_ObjectValid _ _ o (HO.out.below (Nat.le_refl _) G.out.below) HN.out).mono ?_
    rintro e w5 ⟨rfl, gg⟩
    have F := Lib.hid (F.out.call gg)
    have G := Lib.hid (G.out.call gg)
    have B3 := Lib.hid (B3.out.call gg)
    have OX := Lib.hid (owns_call OX.out gg)
    clear gg
    have cB3 := B3.out.cell
    have zB3 := B3.out.lt
    have FIN := Lib.hid F.out.below
    cases hq : objB o
    · have hX0 : X.length = 0 := by rw [← HX.out]; unfold reachI; rw [hq]; rfl
      have e0 : ((X.length : Int) == 0) = true := by rw [hX0]; rfl
      clear hq hX0
      go_wp2_with (first | (go_at_call 18; (with_reducible refine (alive_any _).mono ?_); rintro e w' ⟨rfl, rfl⟩))
      go_ret
      exact ⟨rfl, FIN.out⟩
    clear FIN
    have HK : Hid (keepSB o X = true) := by show _ = _; rw [← HX.out]; exact reach_good L hq
    have hf2 := (objB_few hq).2
    rw [HN2.out] at hf2
    clear hq
    clear cB3 zB3
    have cB3 := B3.out.cell
    have zB3 := B3.out.lt
    go_wp2_with fail
    clear cB3 zB3
    refine (i_KeepSections _ _ _ o X (HO.out.below (Nat.le_refl _) G.out.below) (OwnI.reads OX.out) HN.out).mono ?_
    rw [HK.out]
    rintro e w6 ⟨rt, rfl, ot, gg⟩
    have F := Lib.hid (F.out.call gg)
    have G := Lib.hid (G.out.call gg)
    have B3 := Lib.hid (B3.out.call gg)
    have OX := Lib.hid (owns_call OX.out gg)
    obtain ⟨ta, tc, tb, td, rfl⟩ := ot.reads.agg
    generalize keepSO o X = T at *
    clear gg ot HK
    have gg := ((From.start w6).alloc (.cells #[.slice ta T.secs.length tc, .slice tb T.syms.length td] 26)).below
    have F := Lib.hid (F.out.call gg)
    have G := Lib.hid (G.out.call gg)
    have B3 := Lib.hid (B3.out.call gg)
    have OX := Lib.hid (owns_call OX.out gg)
    clear gg
    have B7 := Lib.hid (Blk.new w6 #[.slice ta T.secs.length tc, .slice tb T.syms.length td] 26)
    have cB3 := B3.out.cell
    have zB3 := B3.out.lt
    go_wp2_with fail
    clear cB3 zB3
    generalize hw7 : w6.alloc (.cells #[.slice ta T.secs.length tc, .slice tb T.syms.length td] 26) = w7 at F G B3 OX B7 ⊢
    clear hw7
    try generalize w6.heap.size = q6 at *
    clear B7
    generalize w1.heap.size = q3 at B3 ⊢
    obtain ⟨B, hB⟩ : ∃ B, w7.heap.size = B := ⟨_, rfl⟩
    obtain ⟨B1, hB1⟩ : ∃ B1, w1.heap.size = B1 := ⟨_, rfl⟩
    have z3 : q3 < B := by rw [← hB]; exact B3.out.lt
    have z1 : B1 ≤ B := by rw [← hB, ← hB1]; exact G.out.le
    have HB1 := Lib.hid hB1
    rw [hB1] at G
    have HOW : Hid (ObjAt w1 (.agg #[.slice sa n1 sc, .slice ya n2 yc]) o) := HO
    clear hB1
    obtain ⟨GL, hGL⟩ : ∃ GL, namesL gvnB o = GL := ⟨_, rfl⟩
    have HGL := Lib.hid hGL
    have hgl : GL.length ≤ 1048576 := by rw [← hGL]; have := namesL_length gvnB o; have := HN2.out; omega
    obtain ⟨ALL, hALL⟩ : ∃ ALL, reachI o (L ++ GL) = ALL := ⟨_, rfl⟩
    have HALL := Lib.hid hALL
    have HSUB : Hid (X = ALL.filter fun n => inI X n) := by show _ = _; rw [← hALL, ← HX.out]; exact reach_sub L GL
    clear hGL hALL
    let VB : Bool → Bool → Nat → Value → World → Prop := fun b5 b6 i v u => match i with
      | 0 => v = .agg #[.slice sa n1 sc, .slice ya n2 yc]
      | 1 => OwnS u B v []
      | 2 => v = .slice la n3 lc
      | 3 => OwnS u B v L
      | 4 => v = .agg #[.slice sa n1 sc, .slice ya n2 yc]
      | 5 => b5 = true → OwnS u B v GL
      | 6 => b6 = true → OwnS u B v (L ++ GL)
      | 7 => OwnI u B v ALL
      | 8 => OwnI u B v ALL
      | _ => True
    let V : (Nat → Bool) → Nat → Value → World → Prop := fun f => VB (f 5) (f 6)
    have hsteps : ∀ (a b : Bool) j x u u', Below u.heap.size u u' → VB a b j x u → VB a b j x u' := by
      intro a b j x u u' hb h
      rcases j with _ | _ | _ | _ | _ | _ | _ | _ | _ | j
      all_goals first
        | exact h
        | exact owns_call h hb
        | exact fun hh => owns_call (h hh) hb
    have halloc : ∀ k, k ≠ 5 → k ≠ 6 → ∀ (f : Nat → Bool) j x u u', Below u.heap.size u u' → V f j x u → V (setl f k) j x u' := by
      intro k h5 h6 f j x u u' hb h
      show VB (setl f k 5) (setl f k 6) j x u'
      rw [setl_ne (Ne.symm h5), setl_ne (Ne.symm h6)]
      exact hsteps _ _ j x u u' hb h
    refine wp_region_flag V (fun _ _ u => From B w7 u) [[], [], [], [1, 2], [], [4], [3, 5], [0, 6], [7]] [[], [], [], [1, 2], [], [1, 2, 3, 4], [1, 2, 3, 4, 5], [0, 1, 2, 3, 4, 5, 6], [0, 1, 2, 3, 4, 5, 6, 7]] [8] (by kernel_rfl) (by kernel_rfl) (by kernel_rfl) (by kernel_rfl) (by kernel_rfl) (by rw [← hB]; exact (From.start w7).drew) ?ho ?hq
    case ho =>
      refine ⟨?_, ?_, ?_, ?_, ?_, ?_, ?_, ?_, ?_, trivial⟩
      · intro n f A u K' hfr hn hl hS hv hK'
        have eA9 : A.tmps.getD 3 undef = .pointer (some ⟨q3, 0, none⟩) := hfr 3 (not_dst (by kernel_rfl))
        have eB9 : (A.tmps[3]?).getD undef = .pointer (some ⟨q3, 0, none⟩) := by simpa using eA9
        have cX := (B3.out.below hS.below z3).cell
        refine owe_run rfl (wp_val (v := .agg #[.slice sa n1 sc, .slice ya n2 yc]) ?_ (hK' _ _ hS (fun j d hd hj h => halloc 0 (by decide) (by decide) f j _ u u (Below.refl _ _) h) (fun _ => rfl)))
        first
          | (go_simp; done)
          | (go_simp; rfl)
      · intro n f A u K' hfr hn hl hS hv hK'
        refine owe_run rfl (wp_val (v := .slice (some ⟨u.heap.size, 0, none⟩) 0 0) (w' := u.alloc (.cells #[] 9)) ?_ (hK' _ _ (hS.alloc _) (fun j d hd hj h => halloc 1 (by decide) (by decide) f j _ u _ ((From.start u).alloc _).below h) (fun _ => World.ownsRow_lit u #[] (e := 9) (size := 1) (base := B) 0 hS.le (Nat.zero_le _) rfl)))
        first
          | (go_simp; done)
          | (go_simp; rfl)
      · intro n f A u K' hfr hn hl hS hv hK'
        have eA9 : A.tmps.getD 4 undef = .slice la n3 lc := hfr 4 (not_dst (by kernel_rfl))
        have eB9 : (A.tmps[4]?).getD undef = .slice la n3 lc := by simpa using eA9
        refine owe_run rfl (wp_val (v := .slice la n3 lc) ?_ (hK' _ _ hS (fun j d hd hj h => halloc 2 (by decide) (by decide) f j _ u u (Below.refl _ _) h) (fun _ => rfl)))
        first
          | (go_simp; done)
          | (go_simp; rfl)
      · intro n f A u K' hfr hn hl hS hv hK'
        have hown : u.ownsRow B 9 1 (A.tmps.getD 44 undef) 0 [] := hv.1
        have eL : A.tmps.getD 45 undef = .slice la n3 lc := hv.2.1
        have hsrc : Reads u 1 (.slice la n3 lc) n3 (svs L) := by
          have h9 := HL.out.below (Nat.le_refl _) (by rw [HB1.out]; exact (G.out.trans (hS.below.mono z1)).below)
          have h8 : Reads u 1 (.slice la n3 lc) L.length (svs L) := h9
          rwa [HN3.out] at h8
        refine step_append_src rfl (.tmp 44) (.tmp 45) 40 40 rfl B 9 i0 (.string ⟨#[]⟩) 1 16 Try.underlying40 hi hz0 hz1 hz2 rfl (by decide) _ _ _ rfl hown _ n3 (svs L) eL (src_reads Try.underlying40 hsrc (fun u hu => (by obtain ⟨s, _, rfl⟩ := List.mem_map.1 hu; rfl))) (by unfold maxLen; omega) (by omega) hS.le ?_
        intro v' w8 hown1 hgr1
        have hnew : OwnS w8 B v' L := by
          have h2 : w8.ownsRow B 9 1 v' (0 + n3) ([] ++ svs L) := hown1
          unfold OwnS
          rw [HN3.out]
          simpa using h2
        refine hK' _ _ (From.grown hS hgr1 (fun k' hk' => (World.ownsRow.lt hown k' hk').1)) (fun j d hd hj h => ?_) (fun _ => hnew)
        have h : VB (f 5) (f 6) j (A.tmps.getD d undef) u := h
        show VB (setl f 3 5) (setl f 3 6) j (A.tmps.getD d undef) w8
        rw [setl_ne (by decide), setl_ne (by decide), hl.2.2 5 (by decide), hl.2.2 6 (by decide)]
        rcases j with _ | _ | _ | _ | _ | _ | _ | _ | _ | j
        · exact h
        · exact absurd hj (by decide)
        · exact absurd hj (by decide)
        · exact absurd hj (by decide)
        · exact h
        · exact fun hh => (by cases hh)
        · exact fun hh => (by cases hh)
        · exact owns_keptNe h hown (by decide) hgr1
        · exact owns_keptNe h hown (by decide) hgr1
        · trivial
      · intro n f A u K' hfr hn hl hS hv hK'
        have eA9 : A.tmps.getD 3 undef = .pointer (some ⟨q3, 0, none⟩) := hfr 3 (not_dst (by kernel_rfl))
        have eB9 : (A.tmps[3]?).getD undef = .pointer (some ⟨q3, 0, none⟩) := by simpa using eA9
        have cX := (B3.out.below hS.below z3).cell
        refine owe_run rfl (wp_val (v := .agg #[.slice sa n1 sc, .slice ya n2 yc]) ?_ (hK' _ _ hS (fun j d hd hj h => halloc 4 (by decide) (by decide) f j _ u u (Below.refl _ _) h) (fun _ => rfl)))
        first
          | (go_simp; done)
          | (go_simp; rfl)
      · intro n f A u K' hfr hn hl hS hv hK'
        have h0 : A.tmps.getD 47 undef = .agg #[.slice sa n1 sc, .slice ya n2 yc] := hv.1
        have HO9 := HOW.out
        have q1 := i_NamesGiven u (.agg #[.slice sa n1 sc, .slice ya n2 yc]) o (HO9.below (Nat.le_refl _) (by rw [HB1.out]; exact (G.out.trans (hS.below.mono z1)).below)) HN.out
        rw [HGL.out] at q1
        refine owe_run rfl (wp_fn rfl (args1 h0) (enter_fn Try.func27 (by kernel_rfl) rfl _ _) (q1.mono ?_))
        rintro e u1 ⟨r, rfl, o5, h5⟩
        refine ⟨_, rfl, hK' _ _ (hS.call h5) (fun j d hd hj h => ?_) (fun _ => fun _ => owns_mono o5 hS.le)⟩
        have h : VB (f 5) (f 6) j (A.tmps.getD d undef) u := h
        show VB (setl f 5 5) (setl f 5 6) j (A.tmps.getD d undef) u1
        rw [setl_at, setl_ne (by decide)]
        by_cases hj5 : j = 5
        · subst hj5; exact absurd hj (by decide)
        · have h2 : VB true (f 6) j (A.tmps.getD d undef) u := by
            rcases j with _ | _ | _ | _ | _ | _ | _ | _ | _ | j
            all_goals first | exact h | exact absurd rfl hj5
          exact hsteps _ _ j _ u u1 h5 h2
      · intro n f A u K' hfr hn hl hS hv hK'
        have hown : u.ownsRow B 9 1 (A.tmps.getD 46 undef) L.length (svs L) := hv.1
        have hG5 : OwnS u B (A.tmps.getD 48 undef) GL := hv.2.1 (hl.2.1 5 (by decide))
        have hsrc : Reads u 1 (A.tmps.getD 48 undef) GL.length (svs GL) := reads_of_owns hG5
        have hln := HN3.out
        refine step_append_src rfl (.tmp 46) (.tmp 48) 40 40 rfl B 9 i0 (.string ⟨#[]⟩) 1 16 Try.underlying40 hi hz0 hz1 hz2 rfl (by decide) _ _ _ rfl hown _ GL.length (svs GL) rfl (src_reads Try.underlying40 hsrc (fun u hu => (by obtain ⟨s, _, rfl⟩ := List.mem_map.1 hu; rfl))) (by unfold maxLen; omega) (by omega) hS.le ?_
        intro v' w8 hown1 hgr1
        have hnew : OwnS w8 B v' (L ++ GL) := by
          have h2 : w8.ownsRow B 9 1 v' (L.length + GL.length) (svs L ++ svs GL) := hown1
          unfold OwnS
          rw [List.length_append, svs_append]
          exact h2
        refine hK' _ _ (From.grown hS hgr1 (fun k' hk' => (World.ownsRow.lt hown k' hk').1)) (fun j d hd hj h => ?_) (fun _ => fun _ => hnew)
        have h : VB (f 5) (f 6) j (A.tmps.getD d undef) u := h
        show VB (setl f 6 5) (setl f 6 6) j (A.tmps.getD d undef) w8
        rw [setl_at, setl_ne (by decide)]
        rcases j with _ | _ | _ | _ | _ | _ | _ | _ | _ | j
        · exact h
        · exact absurd hj (by decide)
        · exact absurd hj (by decide)
        · exact absurd hj (by decide)
        · exact h
        · exact absurd hj (by decide)
        · exact absurd hj (by decide)
        · exact owns_keptNe h hown (by decide) hgr1
        · exact owns_keptNe h hown (by decide) hgr1
        · trivial
      · intro n f A u K' hfr hn hl hS hv hK'
        have h0 : A.tmps.getD 43 undef = .agg #[.slice sa n1 sc, .slice ya n2 yc] := hv.1
        have h6 : OwnS u B (A.tmps.getD 49 undef) (L ++ GL) := hv.2.1 (hl.2.1 6 (by decide))
        have HO9 := HOW.out
        have q1 := i_ReachSections u (.agg #[.slice sa n1 sc, .slice ya n2 yc]) _ o (L ++ GL) (HO9.below (Nat.le_refl _) (by rw [HB1.out]; exact (G.out.trans (hS.below.mono z1)).below)) (reads_of_owns h6) HN.out
        rw [HALL.out] at q1
        refine owe_run rfl (wp_fn rfl (args2 h0 rfl) (enter_fn Try.func40 (by kernel_rfl) rfl _ _) (q1.mono ?_))
        rintro e u1 ⟨r, rfl, o5, h5⟩
        exact ⟨_, rfl, hK' _ _ (hS.call h5) (fun j d hd hj h => halloc 7 (by decide) (by decide) f j _ u u1 h5 h) (fun _ => owns_mono o5 hS.le)⟩
      · intro n f A u K' hfr hn hl hS hv hK'
        have h7 : OwnI u B (A.tmps.getD 50 undef) ALL := hv.1
        obtain ⟨za, zc, e7⟩ := owns_form h7
        have e8 : (A.tmps[50]?).getD undef = .slice za ALL.length zc := by simpa using e7
        rw [e7] at h7
        refine owe_run rfl (wp_val (v := .slice za ALL.length zc) ?_ (hK' _ _ hS (fun j d hd hj h => halloc 8 (by decide) (by decide) f j _ u u (Below.refl _ _) h) (fun _ => h7)))
        first
          | (go_simp; done)
          | (go_simp; rfl)
    case hq =>
      intro gg u hS hv
      have h8 : OwnI u B (gg 8) ALL := hv.2.2.2.2.2.2.2.2.1 (by decide)
      obtain ⟨aa, ac, eq8⟩ := owns_form h8
      rw [eq8] at h8
      clear hv hsteps halloc V VB
      simp only [List.map, putG, List.setIfInBounds_toArray, List.set_cons_succ, List.set_cons_zero]
      simp only [Nat.zero_add, Nat.reduceAdd] at eq8 ⊢
      rw [eq8]
      have OA := Lib.hid h8
      have F := Lib.hid (F.out.trans (hS.below.mono (show w.heap.size ≤ B by have := F.out.le; omega)))
      have OX := Lib.hid (owns_call OX.out (by rw [hB]; exact hS.below))
      clear h8 eq8 hS
      obtain ⟨_, _, hxx, -, hxm, -, hxc⟩ := (OwnI.reads OX.out).form
      obtain ⟨_, _, hyy, -, hym, -, hyc⟩ := (OwnI.reads OA.out).form
      injection hxx with x1 x2 x3
      injection hyy with y1 y2 y3
      subst x1 x3 y1 y3
      clear x2 y2
      have HXC := Lib.hid hxc
      have HYC := Lib.hid hyc
      have HXL := (OwnI.reads OX.out).form
      have hxl : X.length ≤ maxLen := by obtain ⟨_, _, _, h1, h2, _⟩ := HXL; omega
      have hyl : ALL.length ≤ maxLen := by obtain ⟨_, _, _, h1, h2, _⟩ := (OwnI.reads OA.out).form; omega
      unfold maxLen at hxl hyl
      obtain ⟨nx, hnx⟩ : ∃ nx, X.length = nx := ⟨_, rfl⟩
      obtain ⟨na, hna⟩ : ∃ na, ALL.length = na := ⟨_, rfl⟩
      have HLE : Hid (∀ k, hitN X ALL k ≤ nx) := fun k => by rw [← hnx]; exact hitN_le X ALL HSUB.out k
      have H0 : Hid (hitN X ALL 0 = 0) := hitN_zero X ALL
      have HDN : Hid (∀ k, k ≤ na → ¬ (hitN X ALL k < nx ∧ k < na) → hitN X ALL k = nx) := fun k h1 h2 => by rw [← hnx] at h2 ⊢; rw [← hna] at h1 h2; exact hitN_done X ALL HSUB.out k h1 h2
      have HST : Hid (∀ k (h1 : k < ALL.length) (h2 : hitN X ALL k < X.length), hitN X ALL (k + 1) = hitN X ALL k + (if ALL[k] = X[hitN X ALL k] then 1 else 0)) := fun k h1 h2 => by
        have h3 := hitN_next X ALL HSUB.out k h1 h2
        rw [hitN_step X ALL k h1]
        by_cases h4 : ALL[k] = X[hitN X ALL k]
        · rw [if_pos h4, if_pos (h3.1 h4)]
        · rw [if_neg h4, if_neg (fun h5 => h4 (h3.2 h5))]
      have HNX := Lib.hid hnx
      have HNA := Lib.hid hna
      rw [hnx] at hxl ⊢
      rw [hna] at hyl ⊢
      clear hxc hyc hxm hym HXL OX OA hnx hna HSUB
      generalize hitN X ALL = hn at *
      go_wp2_with fail
      go_loopw [9, 10] (fun q i wr => ∃ k : Nat, k ≤ na ∧ i = .int .i64 k ∧ q = .int .i64 ((hn k : Nat) : Int) ∧ ∃ d, wr = u.drewN d) (fun _ i _ => na - (intOf i).toNat)
      case atStart => exact ⟨0, Nat.zero_le _, rfl, by rw [H0.out]; rfl, 0, rfl⟩
      case round =>
        obtain ⟨k, hk, rfl, rfl, d, rfl⟩ := hrel
        have hle := HLE.out k
        by_cases hlt : k < na
        · have i1 : (k : Int) < (na : Int) := by omega
          have i3 : (0 : Int) ≤ (k : Int) := by omega
          by_cases hlt2 : hn k < nx
          · have j1 : ((hn k : Nat) : Int) < (nx : Int) := by omega
            have j3 : (0 : Int) ≤ ((hn k : Nat) : Int) := by omega
            have h1 : k < ALL.length := by rw [HNA.out]; exact hlt
            have h2 : hn k < X.length := by rw [HNX.out]; exact hlt2
            obtain ⟨b1, o1, rfl, hc1⟩ := HYC.out (by omega)
            obtain ⟨b2, o2, rfl, hc2⟩ := HXC.out (by omega)
            have c1 := hc1 k h1
            have c2 := hc2 (hn k) h2
            have hst := HST.out k h1 h2
            clear hc1 hc2
            generalize ALL[k] = p at *
            generalize X[hn k] = r at *
            generalize hn k = H at *
            by_cases hpr : p = r
            · have e1 : (p == r) = true := by simpa using hpr
              rw [if_pos hpr] at hst
              have HS1 := Lib.hid hst
              clear hpr hst
              go_wp2_with fail
              go_quiet (fail)
              go_wp2_with fail
              go_roundw
              case rel => exact ⟨k + 1, by omega, by go_num, by rw [HS1.out]; go_num, _, rfl⟩
              case measure => simp [intOf]; try omega
            · have e1 : (p == r) = false := by simpa using hpr
              rw [if_neg hpr] at hst
              have HS1 := Lib.hid hst
              clear hpr hst
              go_wp2_with fail
              go_quiet (fail)
              go_wp2_with fail
              go_roundw
              case rel => exact ⟨k + 1, by omega, by go_num, by rw [HS1.out]; try rfl, _, rfl⟩
              case measure => simp [intOf]; try omega
          · have hdn := HDN.out k hk (fun h => hlt2 h.1)
            have eD : (((hn k : Nat) : Int) == (nx : Int)) = true := by rw [hdn]; simp
            have j2 : ¬ ((hn k : Nat) : Int) < (nx : Int) := by omega
            generalize hn k = H at *
            go_wp2_with fail
            go_ret
            exact ⟨rfl, (F.out.drewN _).below⟩
        · have hdn := HDN.out k hk (fun h => hlt h.2)
          have eD : (((hn k : Nat) : Int) == (nx : Int)) = true := by rw [hdn]; simp
          have i2 : ¬ (k : Int) < (na : Int) := by omega
          generalize hn k = H at *
          go_wp2_with fail
          go_ret
          exact ⟨rfl, (F.out.drewN _).below⟩
  · subst hv
    have hl' : (1048576 : Int) < (l.length : Int) := by omega
    clear hl h
    unfold maxLen at hmax
    go_enter Try.func9, Try.ntmps9
    go_wp2_with fail
    go_ret
    exact ⟨rfl, Below.refl _ _⟩
set_option maxRecDepth 100000 in
theorem lifted_FnReachSections (os : Os) (started : os.Started) (H : Type) (enc : TypeId × Value → H) :
    ReturnsInHanded {} Try.checked os 9 .any (Rows.fnReachSectionsSpec.pre6 enc Try.prog Try.f9 Rows.fnReachSectionsRow.domain false) (Rows.fnReachSectionsSpec.post enc Try.prog Try.f9 false true false false) := by
  refine returnsInHanded_of_change (C := Try.checked) own_knob started (by kernel_rfl) Try.func9
    (ChangeSpec.witness6 (enc := enc) (C := Try.checked) false ⟨#[], #[.slice none 0 0], []⟩ 8 (by kernel_rfl) (by kernel_rfl) (by kernel_rfl) (by kernel_rfl)) ?_
  intro W base args ds gs before hval0 hW hcnd _
  have hval : ∀ (j : Nat) t v, Try.f9.params[j]? = some t → args[j]? = some v → Value.okWide Try.prog W .any base t v := hval0
  have hW' := hW
  obtain ⟨p, q, hA0, hV, rfl, hfz, hnd⟩ := hW
  have hA : DataW.TrodAll enc Try.prog W 0 (fun _ => true) true Try.f9.params.toList args.toList ds p := hA0
  rw [Try.params9] at hA hval
  obtain ⟨v0, vs0, d0, ds0, p0, q0, hargs, rfl, rfl, h0, r0⟩ := trodAll_cons hA
  obtain ⟨rfl, rfl, rfl⟩ := trodAll_nil r0
  obtain rfl : args = #[v0] := by cases args; simp_all
  obtain ⟨rfl, rfl⟩ := trodVars_none hV
  clear hA0 hval0
  have k0 := h0
  have t0 : ∀ x ∈ p0, x.block < W.heap.size := fun x hx => by simpa using hW'.lt x (by simp [hx])
  obtain ⟨l0, o0⟩ := open_bytesAt (hval 0 22 v0 rfl rfl) h0
  refine (walk_FnReachSections W v0 l0 o0).mono fun e W' ⟨he, hg⟩ => ?_
  subst he
  exact ⟨_, rfl, _, _, _, _, _, _, hW', (trodAll_cons_mk (shut_bool Try.underlying4 _) trodAll_mk0), (trodAll_cons_mk (Below.trod laid_out (by kernel_rfl) (of_decide_eq_true (by kernel_rfl)) k0 hg t0) trodAll_mk0), rfl, hg.frame _, fun h => by cases h⟩

set_option maxHeartbeats 2000000 in
theorem facts_FnReachSections : joinedFacts Try.prog 9 Try.f9 Rows.fnReachSectionsSpec Rows.fnReachSectionsRow = true := by
  unfold joinedFacts
  simp only [Bool.and_eq_true]
  repeat' apply And.intro
  all_goals first
    | with_reducible exact laid_out
    | with_reducible exact may_enter
    | (with_reducible rw [lifts_final]; as_aux_lemma => kernel_rfl)
    | (with_reducible rw [make_cut]; as_aux_lemma => kernel_rfl)
    | as_aux_lemma => kernel_rfl
theorem inst_FnReachSections : Try.f9.isInstance Try.prog Rows.fnReachSectionsRow.origin Rows.fnReachSectionsRow.targs := of_decide_eq_true (by kernel_rfl)
theorem wrap_FnReachSections : Try.f9.isWrapper Try.prog Rows.fnReachSectionsRow.wrapper Rows.fnReachSectionsRow.mainSum := by
  unfold Func.isWrapper
  first | (rw [if_pos (by decide +kernel)]; kernel_rfl) | (rw [if_neg (by decide +kernel)]; exact ⟨rfl, rfl⟩)
theorem named_FnReachSections : Try.prog.funcNamed Rows.fnReachSectionsRow.func = some 9 := by kernel_rfl
theorem over_FnReachSections : Rows.fnReachSectionsRow.holds Try.pinned (OpenSpec.ofChange Rows.fnReachSectionsSpec) :=
  OpenClaim.holds_of_wide 9 Try.f9 rfl rfl rfl rfl rfl rfl rfl ⟨rfl, rfl, rfl, rfl, rfl⟩ rfl rfl rfl rfl rfl named_FnReachSections Try.func9 facts_FnReachSections inst_FnReachSections wrap_FnReachSections
    (fun os started H enc _ => lifted_FnReachSections os started H enc)

/-- The statement. -/
theorem holds_FnReachSections : Rows.FnReachSectionsSaid :=
  over_FnReachSections
#print axioms holds_FnReachSections
end Go.Proofs.Ythccjimckjecjaa
