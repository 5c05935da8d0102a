/- Tables share ends: a table with the end of a name put in, if that is a name, is not longer. No condition. -/
import Derived.Test.YtnompmdnonelhaaFacts
import Derived.Test.YtnompmdnonelhaaDrawK
import Derived.Test.YtnompmdnonelhaaDrawN
import Derived.Test.YtnompmdnonelhaaNameTab
import Derived.Test.YtnompmdnonelhaaPlainTab
import Derived.Test.YtnompmdnonelhaaInvW
namespace Go.Proofs.Ytnompmdnonelhaa
open Go.ChangeShapes Go.WideShapes Go.ChangeAt Go.RowKit Go.Joins
set_option linter.unusedSimpArgs false
set_option linter.unusedVariables false
set_option maxRecDepth 100000
set_option maxHeartbeats 1000000 in
theorem walk_FnTableShort (w : World) (v : Value) (l : List UInt8) (h : BytesAt w v l) :
    Calls Try.prog 9 #[v] w fun e w' => e = .returned (.bool true) ∧ Below w.heap.size w w' := by
  obtain ⟨a, cap, hv, hcap, hmax, hnone, hcell⟩ := h.form
  clear hnone hcell
  by_cases hl : (l.length : Int) ≤ 1048576
  · have H := Lib.hid h
    clear h
    subst hv
    unfold maxLen at hmax
    go_enter Try.func9, Try.ntmps9
    go_wp2_with fail
    refine (drawNameTable_any _ _ l H.out).mono ?_
    rintro e w1 ⟨_, rfl, ⟨L, nb, no, nc, rfl, hR, hL, hs⟩, hF⟩
    obtain ⟨i0, hi, hz0, hz1, hz2⟩ := info_parts info_str
    have HF := Lib.hid hF
    have HR := Lib.hid hR
    have HSz : Hid (∀ s ∈ L, s.size ≤ maxLen) := fun s h => by have := hs s h; unfold maxLen; omega
    have HS9 := Lib.hid hs
    have HC : Hid (∀ j (hj : j < L.length), w1.cell? ⟨nb, no + j, none⟩ = some (.string L[j])) := fun j hj => by
      obtain ⟨a', c', hv, -, -, -, hc⟩ := hR.form
      simp only [Value.slice.injEq] at hv
      obtain ⟨rfl, -, rfl⟩ := hv
      obtain ⟨b', o', e, hc⟩ := hc (by omega)
      simp only [Option.some.injEq, Addr.mk.injEq] at e
      obtain ⟨rfl, rfl, -⟩ := e
      exact hc j hj
    clear hF hR hs
    go_wp2_with fail
    refine (i_NameTable w1 nb no nc L HR.out HSz.out (by omega)).mono ?_
    rintro e w2 ⟨r, rfl, o2, h2⟩
    obtain ⟨ra, rc, rfl⟩ := owns_form o2
    obtain ⟨T, hT⟩ : ∃ T, tableL L = T := ⟨_, rfl⟩
    rw [hT] at o2
    rw [hT]
    have HT := Lib.hid hT
    have HO2 := Lib.hid o2
    have HF2 := Lib.hid ((From.start w1).call h2)
    clear o2 h2 hT
    go_wp2_with fail
    refine (s_NameTable w2 _ L (HR.out.below (Nat.le_refl _) HF2.out.below) HSz.out (by omega)).mono ?_
    rw [HT.out]
    rintro e w3 ⟨r2, rfl, o3, h3⟩
    obtain ⟨sa, sc, rfl⟩ := owns_form o3
    have HF3 := Lib.hid (HF2.out.call h3)
    have HO3 := Lib.hid (owns_call HO2.out h3)
    have HR3 := Lib.hid o3.reads
    clear o3 h3 HF2 HO2
    go_wp2_with fail
    refine (l_sameBytes w3 _ _ T T (reads_of_owns HO3.out) HR3.out).mono ?_
    rw [eqB_self]
    rintro e w4 ⟨rfl, h4⟩
    have HF4 := Lib.hid (HF3.out.call h4)
    have HO4 : Hid (OwnB w4 w1.heap.size (.slice ra T.length rc) T) := owns_call HO3.out h4
    have HG4 := Lib.hid (HF.out.call HF4.out.below)
    have HR4 : Hid (StrsAt w4 (.slice (some ⟨nb, no, none⟩) L.length nc) L) := HR.out.below (Nat.le_refl _) HF4.out.below
    clear h4 HF3 HO3 HR3
    by_cases hz : T.length = 0
    · have e0 : ((T.length : Int) == 0) = true := by simpa using hz
      clear hz
      go_wp2_with (first | (go_at_call 20; (with_reducible refine (alive_any _).mono ?_); rintro e w' ⟨rfl, rfl⟩))
      go_ret
      exact ⟨rfl, HG4.out.below⟩
    have e0 : ((T.length : Int) == 0) = false := by simpa using hz
    obtain ⟨hN, T', hT'⟩ := tableL_zero L (by rw [HT.out]; omega)
    have HN := Lib.hid hN
    clear hT' hN
    obtain ⟨a', c', hv, -, -, -, hcx⟩ := HO4.out.reads.form
    simp only [Value.slice.injEq] at hv
    obtain ⟨rfl, -, rfl⟩ := hv
    obtain ⟨rb, ro, rfl, -⟩ := hcx (by omega)
    clear hcx hz
    by_cases hl0 : L.length = 0
    · have e2 : ((L.length : Int) == 0) = true := by simpa using hl0
      clear hl0
      go_wp2_with (first | (go_at_call 20; (with_reducible refine (alive_any _).mono ?_); rintro e w' ⟨rfl, rfl⟩))
      go_ret
      exact ⟨rfl, HG4.out.below⟩
    have e2 : ((L.length : Int) == 0) = false := by simpa using hl0
    have l0 : (0 : Int) < (L.length : Int) := by omega
    by_cases hl1 : 40 ≤ L.length
    · have e3 : (40 : Int) ≤ (L.length : Int) := by omega
      clear hl1 hl0
      go_wp2_with (first | (go_at_call 20; (with_reducible refine (alive_any _).mono ?_); rintro e w' ⟨rfl, rfl⟩))
      go_ret
      exact ⟨rfl, HG4.out.below⟩
    have e3 : ¬ (40 : Int) ≤ (L.length : Int) := by omega
    obtain ⟨s0, rs, hs0⟩ : ∃ s0 rs, L = s0 :: rs := by
      cases h : L with
      | nil => rw [h] at hl0; simp at hl0
      | cons a b => exact ⟨a, b, rfl⟩
    have hmem : s0 ∈ L := by rw [hs0]; simp
    have hs9 := HS9.out s0 hmem
    have HC4 : Hid (w4.cell? ⟨nb, no, none⟩ = some (.string s0)) := by
      have h1 := HC.out 0 (by omega)
      have h2 : L[0]'(by omega) = s0 := by simp [hs0]
      rw [h2, Nat.add_zero] at h1
      exact (HF4.out.below.cell (p := ⟨nb, no, none⟩) (World.block_lt_of_cell? w1 _ h1)).trans h1
    have c4 := HC4.out
    have HMem := Lib.hid hmem
    clear hs0 hmem
    by_cases hs2 : s0.size < 2
    · have e4 : (s0.size : Int) < 2 := by omega
      clear hs2
      go_wp2_with (first | (go_at_call 20; (with_reducible refine (alive_any _).mono ?_); rintro e w' ⟨rfl, rfl⟩))
      go_ret
      exact ⟨rfl, HG4.out.below⟩
    have e4 : ¬ (s0.size : Int) < 2 := by omega
    obtain ⟨e1, he1⟩ : ∃ e1, s0.extract 1 s0.size = e1 := ⟨_, rfl⟩
    have hbe : bytesS e1 = (bytesS s0).drop 1 := by
      rw [← he1, bytesS_extract]
      congr 1
      rw [← bytesS_len, List.take_length]
    have hes : e1.size ≤ 9 := by
      have h1 := congrArg List.length hbe
      rw [bytesS_len, List.length_drop, bytesS_len] at h1
      omega
    have l1 : 1 ≤ s0.size := by omega
    cases hnv : nameB e1
    · go_wp2_with (first | (go_at_call 41; (with_reducible refine (i_NameValid e1 (show e1.size ≤ maxLen by unfold maxLen; omega) _).mono ?_); rintro e w' ⟨rfl, rfl⟩) | (go_at_call 20; (with_reducible refine (alive_any _).mono ?_); rintro e w' ⟨rfl, rfl⟩))
      go_ret
      exact ⟨rfl, HG4.out.below⟩
    have HTE : Hid (tableL (L ++ [e1]) = T) := by show _ = _; rw [tableL_end HMem.out HN.out (by omega) hbe (by omega) hnv, HT.out]
    have HSz2 : Hid (∀ s ∈ L ++ [e1], s.size ≤ maxLen) := fun s hs => by
      rcases List.mem_append.1 hs with hs | hs
      · exact HSz.out s hs
      · obtain rfl := List.mem_singleton.1 hs; unfold maxLen; omega
    clear hbe hs2
    go_wp2_with (first | (go_at_call 41; (with_reducible refine (i_NameValid e1 (show e1.size ≤ maxLen by unfold maxLen; omega) _).mono ?_); rintro e w' ⟨rfl, rfl⟩))
    clear c4
    let V : Nat → Value → World → Prop := fun i v u => match i with
      | 0 => ∃ q, v = .slice (some ⟨q, 0, none⟩) 0 0 ∧ w4.heap.size ≤ q ∧ Blk u q #[] 9
      | 1 => v = .slice (some ⟨nb, no, none⟩) L.length nc
      | 2 => u.ownsRow w4.heap.size 9 1 v L.length (svs L)
      | 3 => v = .slice (some ⟨nb, no, none⟩) L.length nc
      | 4 => v = .pointer (some ⟨nb, no, none⟩)
      | 5 => v = .string s0
      | 6 => v = .string e1
      | 7 => ∃ q, v = .slice (some ⟨q, 0, none⟩) 1 1 ∧ w4.heap.size ≤ q ∧ Blk u q #[Value.string e1] 9
      | 8 => u.ownsRow w4.heap.size 9 1 v (L.length + 1) (svs L ++ [Value.string e1])
      | 9 => OwnB u w4.heap.size v T
      | 10 => v = .slice (some ⟨rb, ro, none⟩) T.length rc
      | 11 => v = .bool true
      | 12 => v = .bool true
      | _ => True
    have halloc : ∀ j x u u', Below u.heap.size u u' → V j x u → V j x u' := by
      intro j x u u' hb h
      rcases j with _ | _ | _ | _ | _ | _ | _ | _ | _ | _ | _ | _ | _ | j
      all_goals first
        | exact h
        | exact owns_call h hb
        | (obtain ⟨p, h4, h5, h6⟩ := h
           exact ⟨p, h4, h5, h6.call hb⟩)
    refine wp_region_set V (fun _ _ u => From w4.heap.size w4 u) [[], [], [0, 1], [], [3], [4], [5], [6], [2, 7], [8], [], [9, 10], [11]] [[], [], [0, 1], [], [3], [3, 4], [3, 4, 5], [3, 4, 5, 6], [0, 1, 2, 3, 4, 5, 6, 7], [0, 1, 2, 3, 4, 5, 6, 7, 8], [], [0, 1, 2, 3, 4, 5, 6, 7, 8, 9, 10], [0, 1, 2, 3, 4, 5, 6, 7, 8, 9, 10, 11]] [12] (by kernel_rfl) (by kernel_rfl) (by kernel_rfl) (by kernel_rfl) (by kernel_rfl) (From.start w4).drew ?ho ?hq
    case ho =>
      refine ⟨?_, ?_, ?_, ?_, ?_, ?_, ?_, ?_, ?_, ?_, ?_, ?_, ?_, trivial⟩
      · intro n f A u K hfr hn hl hS hv hK
        refine owe_run rfl (wp_val (v := .slice (some ⟨u.heap.size, 0, none⟩) 0 0) (w' := u.alloc (.cells #[] 9)) ?_ (hK _ _ (hS.alloc _) (fun j x hj h => halloc j x u _ ((From.start u).alloc _).below h) (fun _ => ⟨_, rfl, hS.le, Blk.new u _ _⟩)))
        first
          | (go_simp; done)
          | (go_simp; rfl)
      · intro n f A u K hfr hn hl hS hv hK
        have e4 : A.tmps.getD 3 undef = .slice (some ⟨nb, no, none⟩) L.length nc := hfr 3 (not_dst (by kernel_rfl))
        refine owe_run rfl (wp_val (v := .slice (some ⟨nb, no, none⟩) L.length nc) ?_ (hK _ _ hS (fun _ _ _ h => h) (fun _ => rfl)))
        first
          | (go_simp; done)
          | (go_simp; rfl)
      · intro n f A u K hfr hn hl hS hv hK
        obtain ⟨⟨q, h0, h1, h2⟩, h3, -⟩ : (∃ q, A.tmps.getD 46 undef = .slice (some ⟨q, 0, none⟩) 0 0 ∧ w4.heap.size ≤ q ∧ Blk u q #[] 9) ∧ A.tmps.getD 47 undef = .slice (some ⟨nb, no, none⟩) L.length nc ∧ True := ⟨hv.1, hv.2.1, trivial⟩
        have ho : u.ownsRow w4.heap.size 9 1 (.slice (some ⟨q, 0, none⟩) 0 0) 0 [] := ⟨rfl, .inr ⟨q, 0, #[], rfl, h1, h2, Nat.le_refl _, Nat.zero_le _, rfl, rfl⟩⟩
        obtain ⟨v', u', hrun, hown, hgr⟩ := run_append_src u 53 53 53 w4.heap.size 9 i0 _ Try.underlying53 hi hz0 (by rw [hz1]; rfl) (by rw [hz1]; decide) _ 0 [] (by rw [hz1]; exact ho) (.slice (some ⟨nb, no, none⟩) L.length nc) L.length (svs L) (by rw [hz1]; exact src_reads Try.underlying53 (HR4.out.below (Nat.le_refl _) hS.below) (svs_one _)) (by unfold maxLen; omega) (by rw [hz2]; omega) hS.le
        rw [hz1] at hown
        refine owe_run rfl (wp_val (v := v') (w' := u') ?_ (hK _ _ (hS.grown hgr (fun b hb => by simp [Value.ownBlock] at hb; omega)) (fun j x hj h => ?_) (fun _ => by rw [Nat.zero_add, List.nil_append] at hown; exact hown)))
        · simp at h0 h3 hrun
          simp [execOp, resolve, invoke, builtin, Act.eval, h0, h3, hrun]
        · rcases j with _ | _ | _ | _ | _ | _ | _ | _ | _ | _ | _ | _ | _ | j
          all_goals first
            | exact h
            | exact absurd hj (by decide)
            | exact trivial
            | (obtain ⟨p, h4, h5, h6⟩ := h
               refine ⟨p, h4, h5, h6.grown hgr (fun e => ?_)⟩
               simp only [Value.ownBlock, Option.some.injEq] at e
               subst e
               have h7 : u.heap[p]? = some (.cells #[] 9 (0, 0)) := h2
               have h8 : u.heap[p]? = some (.cells #[Value.string e1] 9 (0, 0)) := h6
               rw [h7] at h8
               simp at h8)
      · intro n f A u K hfr hn hl hS hv hK
        have e4 : A.tmps.getD 3 undef = .slice (some ⟨nb, no, none⟩) L.length nc := hfr 3 (not_dst (by kernel_rfl))
        refine owe_run rfl (wp_val (v := .slice (some ⟨nb, no, none⟩) L.length nc) ?_ (hK _ _ hS (fun _ _ _ h => h) (fun _ => rfl)))
        first
          | (go_simp; done)
          | (go_simp; rfl)
      · intro n f A u K hfr hn hl hS hv hK
        have l0 : (0 : Int) < (L.length : Int) := by omega
        have eA0 : A.tmps.getD 49 undef = .slice (some ⟨nb, no, none⟩) L.length nc := hv.1
        have eB0 : (A.tmps[49]?).getD undef = .slice (some ⟨nb, no, none⟩) L.length nc := by simpa using eA0
        refine owe_run rfl (wp_val (v := .pointer (some ⟨nb, no, none⟩)) ?_ (hK _ _ hS (fun _ _ _ h => h) (fun _ => rfl)))
        first
          | (go_simp; done)
          | (go_simp; rfl)
      · intro n f A u K hfr hn hl hS hv hK
        have d0 := (hS.below.cell (p := ⟨nb, no, none⟩) (World.block_lt_of_cell? w4 _ HC4.out)).trans HC4.out
        have eA0 : A.tmps.getD 50 undef = .pointer (some ⟨nb, no, none⟩) := hv.1
        have eB0 : (A.tmps[50]?).getD undef = .pointer (some ⟨nb, no, none⟩) := by simpa using eA0
        refine owe_run rfl (wp_val (v := .string s0) ?_ (hK _ _ hS (fun _ _ _ h => h) (fun _ => rfl)))
        first
          | (go_simp; done)
          | (go_simp; rfl)
      · intro n f A u K hfr hn hl hS hv hK
        have l1 : ¬ ((s0.size : Int) < 1) := by omega
        have eA0 : A.tmps.getD 51 undef = .string s0 := hv.1
        have eB0 : (A.tmps[51]?).getD undef = .string s0 := by simpa using eA0
        refine owe_run rfl (wp_val (v := .string e1) ?_ (hK _ _ hS (fun _ _ _ h => h) (fun _ => rfl)))
        first
          | (go_simp; done)
          | (go_simp; rfl)
      · intro n f A u K hfr hn hl hS hv hK
        have e4 : A.tmps.getD 52 undef = .string e1 := hv.1
        have e5 : (A.tmps[52]?).getD undef = .string e1 := by simpa using e4
        refine owe_run rfl (wp_val (v := .slice (some ⟨u.heap.size, 0, none⟩) 1 1) (w' := u.alloc (.cells #[Value.string e1] 9)) ?_ (hK _ _ (hS.alloc _) (fun j x hj h => halloc j x u _ ((From.start u).alloc _).below h) (fun _ => ⟨_, rfl, hS.le, Blk.new u _ _⟩)))
        first
          | (go_simp; done)
          | (go_simp; rfl)
      · intro n f A u K hfr hn hl hS hv hK
        obtain ⟨h0, ⟨q, h3, h1, h2⟩, -⟩ : u.ownsRow w4.heap.size 9 1 (A.tmps.getD 48 undef) L.length (svs L) ∧ (∃ q, A.tmps.getD 53 undef = .slice (some ⟨q, 0, none⟩) 1 1 ∧ w4.heap.size ≤ q ∧ Blk u q #[Value.string e1] 9) ∧ True := ⟨hv.1, hv.2.1, trivial⟩
        obtain ⟨v', u', hrun, hown, hgr⟩ := run_append_src u 53 53 53 w4.heap.size 9 i0 _ Try.underlying53 hi hz0 (by rw [hz1]; rfl) (by rw [hz1]; decide) _ _ _ (by rw [hz1]; exact h0) (.slice (some ⟨q, 0, none⟩) 1 1) 1 [Value.string e1] (by rw [hz1]; exact src_blk Try.underlying53 u q [Value.string e1] 1 1 1 9 h2 rfl (fun x hx => by obtain rfl := List.mem_singleton.1 hx; rfl)) (by unfold maxLen; omega) (by rw [hz2]; omega) hS.le
        rw [hz1] at hown
        refine owe_run rfl (wp_val (v := v') (w' := u') ?_ (hK _ _ (hS.grown hgr (owns_block h0)) (fun j x hj h => ?_) (fun _ => hown)))
        · simp at h3 hrun
          simp [execOp, resolve, invoke, builtin, Act.eval, h3, hrun]
        · rcases j with _ | _ | _ | _ | _ | _ | _ | _ | _ | _ | _ | _ | _ | j
          all_goals first
            | exact h
            | exact absurd hj (by decide)
            | exact trivial
      · intro n f A u K hfr hn hl hS hv hK
        have h0 : u.ownsRow w4.heap.size 9 1 (A.tmps.getD 54 undef) (L.length + 1) (svs L ++ [Value.string e1]) := hv.1
        have hO : OwnS u w4.heap.size (A.tmps.getD 54 undef) (L ++ [e1]) := owns_snocS h0
        obtain ⟨gb, gc, hvv, -, -⟩ := owns_some hO (owns_more_some h0)
        have q1 := i_NameTable u gb 0 gc (L ++ [e1]) (by rw [← hvv]; exact hO.reads) HSz2.out (by simp; omega)
        rw [HTE.out, ← hvv] at q1
        refine owe_run rfl (wp_fn rfl (args1 rfl) (enter_fn Try.func38 (by kernel_rfl) rfl _ _) (q1.mono ?_))
        rintro e u1 ⟨r5, rfl, o5, h5⟩
        exact ⟨_, rfl, hK _ _ (hS.call h5) (fun j x hj h => halloc j x u _ h5 h) (fun _ => owns_mono o5 hS.le)⟩
      · intro n f A u K hfr hn hl hS hv hK
        have e4 : A.tmps.getD 4 undef = .slice (some ⟨rb, ro, none⟩) T.length rc := hfr 4 (not_dst (by kernel_rfl))
        refine owe_run rfl (wp_val (v := .slice (some ⟨rb, ro, none⟩) T.length rc) ?_ (hK _ _ hS (fun _ _ _ h => h) (fun _ => rfl)))
        first
          | (go_simp; done)
          | (go_simp; rfl)
      · intro n f A u K hfr hn hl hS hv hK
        obtain ⟨h0, h1, -⟩ : OwnB u w4.heap.size (A.tmps.getD 55 undef) T ∧ A.tmps.getD 56 undef = .slice (some ⟨rb, ro, none⟩) T.length rc ∧ True := ⟨hv.1, hv.2.1, trivial⟩
        have q1 := l_sameBytes u (A.tmps.getD 55 undef) (.slice (some ⟨rb, ro, none⟩) T.length rc) T T h0.reads ((HO4.out.reads).below (Nat.le_refl _) hS.below)
        rw [eqB_self] at q1
        refine owe_run rfl (wp_fn rfl (args2 rfl h1) (enter_fn Try.func39 (by kernel_rfl) rfl _ _) (q1.mono ?_))
        rintro e u1 ⟨rfl, h5⟩
        exact ⟨_, rfl, hK _ _ (hS.call h5) (fun j x hj h => halloc j x u _ h5 h) (fun _ => rfl)⟩
      · intro n f A u K hfr hn hl hS hv hK
        have eA0 : A.tmps.getD 57 undef = .bool true := hv.1
        have eB0 : (A.tmps[57]?).getD undef = .bool true := by simpa using eA0
        refine owe_run rfl (wp_val (v := .bool true) ?_ (hK _ _ hS (fun _ _ _ h => h) (fun _ => rfl)))
        first
          | (go_simp; done)
          | (go_simp; rfl)
    case hq =>
      intro gg u hS hv
      have hg : gg 12 = .bool true := hv.2.2.2.2.2.2.2.2.2.2.2.2.1 (by decide)
      have HX := Lib.hid (HG4.out.call hS.below)
      clear hv hS halloc V
      simp only [List.map, putG, List.setIfInBounds_toArray, List.set_cons_succ, List.set_cons_zero]
      simp only [Nat.zero_add, Nat.reduceAdd] at hg ⊢
      rw [hg]
      go_wp2_with fail
      go_ret
      exact ⟨rfl, HX.out.below⟩
  · subst hv
    have hl' : (1048576 : Int) < (l.length : Int) := by omega
    clear hl h
    unfold maxLen at hmax
    go_enter Try.func9, Try.ntmps9
    go_wp2_with fail
    go_ret
    exact ⟨rfl, Below.refl _ _⟩
set_option maxRecDepth 100000 in
theorem lifted_FnTableShort (os : Os) (started : os.Started) (H : Type) (enc : TypeId × Value → H) :
    ReturnsInHanded {} Try.checked os 9 .any (Rows.fnTableShortSpec.pre6 enc Try.prog Try.f9 Rows.fnTableShortRow.domain false) (Rows.fnTableShortSpec.post enc Try.prog Try.f9 false true false false) := by
  refine returnsInHanded_of_change (C := Try.checked) own_knob started (by kernel_rfl) Try.func9
    (ChangeSpec.witness6 (enc := enc) (C := Try.checked) false ⟨#[], #[.slice none 0 0], []⟩ 8 (by kernel_rfl) (by kernel_rfl) (by kernel_rfl) (by kernel_rfl)) ?_
  intro W base args ds gs before hval0 hW hcnd _
  have hval : ∀ (j : Nat) t v, Try.f9.params[j]? = some t → args[j]? = some v → Value.okWide Try.prog W .any base t v := hval0
  have hW' := hW
  obtain ⟨p, q, hA0, hV, rfl, hfz, hnd⟩ := hW
  have hA : DataW.TrodAll enc Try.prog W 0 (fun _ => true) true Try.f9.params.toList args.toList ds p := hA0
  rw [Try.params9] at hA hval
  obtain ⟨v0, vs0, d0, ds0, p0, q0, hargs, rfl, rfl, h0, r0⟩ := trodAll_cons hA
  obtain ⟨rfl, rfl, rfl⟩ := trodAll_nil r0
  obtain rfl : args = #[v0] := by cases args; simp_all
  obtain ⟨rfl, rfl⟩ := trodVars_none hV
  clear hA0 hval0
  have k0 := h0
  have t0 : ∀ x ∈ p0, x.block < W.heap.size := fun x hx => by simpa using hW'.lt x (by simp [hx])
  obtain ⟨l0, o0⟩ := open_bytesAt (hval 0 22 v0 rfl rfl) h0
  refine (walk_FnTableShort W v0 l0 o0).mono fun e W' ⟨he, hg⟩ => ?_
  subst he
  exact ⟨_, rfl, _, _, _, _, _, _, hW', (trodAll_cons_mk (shut_bool Try.underlying4 _) trodAll_mk0), (trodAll_cons_mk (Below.trod laid_out (by kernel_rfl) (of_decide_eq_true (by kernel_rfl)) k0 hg t0) trodAll_mk0), rfl, hg.frame _, fun h => by cases h⟩

theorem facts_FnTableShort : joinedFacts Try.prog 9 Try.f9 Rows.fnTableShortSpec Rows.fnTableShortRow = true := by
  unfold joinedFacts
  simp only [Bool.and_eq_true]
  repeat' apply And.intro
  all_goals first
    | with_reducible exact laid_out
    | with_reducible exact may_enter
    | (with_reducible rw [lifts_final]; as_aux_lemma => kernel_rfl)
    | (with_reducible rw [make_cut]; as_aux_lemma => kernel_rfl)
    | as_aux_lemma => kernel_rfl
theorem inst_FnTableShort : Try.f9.isInstance Try.prog Rows.fnTableShortRow.origin Rows.fnTableShortRow.targs := of_decide_eq_true (by kernel_rfl)
theorem wrap_FnTableShort : Try.f9.isWrapper Try.prog Rows.fnTableShortRow.wrapper Rows.fnTableShortRow.mainSum := by
  unfold Func.isWrapper
  first | (rw [if_pos (by decide +kernel)]; kernel_rfl) | (rw [if_neg (by decide +kernel)]; exact ⟨rfl, rfl⟩)
theorem named_FnTableShort : Try.prog.funcNamed Rows.fnTableShortRow.func = some 9 := by kernel_rfl
theorem over_FnTableShort : Rows.fnTableShortRow.holds Try.pinned (OpenSpec.ofChange Rows.fnTableShortSpec) :=
  OpenClaim.holds_of_wide 9 Try.f9 rfl rfl rfl rfl rfl rfl rfl ⟨rfl, rfl, rfl, rfl, rfl⟩ rfl rfl rfl rfl rfl named_FnTableShort Try.func9 facts_FnTableShort inst_FnTableShort wrap_FnTableShort
    (fun os started H enc _ => lifted_FnTableShort os started H enc)

/-- The statement. -/
theorem holds_FnTableShort : Rows.FnTableShortSaid :=
  over_FnTableShort
#print axioms holds_FnTableShort
end Go.Proofs.Ytnompmdnonelhaa
