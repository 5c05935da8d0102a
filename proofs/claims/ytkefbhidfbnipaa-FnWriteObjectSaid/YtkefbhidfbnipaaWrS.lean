/- Objects written: the reference. -/
import Derived.Test.YtkefbhidfbnipaaWr
namespace Go.Proofs.Ytkefbhidfbnipaa
open Go.ChangeShapes Go.WideShapes Go.ChangeAt Go.RowKit Go.Joins
set_option linter.unusedSimpArgs false
set_option linter.unusedVariables false
set_option maxRecDepth 100000
set_option maxHeartbeats 8000000 in
theorem s_WriteObject (w : World) (v : Value) (o : ObjD) (h : ObjAt w v o) (hs : (∀ s ∈ o.secs, s.name.size ≤ maxLen) ∧ ∀ s ∈ o.syms, s.name.size ≤ maxLen) :
    Calls Try.prog 8 #[v] w (RetBytes w (writeL o)) := by
  obtain ⟨i0, hi, hz0, hz1, hz2⟩ := info_parts info_u8
  have HO := Lib.hid h
  obtain ⟨vs, vy, rfl, h1, h2⟩ := h
  obtain ⟨sa, sc, rfl, hcap, hmax, hnone, hcell⟩ := h1.form
  obtain ⟨ya, yc, rfl, hcap2, hmax2, hnone2, hcell2⟩ := h2.form
  have HC := Lib.hid hcell
  have HD := Lib.hid hcell2
  have HN0 := Lib.hid hs
  clear h1 h2 hcell hcell2 hnone hnone2 hs
  unfold maxLen at hmax hmax2
  obtain ⟨n1, hn1⟩ : ∃ n1, o.secs.length = n1 := ⟨_, rfl⟩
  obtain ⟨n2, hn2⟩ : ∃ n2, o.syms.length = n2 := ⟨_, rfl⟩
  have HN1 := Lib.hid hn1
  have HN2 := Lib.hid hn2
  rw [hn1] at hcap HO ⊢
  rw [hn2] at hcap2 HO ⊢
  clear hn1 hn2
  cases hq : objB o
  · have E : writeL o = [] := by unfold writeL; rw [hq]; rfl
    rw [E]
    go_enter Try.func8, Try.ntmps8
    go_wp2_with fail
    refine (s_ObjectValid _ _ o (HO.out.below (Nat.le_refl _) ((From.start w).alloc _).below) HN0.out).mono ?_
    rw [hq]
    rintro e w2 ⟨rfl, k2⟩
    have HF2 := Lib.hid (((From.start w).alloc _).call k2)
    clear k2 hq
    go_wp2_with fail
    go_ret
    exact ⟨_, rfl, ownB_lit0 HF2.out.le, (HF2.out.alloc _).below⟩
  have HV := Lib.hid hq
  have hf1 := (objB_few hq).1
  have hf2 := (objB_few hq).2
  rw [HN1.out] at hf1
  rw [HN2.out] at hf2
  have ht := tableL_length (allNames o)
  have hx := objB_fixN hq n1
  rw [← HN1.out, List.take_length] at hx
  obtain ⟨FN, hFN⟩ : ∃ FN, fixN o.secs = FN := ⟨_, rfl⟩
  rw [hFN] at hx
  have HFN := Lib.hid hFN
  have EW : Hid (writeL o = wr4 o n1) := by show _ = _; unfold writeL; rw [hq, if_pos rfl, HN1.out]
  have HS : Hid (∀ s ∈ allNames o, s.size ≤ maxLen) := fun s hs => by
    rcases List.mem_append.1 hs with hs | hs
    · obtain ⟨y, hy, rfl⟩ := List.mem_map.1 hs; exact HN0.out.1 y hy
    · obtain ⟨y, hy, rfl⟩ := List.mem_map.1 hs; exact HN0.out.2 y hy
  have HAL : Hid ((allNames o).length ≤ 1048576) := by show _ ≤ _; rw [allNames_length, HN1.out, HN2.out]; omega
  clear hFN
  go_enter Try.func8, Try.ntmps8
  go_wp2_with fail
  refine (s_ObjectValid _ _ o (HO.out.below (Nat.le_refl _) ((From.start w).alloc _).below) HN0.out).mono ?_
  rw [hq]
  rintro e w2 ⟨rfl, k2⟩
  have HF2 := Lib.hid (((From.start w).alloc _).call k2)
  have HB2 := Lib.hid ((Blk.new w #[.slice sa n1 sc, .slice ya n2 yc] 26).call k2)
  have cb := HB2.out.cell
  have zb := HB2.out.lt
  clear k2 hq
  go_wp2_with fail
  refine (s_l6Names _ _ o (HO.out.below (Nat.le_refl _) HF2.out.below) HV.out).mono ?_
  rintro e wa ⟨ra, rfl, oa, ka⟩
  have HF2 := Lib.hid (HF2.out.call ka)
  have HB2 := Lib.hid (HB2.out.call ka)
  have HA := Lib.hid oa.reads
  obtain ⟨aa, ac, rfl⟩ := owns_form oa
  have HAN := Lib.hid (allNames_length o)
  obtain ⟨nn, hnn⟩ : ∃ nn, (allNames o).length = nn := ⟨_, rfl⟩
  rw [hnn] at HA ⊢
  clear oa ka hnn
  go_wp2_with fail
  refine (s_NameTable _ _ (allNames o) HA.out HS.out HAL.out).mono ?_
  rintro e W ⟨r3, rfl, o3, k3⟩
  obtain ⟨ta, tc, rfl⟩ := owns_form o3
  obtain ⟨T, hT⟩ : ∃ T, tableL (allNames o) = T := ⟨_, rfl⟩
  rw [hT] at o3 ht ⊢
  obtain ⟨tl, htl⟩ : ∃ tl, T.length = tl := ⟨_, rfl⟩
  have htb : BytesAt W (.slice ta T.length tc) T := o3.reads
  rw [htl] at htb ht ⊢
  have HTB := Lib.hid htb
  have HTT := Lib.hid hT
  have HTL := Lib.hid htl
  have HFW := Lib.hid (HF2.out.call k3)
  have HBW := Lib.hid (HB2.out.call k3)
  have HOW := Lib.hid (HO.out.below (Nat.le_refl _) HFW.out.below)
  obtain ⟨X, hX⟩ : ∃ X, putHead (n1 : Int) (n2 : Int) (FN : Int) (tl : Int) = X := ⟨_, rfl⟩
  have HPH := Lib.hid hX
  have HX : Hid (X = wr1 o 0) := by show _ = _; rw [wr1_zero]; unfold headO; rw [HN1.out, HN2.out, HFN.out, hT, htl]; exact hX.symm
  have hXl : X.length ≤ 10 := by rw [← hX]; exact putHead_length _ _ _ _
  clear htb hT htl o3 k3 hX HF2 HB2 cb zb HA HAN
  go_wp2_with fail
  let f0 : Nat → Value := fun i => match i with
    | 0 => .pointer (some ⟨w.heap.size, 0, none⟩)
    | 1 => .slice sa n1 sc
    | 2 => .int .i64 (n1 : Int)
    | 3 => .pointer (some ⟨w.heap.size, 1, none⟩)
    | 4 => .slice ya n2 yc
    | 5 => .int .i64 (n2 : Int)
    | 6 => .agg #[.slice sa n1 sc, .slice ya n2 yc]
    | 7 => .int .i64 (FN : Int)
    | 8 => .slice ta tl tc
    | 9 => .int .i64 (tl : Int)
    | 10 => headerV (n1 : Int) (n2 : Int) (FN : Int) (tl : Int)
    | _ => undef
  refine wp_region_get (fun i v u => (i = 11 → OwnB u W.heap.size v X) ∧ (i = 12 → OwnB u W.heap.size v X) ∧ (i ≠ 11 → i ≠ 12 → v = f0 i)) (fun _ f u => From W.heap.size W u ∧ 0 ≤ u.heap.size) [[], [0], [1], [], [3], [4], [], [6], [], [8], [2, 5, 7, 9], [10], [11]] [[], [0], [0, 1], [], [3], [3, 4], [], [6], [], [8], [0, 1, 2, 3, 4, 5, 6, 7, 8, 9], [0, 1, 2, 3, 4, 5, 6, 7, 8, 9, 10], [0, 1, 2, 3, 4, 5, 6, 7, 8, 9, 10, 11]] [12] (by kernel_rfl) (by kernel_rfl) (by kernel_rfl) (by kernel_rfl) (by kernel_rfl) ⟨From.drew (From.start W), (Nat.zero_le _)⟩ ?ho ?hq
  case ho =>
    refine ⟨?_, ?_, ?_, ?_, ?_, ?_, ?_, ?_, ?_, ?_, ?_, ?_, ?_, trivial⟩
    · intro n f A u K hfr hn hl hS hv hK
      have eA9 : A.tmps.getD 1 undef = .pointer (some ⟨w.heap.size, 0, none⟩) := hfr 1 (no_dst (by kernel_rfl))
      have eB9 : (A.tmps[1]?).getD undef = .pointer (some ⟨w.heap.size, 0, none⟩) := by simpa using eA9
      refine owe_run rfl (wp_val (v := .pointer (some ⟨w.heap.size, 0, none⟩)) ?_ (hK _ _ ⟨hS.1, hS.2⟩ (fun _ _ _ h => h) (fun _ => ⟨fun e => absurd e (by decide), fun e => absurd e (by decide), fun _ _ => rfl⟩)))
      first
        | (go_simp; done)
        | (go_simp; rfl)
    · intro n f A u K hfr hn hl hS hv hK
      have eA0 : A.tmps.getD 20 undef = .pointer (some ⟨w.heap.size, 0, none⟩) := hv.1.2.2 (by decide) (by decide)
      have eB0 : (A.tmps[20]?).getD undef = .pointer (some ⟨w.heap.size, 0, none⟩) := by simpa using eA0
      have cu := (HBW.out.call (From.below hS.1)).cell
      refine owe_run rfl (wp_val (v := .slice sa n1 sc) ?_ (hK _ _ ⟨hS.1, hS.2⟩ (fun _ _ _ h => h) (fun _ => ⟨fun e => absurd e (by decide), fun e => absurd e (by decide), fun _ _ => rfl⟩)))
      first
        | (go_simp; done)
        | (go_simp; rfl)
    · intro n f A u K hfr hn hl hS hv hK
      have eA0 : A.tmps.getD 21 undef = .slice sa n1 sc := hv.1.2.2 (by decide) (by decide)
      have eB0 : (A.tmps[21]?).getD undef = .slice sa n1 sc := by simpa using eA0
      refine owe_run rfl (wp_val (v := .int .i64 (n1 : Int)) ?_ (hK _ _ ⟨hS.1, hS.2⟩ (fun _ _ _ h => h) (fun _ => ⟨fun e => absurd e (by decide), fun e => absurd e (by decide), fun _ _ => rfl⟩)))
      first
        | (go_simp; done)
        | (go_simp; rfl)
    · intro n f A u K hfr hn hl hS hv hK
      have eA9 : A.tmps.getD 1 undef = .pointer (some ⟨w.heap.size, 0, none⟩) := hfr 1 (no_dst (by kernel_rfl))
      have eB9 : (A.tmps[1]?).getD undef = .pointer (some ⟨w.heap.size, 0, none⟩) := by simpa using eA9
      refine owe_run rfl (wp_val (v := .pointer (some ⟨w.heap.size, 1, none⟩)) ?_ (hK _ _ ⟨hS.1, hS.2⟩ (fun _ _ _ h => h) (fun _ => ⟨fun e => absurd e (by decide), fun e => absurd e (by decide), fun _ _ => rfl⟩)))
      first
        | (go_simp; done)
        | (go_simp; rfl)
    · intro n f A u K hfr hn hl hS hv hK
      have eA0 : A.tmps.getD 23 undef = .pointer (some ⟨w.heap.size, 1, none⟩) := hv.1.2.2 (by decide) (by decide)
      have eB0 : (A.tmps[23]?).getD undef = .pointer (some ⟨w.heap.size, 1, none⟩) := by simpa using eA0
      have cu := (HBW.out.call (From.below hS.1)).cell
      refine owe_run rfl (wp_val (v := .slice ya n2 yc) ?_ (hK _ _ ⟨hS.1, hS.2⟩ (fun _ _ _ h => h) (fun _ => ⟨fun e => absurd e (by decide), fun e => absurd e (by decide), fun _ _ => rfl⟩)))
      first
        | (go_simp; done)
        | (go_simp; rfl)
    · intro n f A u K hfr hn hl hS hv hK
      have eA0 : A.tmps.getD 24 undef = .slice ya n2 yc := hv.1.2.2 (by decide) (by decide)
      have eB0 : (A.tmps[24]?).getD undef = .slice ya n2 yc := by simpa using eA0
      refine owe_run rfl (wp_val (v := .int .i64 (n2 : Int)) ?_ (hK _ _ ⟨hS.1, hS.2⟩ (fun _ _ _ h => h) (fun _ => ⟨fun e => absurd e (by decide), fun e => absurd e (by decide), fun _ _ => rfl⟩)))
      first
        | (go_simp; done)
        | (go_simp; rfl)
    · intro n f A u K hfr hn hl hS hv hK
      have eA9 : A.tmps.getD 1 undef = .pointer (some ⟨w.heap.size, 0, none⟩) := hfr 1 (no_dst (by kernel_rfl))
      have eB9 : (A.tmps[1]?).getD undef = .pointer (some ⟨w.heap.size, 0, none⟩) := by simpa using eA9
      have cu := (HBW.out.call (From.below hS.1)).cell
      refine owe_run rfl (wp_val (v := .agg #[.slice sa n1 sc, .slice ya n2 yc]) ?_ (hK _ _ ⟨hS.1, hS.2⟩ (fun _ _ _ h => h) (fun _ => ⟨fun e => absurd e (by decide), fun e => absurd e (by decide), fun _ _ => rfl⟩)))
      first
        | (go_simp; done)
        | (go_simp; rfl)
    · intro n f A u K hfr hn hl hS hv hK
      have eA0 : A.tmps.getD 26 undef = .agg #[.slice sa n1 sc, .slice ya n2 yc] := hv.1.2.2 (by decide) (by decide)
      have eB0 : (A.tmps[26]?).getD undef = .agg #[.slice sa n1 sc, .slice ya n2 yc] := by simpa using eA0
      refine owe_run rfl (wp_fn rfl (args1 eA0) (enter_fn Try.func30 (by kernel_rfl) rfl _ _) ((s_l6Fixups u _ o (HOW.out.below (Nat.le_refl _) (From.below hS.1)) HV.out).mono ?_))
      rw [HFN.out]
      rintro e u1 ⟨rfl, k1⟩
      exact ⟨_, rfl, hK _ _ ⟨hS.1.call k1, Nat.le_trans (hS.2) k1.size⟩ (fun j y _ h => ⟨fun e => owns_call (h.1 e) k1, fun e => owns_call (h.2.1 e) k1, h.2.2⟩) (fun _ => ⟨fun e => absurd e (by decide), fun e => absurd e (by decide), fun _ _ => rfl⟩)⟩
    · intro n f A u K hfr hn hl hS hv hK
      have eA9 : A.tmps.getD 3 undef = .slice ta tl tc := hfr 3 (no_dst (by kernel_rfl))
      have eB9 : (A.tmps[3]?).getD undef = .slice ta tl tc := by simpa using eA9
      refine owe_run rfl (wp_val (v := .slice ta tl tc) ?_ (hK _ _ ⟨hS.1, hS.2⟩ (fun _ _ _ h => h) (fun _ => ⟨fun e => absurd e (by decide), fun e => absurd e (by decide), fun _ _ => rfl⟩)))
      first
        | (go_simp; done)
        | (go_simp; rfl)
    · intro n f A u K hfr hn hl hS hv hK
      have eA0 : A.tmps.getD 28 undef = .slice ta tl tc := hv.1.2.2 (by decide) (by decide)
      have eB0 : (A.tmps[28]?).getD undef = .slice ta tl tc := by simpa using eA0
      refine owe_run rfl (wp_val (v := .int .i64 (tl : Int)) ?_ (hK _ _ ⟨hS.1, hS.2⟩ (fun _ _ _ h => h) (fun _ => ⟨fun e => absurd e (by decide), fun e => absurd e (by decide), fun _ _ => rfl⟩)))
      first
        | (go_simp; done)
        | (go_simp; rfl)
    · intro n f A u K hfr hn hl hS hv hK
      have eA0 : A.tmps.getD 22 undef = .int .i64 (n1 : Int) := hv.1.2.2 (by decide) (by decide)
      have eB0 : (A.tmps[22]?).getD undef = .int .i64 (n1 : Int) := by simpa using eA0
      have eA1 : A.tmps.getD 25 undef = .int .i64 (n2 : Int) := hv.2.1.2.2 (by decide) (by decide)
      have eB1 : (A.tmps[25]?).getD undef = .int .i64 (n2 : Int) := by simpa using eA1
      have eA2 : A.tmps.getD 27 undef = .int .i64 (FN : Int) := hv.2.2.1.2.2 (by decide) (by decide)
      have eB2 : (A.tmps[27]?).getD undef = .int .i64 (FN : Int) := by simpa using eA2
      have eA3 : A.tmps.getD 29 undef = .int .i64 (tl : Int) := hv.2.2.2.1.2.2 (by decide) (by decide)
      have eB3 : (A.tmps[29]?).getD undef = .int .i64 (tl : Int) := by simpa using eA3
      refine owe_run rfl (wp_val (v := headerV (n1 : Int) (n2 : Int) (FN : Int) (tl : Int)) ?_ (hK _ _ ⟨hS.1, hS.2⟩ (fun _ _ _ h => h) (fun _ => ⟨fun e => absurd e (by decide), fun e => absurd e (by decide), fun _ _ => rfl⟩)))
      first
        | (go_simp; done)
        | (go_simp; rfl)
    · intro n f A u K hfr hn hl hS hv hK
      have eA0 : A.tmps.getD 30 undef = headerV (n1 : Int) (n2 : Int) (FN : Int) (tl : Int) := hv.1.2.2 (by decide) (by decide)
      have eB0 : (A.tmps[30]?).getD undef = headerV (n1 : Int) (n2 : Int) (FN : Int) (tl : Int) := by simpa using eA0
      refine owe_run rfl (wp_fn rfl (args1 eA0) (enter_fn Try.func29 (by kernel_rfl) rfl _ _) ((s_PutHeader u (n1 : Int) (n2 : Int) (FN : Int) (tl : Int)).mono ?_))
      rw [HPH.out]
      rintro e u1 ⟨r5, rfl, o5, k1⟩
      exact ⟨_, rfl, hK _ _ ⟨hS.1.call k1, Nat.le_trans (hS.2) k1.size⟩ (fun j y _ h => ⟨fun e => owns_call (h.1 e) k1, fun e => owns_call (h.2.1 e) k1, h.2.2⟩) (fun _ => ⟨fun _ => owns_mono o5 (From.le hS.1), fun e => absurd e (by decide), fun e11 e12 => absurd rfl e11⟩)⟩
    · intro n f A u K hfr hn hl hS hv hK
      have e7 := hv.1.1 rfl
      refine owe_run rfl (wp_val (v := A.tmps.getD 31 undef) ?_ (hK _ _ ⟨hS.1, hS.2⟩ (fun _ _ _ h => h) (fun _ => ⟨fun e => absurd e (by decide), fun _ => e7, fun e11 e12 => absurd rfl e12⟩)))
      first
        | (go_simp; done)
        | (go_simp; rfl)
  case hq =>
    intro g u hS hv
    have e9 := (hv.2.2.2.2.2.2.2.2.2.2.2.2.1 (by decide)).2.1 rfl
    obtain ⟨va, vc, e8⟩ := owns_form e9
    rw [e8] at e9
    clear hv f0
    simp only [List.map, putG, e8, Nat.zero_add, Nat.reduceAdd, List.setIfInBounds_toArray, List.set_cons_zero, List.set_cons_succ]
    have HF4 := Lib.hid hS.1
    have HO4 : Hid (OwnB u W.heap.size (.slice va X.length vc) X) := e9
    clear hS e9 e8
    have cb := (HBW.out.call HF4.out.below).cell
    have zb := (HBW.out.call HF4.out.below).lt
    go_wp2_with fail
    go_loopw [4, 5] (fun out i wr => ∃ (k : Nat) (L : List UInt8) (la : Option Addr) (lc : Nat), k ≤ n1 ∧ i = .int .i64 k ∧ out = .slice la L.length lc ∧ L.length ≤ 74 ∧ Hid (L = wr1 o k) ∧ Hid (OwnB wr W.heap.size (.slice la L.length lc) L) ∧ Hid (From W.heap.size W wr)) (fun _ i _ => n1 - (intOf i).toNat)
    case atStart => exact ⟨0, X, va, vc, Nat.zero_le _, rfl, rfl, by omega, HX, HO4, HF4⟩
    case round =>
      clear HO4 HF4 HX hXl cb zb
      obtain ⟨k, L, la, lc, hk, rfl, rfl, hU, HL, HO4, HF4⟩ := hrel
      have HBl := Lib.hid (HFW.out.below.trans (HF4.out.below.mono HFW.out.le))
      have cb := (HBW.out.call HF4.out.below).cell
      have zb := (HBW.out.call HF4.out.below).lt
      by_cases hlt : k < n1
      · obtain ⟨b, off, rfl, hc⟩ := HC.out (by have := HN1.out; omega)
        obtain ⟨vb, vf, hb, hf, c0, c1, c2, c3, c4, c5⟩ := hc k (by rw [HN1.out]; exact hlt)
        obtain ⟨ba, bc, rfl, -, hbm, -⟩ := hb.form
        obtain ⟨fa, fc, rfl, -, hfm, -, hfc⟩ := hf.form
        have hbl : b < w.heap.size := World.block_lt_of_cell? w _ c0
        have g0 := (HBl.out.cell (p := ⟨b, off + k * 6, none⟩) hbl).trans c0
        have g1 := (HBl.out.cell (p := ⟨b, off + k * 6 + 1, none⟩) hbl).trans c1
        have g2 := (HBl.out.cell (p := ⟨b, off + k * 6 + 2, none⟩) hbl).trans c2
        have g3 := (HBl.out.cell (p := ⟨b, off + k * 6 + 3, none⟩) hbl).trans c3
        have g4 := (HBl.out.cell (p := ⟨b, off + k * 6 + 4, none⟩) hbl).trans c4
        have g5 := (HBl.out.cell (p := ⟨b, off + k * 6 + 5, none⟩) hbl).trans c5
        have i1 : (k : Int) < (n1 : Int) := by omega
        have i3 : (0 : Int) ≤ (k : Int) := by omega
        have hx0 := objB_sec HV.out (List.getElem_mem (l := o.secs) (by rw [HN1.out]; exact hlt))
        have HT := Lib.hid (wr1_step o k (by rw [HN1.out]; exact hlt))
        have HBY := Lib.hid (hb.below (Nat.le_refl _) HFW.out.below)
        have HFY := Lib.hid (hf.below (Nat.le_refl _) HFW.out.below)
        have HFC := Lib.hid hfc
        have HC5 := Lib.hid c5
        clear hc c0 c1 c2 c3 c4 c5 hb hf hfc
        generalize o.secs[k]'(by rw [HN1.out]; exact hlt) = x at *
        have hk1 : 0 ≤ x.kind ∧ x.kind ≤ 255 := by have := hx0.kind; omega
        have hk2 := align_le hx0.align
        have hk3 : 0 ≤ sectionSize x ∧ sectionSize x ≤ 255 := by have := hx0.sectionSize; omega
        have hnfl := hx0.fixl
        have hnbl := hx0.bytes
        have HX0 := Lib.hid hx0
        clear hx0
        obtain ⟨nb, hnb⟩ : ∃ nb, x.bytes.length = nb := ⟨_, rfl⟩
        obtain ⟨nf, hnf⟩ : ∃ nf, x.fix.length = nf := ⟨_, rfl⟩
        have HNB := Lib.hid hnb
        have HNF := Lib.hid hnf
        rw [hnb] at hnbl g3
        rw [hnf] at hnfl g5 HC5 HFY HT
        have hk4 : 0 ≤ (nf : Int) ∧ (nf : Int) ≤ 255 := by omega
        rw [hnb] at HBY
        have HX : Hid (SecAt W (.agg #[.string x.name, .int .i64 x.kind, .int .i64 x.align, .slice ba nb bc, .int .i64 x.size, .slice fa nf fc]) x) := ⟨_, _, rfl, HBY.out, HFY.out⟩
        clear hnb hnf HFY
        go_wp2_with fail
        refine (s_PlaceOf _ _ T (HTB.out.below (Nat.le_refl _) (HF4.out.alloc _).below) x.name).mono ?_
        rintro e w4 ⟨rfl, rfl⟩
        rw [HTT.out] at HT
        obtain ⟨pl, hpl⟩ : ∃ pl, placeOf T (bytesS x.name) = pl := ⟨_, rfl⟩
        rw [hpl] at HT ⊢
        clear hpl
        go_wp2_with fail
        refine (s_PutNumber _ pl 2).mono ?_
        rintro e w5 ⟨r5, rfl, o5, k5⟩
        have HF5 := Lib.hid ((HF4.out.alloc (.cells #[.string x.name, .int .i64 x.kind, .int .i64 x.align, .slice ba nb bc, .int .i64 x.size, .slice fa nf fc] 52)).call k5)
        have HX5 := Lib.hid ((Blk.new wr #[.string x.name, .int .i64 x.kind, .int .i64 x.align, .slice ba nb bc, .int .i64 x.size, .slice fa nf fc] 52).call k5)
        have HO5 : Hid (OwnB w5 W.heap.size (.slice la L.length lc) L) := owns_call (World.ownsRow.alloc HO4.out _) k5
        obtain ⟨pa, pc, rfl⟩ := owns_form o5
        have hX1 := putNum_length pl 2
        obtain ⟨X1, hX1e⟩ : ∃ X1, putNum pl 2 = X1 := ⟨_, rfl⟩
        rw [hX1e] at o5 hX1 HT ⊢
        have HS5 := Lib.hid o5.reads
        clear o5 k5 HO4 HF4 hX1e
        go_wp2_with (at_builtin; refine wpList_append_src rfl (.tmp 44) (.tmp 49) 22 22 rfl W.heap.size 5 i0 (.int .u8 0) 1 1 Try.underlying22 hi hz0 hz1 hz2 rfl (by decide) _ _ _ rfl HO5.out _ _ _ rfl (src_reads Try.underlying22 HS5.out (bvs_one _)) ?c1 ?c2 ?c3 ?_)
        case c1 => unfold maxLen; omega
        case c2 => omega
        case c3 => exact From.le HF5.out
        intro v6 w6 hown hgr
        have hown6 : OwnB w6 W.heap.size v6 (L ++ X1) := ownB_app hown rfl rfl
        obtain ⟨oa, oc, rfl⟩ := owns_form hown6
        have HF6 := Lib.hid (From.grown (HF5.out) hgr (owns_block HO5.out))
        have HX6 := Lib.hid (Blk.grown (HX5.out) hgr (blk_apart (HX5.out) HO5.out (by decide)))
        obtain ⟨U, hU⟩ : ∃ U, L ++ X1 = U := ⟨_, rfl⟩
        rw [hU] at hown6 ⊢
        have HO6 := Lib.hid hown6
        have hUl : U.length ≤ 78 := by rw [← hU, List.length_append]; omega
        have HU := Lib.hid hU
        clear hown hown6 hgr hU HO5 HF5 HX5
        obtain ⟨M, hM⟩ : ∃ M, M ≤ w6.heap.size := ⟨0, Nat.zero_le _⟩
        go_wp2_with fail
        let f0 : Nat → Value := fun i => match i with
          | 0 => .slice oa U.length oc
          | 1 => .pointer (some ⟨wr.heap.size, 1, none⟩)
          | 2 => .int .i64 x.kind
          | 3 => .int .u8 (x.kind)
          | 4 => .pointer (some ⟨wr.heap.size, 2, none⟩)
          | 5 => .int .i64 x.align
          | 6 => .int .u8 (x.align)
          | 7 => .agg #[.string x.name, .int .i64 x.kind, .int .i64 x.align, .slice ba nb bc, .int .i64 x.size, .slice fa nf fc]
          | 8 => .int .i64 (sectionSize x)
          | 9 => .int .u8 (sectionSize x)
          | 10 => .pointer (some ⟨wr.heap.size, 5, none⟩)
          | 11 => .slice fa nf fc
          | 12 => .int .i64 (nf : Int)
          | 13 => .int .u8 ((nf : Int))
          | _ => undef
        refine wp_region_get (fun i v u => (i = 14 → ∃ g, v = .slice (some ⟨g, 0, none⟩) 4 4 ∧ Blk u g #[.int .u8 (x.kind), .int .u8 (x.align), .int .u8 (sectionSize x), .int .u8 ((nf : Int))] 5) ∧ (i = 15 → OwnB u W.heap.size v (U ++ [u8of (x.kind), u8of (x.align), u8of (sectionSize x), u8of ((nf : Int))])) ∧ (i = 16 → OwnB u W.heap.size v (U ++ [u8of (x.kind), u8of (x.align), u8of (sectionSize x), u8of ((nf : Int))])) ∧ (i ≠ 14 → i ≠ 15 → i ≠ 16 → v = f0 i)) (fun _ f u => From W.heap.size W u ∧ M ≤ u.heap.size ∧ Blk u wr.heap.size #[.string x.name, .int .i64 x.kind, .int .i64 x.align, .slice ba nb bc, .int .i64 x.size, .slice fa nf fc] 52 ∧ (f 15 = false → OwnB u W.heap.size (.slice oa U.length oc) U)) [[], [], [1], [2], [], [4], [5], [], [7], [8], [], [10], [11], [12], [3, 6, 9, 13], [0, 14], [15]] [[], [], [1], [1, 2], [], [4], [4, 5], [], [7], [7, 8], [], [10], [10, 11], [10, 11, 12], [1, 2, 3, 4, 5, 6, 7, 8, 9, 10, 11, 12, 13], [0, 1, 2, 3, 4, 5, 6, 7, 8, 9, 10, 11, 12, 13, 14], [0, 1, 2, 3, 4, 5, 6, 7, 8, 9, 10, 11, 12, 13, 14, 15]] [16] (by kernel_rfl) (by kernel_rfl) (by kernel_rfl) (by kernel_rfl) (by kernel_rfl) ⟨From.drew HF6.out, hM, Blk.drew HX6.out, fun _ => World.ownsRow.drew HO6.out⟩ ?ho ?hq
        case ho =>
          refine ⟨?_, ?_, ?_, ?_, ?_, ?_, ?_, ?_, ?_, ?_, ?_, ?_, ?_, ?_, ?_, ?_, ?_, trivial⟩
          · intro n f A u K hfr hn hl hS hv hK
            have eA9 : A.tmps.getD 4 undef = .slice oa U.length oc := hfr 4 (late_dst (k := 16) (by kernel_rfl) (hl.2.2 16 (by decide)))
            have eB9 : (A.tmps[4]?).getD undef = .slice oa U.length oc := by simpa using eA9
            refine owe_run rfl (wp_val (v := .slice oa U.length oc) ?_ (hK _ _ ⟨hS.1, hS.2.1, hS.2.2.1, fun h => hS.2.2.2 (setl_off h)⟩ (fun _ _ _ h => h) (fun _ => ⟨fun e => absurd e (by decide), fun e => absurd e (by decide), fun e => absurd e (by decide), fun _ _ _ => rfl⟩)))
            first
              | (go_simp; done)
              | (go_simp; rfl)
          · intro n f A u K hfr hn hl hS hv hK
            have eA9 : A.tmps.getD 6 undef = .pointer (some ⟨wr.heap.size, 0, none⟩) := hfr 6 (no_dst (by kernel_rfl))
            have eB9 : (A.tmps[6]?).getD undef = .pointer (some ⟨wr.heap.size, 0, none⟩) := by simpa using eA9
            refine owe_run rfl (wp_val (v := .pointer (some ⟨wr.heap.size, 1, none⟩)) ?_ (hK _ _ ⟨hS.1, hS.2.1, hS.2.2.1, fun h => hS.2.2.2 (setl_off h)⟩ (fun _ _ _ h => h) (fun _ => ⟨fun e => absurd e (by decide), fun e => absurd e (by decide), fun e => absurd e (by decide), fun _ _ _ => rfl⟩)))
            first
              | (go_simp; done)
              | (go_simp; rfl)
          · intro n f A u K hfr hn hl hS hv hK
            have eA0 : A.tmps.getD 52 undef = .pointer (some ⟨wr.heap.size, 1, none⟩) := hv.1.2.2.2 (by decide) (by decide) (by decide)
            have eB0 : (A.tmps[52]?).getD undef = .pointer (some ⟨wr.heap.size, 1, none⟩) := by simpa using eA0
            have cu := Blk.cell (hS.2.2.1)
            refine owe_run rfl (wp_val (v := .int .i64 x.kind) ?_ (hK _ _ ⟨hS.1, hS.2.1, hS.2.2.1, fun h => hS.2.2.2 (setl_off h)⟩ (fun _ _ _ h => h) (fun _ => ⟨fun e => absurd e (by decide), fun e => absurd e (by decide), fun e => absurd e (by decide), fun _ _ _ => rfl⟩)))
            first
              | (go_simp; done)
              | (go_simp; rfl)
          · intro n f A u K hfr hn hl hS hv hK
            have eA0 : A.tmps.getD 53 undef = .int .i64 x.kind := hv.1.2.2.2 (by decide) (by decide) (by decide)
            have eB0 : (A.tmps[53]?).getD undef = .int .i64 x.kind := by simpa using eA0
            have ew : IntKind.u8.wrap (x.kind) = x.kind := IntWalk.u8_in _ hk1
            refine owe_run rfl (wp_val (v := .int .u8 (x.kind)) ?_ (hK _ _ ⟨hS.1, hS.2.1, hS.2.2.1, fun h => hS.2.2.2 (setl_off h)⟩ (fun _ _ _ h => h) (fun _ => ⟨fun e => absurd e (by decide), fun e => absurd e (by decide), fun e => absurd e (by decide), fun _ _ _ => rfl⟩)))
            first
              | (go_simp; done)
              | (go_simp; rfl)
          · intro n f A u K hfr hn hl hS hv hK
            have eA9 : A.tmps.getD 6 undef = .pointer (some ⟨wr.heap.size, 0, none⟩) := hfr 6 (no_dst (by kernel_rfl))
            have eB9 : (A.tmps[6]?).getD undef = .pointer (some ⟨wr.heap.size, 0, none⟩) := by simpa using eA9
            refine owe_run rfl (wp_val (v := .pointer (some ⟨wr.heap.size, 2, none⟩)) ?_ (hK _ _ ⟨hS.1, hS.2.1, hS.2.2.1, fun h => hS.2.2.2 (setl_off h)⟩ (fun _ _ _ h => h) (fun _ => ⟨fun e => absurd e (by decide), fun e => absurd e (by decide), fun e => absurd e (by decide), fun _ _ _ => rfl⟩)))
            first
              | (go_simp; done)
              | (go_simp; rfl)
          · intro n f A u K hfr hn hl hS hv hK
            have eA0 : A.tmps.getD 55 undef = .pointer (some ⟨wr.heap.size, 2, none⟩) := hv.1.2.2.2 (by decide) (by decide) (by decide)
            have eB0 : (A.tmps[55]?).getD undef = .pointer (some ⟨wr.heap.size, 2, none⟩) := by simpa using eA0
            have cu := Blk.cell (hS.2.2.1)
            refine owe_run rfl (wp_val (v := .int .i64 x.align) ?_ (hK _ _ ⟨hS.1, hS.2.1, hS.2.2.1, fun h => hS.2.2.2 (setl_off h)⟩ (fun _ _ _ h => h) (fun _ => ⟨fun e => absurd e (by decide), fun e => absurd e (by decide), fun e => absurd e (by decide), fun _ _ _ => rfl⟩)))
            first
              | (go_simp; done)
              | (go_simp; rfl)
          · intro n f A u K hfr hn hl hS hv hK
            have eA0 : A.tmps.getD 56 undef = .int .i64 x.align := hv.1.2.2.2 (by decide) (by decide) (by decide)
            have eB0 : (A.tmps[56]?).getD undef = .int .i64 x.align := by simpa using eA0
            have ew : IntKind.u8.wrap (x.align) = x.align := IntWalk.u8_in _ hk2
            refine owe_run rfl (wp_val (v := .int .u8 (x.align)) ?_ (hK _ _ ⟨hS.1, hS.2.1, hS.2.2.1, fun h => hS.2.2.2 (setl_off h)⟩ (fun _ _ _ h => h) (fun _ => ⟨fun e => absurd e (by decide), fun e => absurd e (by decide), fun e => absurd e (by decide), fun _ _ _ => rfl⟩)))
            first
              | (go_simp; done)
              | (go_simp; rfl)
          · intro n f A u K hfr hn hl hS hv hK
            have eA9 : A.tmps.getD 6 undef = .pointer (some ⟨wr.heap.size, 0, none⟩) := hfr 6 (no_dst (by kernel_rfl))
            have eB9 : (A.tmps[6]?).getD undef = .pointer (some ⟨wr.heap.size, 0, none⟩) := by simpa using eA9
            have cu := Blk.cell (hS.2.2.1)
            refine owe_run rfl (wp_val (v := .agg #[.string x.name, .int .i64 x.kind, .int .i64 x.align, .slice ba nb bc, .int .i64 x.size, .slice fa nf fc]) ?_ (hK _ _ ⟨hS.1, hS.2.1, hS.2.2.1, fun h => hS.2.2.2 (setl_off h)⟩ (fun _ _ _ h => h) (fun _ => ⟨fun e => absurd e (by decide), fun e => absurd e (by decide), fun e => absurd e (by decide), fun _ _ _ => rfl⟩)))
            first
              | (go_simp; done)
              | (go_simp; rfl)
          · intro n f A u K hfr hn hl hS hv hK
            have eA0 : A.tmps.getD 58 undef = .agg #[.string x.name, .int .i64 x.kind, .int .i64 x.align, .slice ba nb bc, .int .i64 x.size, .slice fa nf fc] := hv.1.2.2.2 (by decide) (by decide) (by decide)
            have eB0 : (A.tmps[58]?).getD undef = .agg #[.string x.name, .int .i64 x.kind, .int .i64 x.align, .slice ba nb bc, .int .i64 x.size, .slice fa nf fc] := by simpa using eA0
            refine owe_run rfl (wp_fn rfl (args1 eA0) (enter_fn Try.func33 (by kernel_rfl) rfl _ _) ((s_SectionSize u _ x (HX.out.below (Nat.le_refl _) (From.below hS.1))).mono ?_))
            rintro e u1 ⟨rfl, k1⟩
            exact ⟨_, rfl, hK _ _ ⟨hS.1.call k1, Nat.le_trans (hS.2.1) k1.size, Blk.call (hS.2.2.1) k1, fun h => owns_call (hS.2.2.2 (setl_off h)) k1⟩ (fun j y _ h => ⟨fun e => (have ⟨g, e1, e2⟩ := (h.1 e); ⟨g, e1, Blk.call e2 k1⟩), fun e => owns_call (h.2.1 e) k1, fun e => owns_call (h.2.2.1 e) k1, h.2.2.2⟩) (fun _ => ⟨fun e => absurd e (by decide), fun e => absurd e (by decide), fun e => absurd e (by decide), fun _ _ _ => rfl⟩)⟩
          · intro n f A u K hfr hn hl hS hv hK
            have eA0 : A.tmps.getD 59 undef = .int .i64 (sectionSize x) := hv.1.2.2.2 (by decide) (by decide) (by decide)
            have eB0 : (A.tmps[59]?).getD undef = .int .i64 (sectionSize x) := by simpa using eA0
            have ew : IntKind.u8.wrap (sectionSize x) = sectionSize x := IntWalk.u8_in _ hk3
            refine owe_run rfl (wp_val (v := .int .u8 (sectionSize x)) ?_ (hK _ _ ⟨hS.1, hS.2.1, hS.2.2.1, fun h => hS.2.2.2 (setl_off h)⟩ (fun _ _ _ h => h) (fun _ => ⟨fun e => absurd e (by decide), fun e => absurd e (by decide), fun e => absurd e (by decide), fun _ _ _ => rfl⟩)))
            first
              | (go_simp; done)
              | (go_simp; rfl)
          · intro n f A u K hfr hn hl hS hv hK
            have eA9 : A.tmps.getD 6 undef = .pointer (some ⟨wr.heap.size, 0, none⟩) := hfr 6 (no_dst (by kernel_rfl))
            have eB9 : (A.tmps[6]?).getD undef = .pointer (some ⟨wr.heap.size, 0, none⟩) := by simpa using eA9
            refine owe_run rfl (wp_val (v := .pointer (some ⟨wr.heap.size, 5, none⟩)) ?_ (hK _ _ ⟨hS.1, hS.2.1, hS.2.2.1, fun h => hS.2.2.2 (setl_off h)⟩ (fun _ _ _ h => h) (fun _ => ⟨fun e => absurd e (by decide), fun e => absurd e (by decide), fun e => absurd e (by decide), fun _ _ _ => rfl⟩)))
            first
              | (go_simp; done)
              | (go_simp; rfl)
          · intro n f A u K hfr hn hl hS hv hK
            have eA0 : A.tmps.getD 61 undef = .pointer (some ⟨wr.heap.size, 5, none⟩) := hv.1.2.2.2 (by decide) (by decide) (by decide)
            have eB0 : (A.tmps[61]?).getD undef = .pointer (some ⟨wr.heap.size, 5, none⟩) := by simpa using eA0
            have cu := Blk.cell (hS.2.2.1)
            refine owe_run rfl (wp_val (v := .slice fa nf fc) ?_ (hK _ _ ⟨hS.1, hS.2.1, hS.2.2.1, fun h => hS.2.2.2 (setl_off h)⟩ (fun _ _ _ h => h) (fun _ => ⟨fun e => absurd e (by decide), fun e => absurd e (by decide), fun e => absurd e (by decide), fun _ _ _ => rfl⟩)))
            first
              | (go_simp; done)
              | (go_simp; rfl)
          · intro n f A u K hfr hn hl hS hv hK
            have eA0 : A.tmps.getD 62 undef = .slice fa nf fc := hv.1.2.2.2 (by decide) (by decide) (by decide)
            have eB0 : (A.tmps[62]?).getD undef = .slice fa nf fc := by simpa using eA0
            refine owe_run rfl (wp_val (v := .int .i64 (nf : Int)) ?_ (hK _ _ ⟨hS.1, hS.2.1, hS.2.2.1, fun h => hS.2.2.2 (setl_off h)⟩ (fun _ _ _ h => h) (fun _ => ⟨fun e => absurd e (by decide), fun e => absurd e (by decide), fun e => absurd e (by decide), fun _ _ _ => rfl⟩)))
            first
              | (go_simp; done)
              | (go_simp; rfl)
          · intro n f A u K hfr hn hl hS hv hK
            have eA0 : A.tmps.getD 63 undef = .int .i64 (nf : Int) := hv.1.2.2.2 (by decide) (by decide) (by decide)
            have eB0 : (A.tmps[63]?).getD undef = .int .i64 (nf : Int) := by simpa using eA0
            have ew : IntKind.u8.wrap ((nf : Int)) = (nf : Int) := IntWalk.u8_in _ hk4
            refine owe_run rfl (wp_val (v := .int .u8 ((nf : Int))) ?_ (hK _ _ ⟨hS.1, hS.2.1, hS.2.2.1, fun h => hS.2.2.2 (setl_off h)⟩ (fun _ _ _ h => h) (fun _ => ⟨fun e => absurd e (by decide), fun e => absurd e (by decide), fun e => absurd e (by decide), fun _ _ _ => rfl⟩)))
            first
              | (go_simp; done)
              | (go_simp; rfl)
          · intro n f A u K hfr hn hl hS hv hK
            have eA0 : A.tmps.getD 54 undef = .int .u8 (x.kind) := hv.1.2.2.2 (by decide) (by decide) (by decide)
            have eB0 : (A.tmps[54]?).getD undef = .int .u8 (x.kind) := by simpa using eA0
            have eA1 : A.tmps.getD 57 undef = .int .u8 (x.align) := hv.2.1.2.2.2 (by decide) (by decide) (by decide)
            have eB1 : (A.tmps[57]?).getD undef = .int .u8 (x.align) := by simpa using eA1
            have eA2 : A.tmps.getD 60 undef = .int .u8 (sectionSize x) := hv.2.2.1.2.2.2 (by decide) (by decide) (by decide)
            have eB2 : (A.tmps[60]?).getD undef = .int .u8 (sectionSize x) := by simpa using eA2
            have eA3 : A.tmps.getD 64 undef = .int .u8 ((nf : Int)) := hv.2.2.2.1.2.2.2 (by decide) (by decide) (by decide)
            have eB3 : (A.tmps[64]?).getD undef = .int .u8 ((nf : Int)) := by simpa using eA3
            have k1 : Below u.heap.size u (u.alloc (.cells #[.int .u8 (x.kind), .int .u8 (x.align), .int .u8 (sectionSize x), .int .u8 ((nf : Int))] 5)) := ((From.start u).alloc _).below
            refine owe_run rfl (wp_val (v := .slice (some ⟨u.heap.size, 0, none⟩) 4 4) (w' := u.alloc (.cells #[.int .u8 (x.kind), .int .u8 (x.align), .int .u8 (sectionSize x), .int .u8 ((nf : Int))] 5)) ?_ (hK _ _ ⟨hS.1.call k1, Nat.le_trans (hS.2.1) k1.size, Blk.call (hS.2.2.1) k1, fun h => owns_call (hS.2.2.2 (setl_off h)) k1⟩ (fun j y _ h => ⟨fun e => (have ⟨g, e1, e2⟩ := (h.1 e); ⟨g, e1, Blk.call e2 k1⟩), fun e => owns_call (h.2.1 e) k1, fun e => owns_call (h.2.2.1 e) k1, h.2.2.2⟩) (fun _ => ⟨fun _ => ⟨_, rfl, Blk.new u _ _⟩, fun e => absurd e (by decide), fun e => absurd e (by decide), fun e14 e15 e16 => absurd rfl e14⟩)))
            first
              | (go_simp; done)
              | (go_simp; rfl)
          · intro n f A u K hfr hn hl hS hv hK
            have eA0 : A.tmps.getD 51 undef = .slice oa U.length oc := hv.1.2.2.2 (by decide) (by decide) (by decide)
            have eB0 : (A.tmps[51]?).getD undef = .slice oa U.length oc := by simpa using eA0
            have hown := hS.2.2.2 hl.1
            have eS : A.tmps.getD 51 undef = .slice oa U.length oc := eA0
            obtain ⟨g8, e8, hg8⟩ := hv.2.1.1 rfl
            refine step_append_src rfl (.tmp 51) (.tmp 65) 22 22 rfl (W.heap.size) 5 i0 (.int .u8 0) 1 1 Try.underlying22 hi hz0 hz1 hz2 rfl (by decide) (.slice oa U.length oc) _ _ eS hown _ 4 [.int .u8 (x.kind), .int .u8 (x.align), .int .u8 (sectionSize x), .int .u8 ((nf : Int))] e8 (src_blk Try.underlying22 u g8 [.int .u8 (x.kind), .int .u8 (x.align), .int .u8 (sectionSize x), .int .u8 ((nf : Int))] 1 4 4 5 hg8 rfl (by simp [Value.oneCell'])) (by unfold maxLen; omega) (by omega) (From.le hS.1) ?_
            intro v' w1 hown1 hgr1
            exact hK _ _ ⟨From.grown (hS.1) hgr1 (owns_block hown), Nat.le_trans (hS.2.1) hgr1.size, Blk.grown (hS.2.2.1) hgr1 (blk_apart (hS.2.2.1) hown (by decide)), fun h => (by rw [setl_at] at h; cases h)⟩ (fun j y hj h => ⟨fun e => by subst e; exact absurd hj (by decide), fun e => by subst e; exact absurd hj (by decide), fun e => by subst e; exact absurd hj (by decide), h.2.2.2⟩) (fun _ => ⟨fun e => absurd e (by decide), fun _ => ownB_app hown1 (by simp only [bvs, List.map_cons, List.map_nil, u8_val (hk1).1 (hk1).2, u8_val (hk2).1 (hk2).2, u8_val (hk3).1 (hk3).2, u8_val (hk4).1 (hk4).2]) rfl, fun e => absurd e (by decide), fun e14 e15 e16 => absurd rfl e15⟩)
          · intro n f A u K hfr hn hl hS hv hK
            have e7 := hv.1.2.1 rfl
            refine owe_run rfl (wp_val (v := A.tmps.getD 66 undef) ?_ (hK _ _ ⟨hS.1, hS.2.1, hS.2.2.1, fun h => hS.2.2.2 (setl_off h)⟩ (fun _ _ _ h => h) (fun _ => ⟨fun e => absurd e (by decide), fun e => absurd e (by decide), fun _ => e7, fun e14 e15 e16 => absurd rfl e16⟩)))
            first
              | (go_simp; done)
              | (go_simp; rfl)
        case hq =>
          intro g u hS hv
          have e9 := (hv.2.2.2.2.2.2.2.2.2.2.2.2.2.2.2.2.1 (by decide)).2.2.1 rfl
          obtain ⟨va, vc, e8⟩ := owns_form e9
          rw [e8] at e9
          clear hv f0
          simp only [List.map, putG, e8, Nat.zero_add, Nat.reduceAdd, List.setIfInBounds_toArray, List.set_cons_zero, List.set_cons_succ]
          obtain ⟨L2, hL2⟩ : ∃ L2, U ++ [u8of (x.kind), u8of (x.align), u8of (sectionSize x), u8of ((nf : Int))] = L2 := ⟨_, rfl⟩
          rw [hL2] at e9 ⊢
          have HO7 : Hid (OwnB u W.heap.size (.slice va L2.length vc) L2) := e9
          have HL2 : Hid (L2 = wr1 o (k + 1)) := by show _ = _; rw [HT.out, ← HL.out, HU.out]; exact hL2.symm
          have hl2 : L2.length ≤ 74 := by rw [HL2.out]; exact wr1_len HV.out _
          have HF7 := Lib.hid hS.1
          clear hS e9 e8 hL2
          go_wp2_with fail
          go_roundw
          case rel => exact ⟨k + 1, L2, va, vc, by omega, by go_num, rfl, hl2, HL2, HO7, HF7⟩
          case measure => simp [intOf]; try omega
      · obtain rfl : n1 = k := by omega
        go_wp2_with fail
        go_loopw [4, 7] (fun out i wr => ∃ (k : Nat) (L : List UInt8) (la : Option Addr) (lc : Nat), k ≤ n2 ∧ i = .int .i64 k ∧ out = .slice la L.length lc ∧ L.length ≤ 194 ∧ Hid (L = wr2 o k) ∧ Hid (OwnB wr W.heap.size (.slice la L.length lc) L) ∧ Hid (From W.heap.size W wr)) (fun _ i _ => n2 - (intOf i).toNat)
        case atStart => exact ⟨0, L, la, lc, Nat.zero_le _, rfl, rfl, by omega, by show _ = _; rw [wr2_zero, HN1.out]; exact HL.out, HO4, HF4⟩
        case round =>
          clear HO4 HF4 HL hU cb zb hlt hk HBl
          obtain ⟨k, L, la, lc, hk, rfl, rfl, hU, HL, HO4, HF4⟩ := hrel
          have HBl := Lib.hid (HFW.out.below.trans (HF4.out.below.mono HFW.out.le))
          have cb := (HBW.out.call HF4.out.below).cell
          have zb := (HBW.out.call HF4.out.below).lt
          by_cases hlt : k < n2
          · obtain ⟨b, off, rfl, hc⟩ := HD.out (by have := HN2.out; omega)
            obtain ⟨c0, c1, c2, c3⟩ := hc k (by rw [HN2.out]; exact hlt)
            have hbl : b < w.heap.size := World.block_lt_of_cell? w _ c0
            have g0 := (HBl.out.cell (p := ⟨b, off + k * 4, none⟩) hbl).trans c0
            have g1 := (HBl.out.cell (p := ⟨b, off + k * 4 + 1, none⟩) hbl).trans c1
            have g2 := (HBl.out.cell (p := ⟨b, off + k * 4 + 2, none⟩) hbl).trans c2
            have g3 := (HBl.out.cell (p := ⟨b, off + k * 4 + 3, none⟩) hbl).trans c3
            have i1 : (k : Int) < (n2 : Int) := by omega
            have i3 : (0 : Int) ≤ (k : Int) := by omega
            have hx0 := objB_sym HV.out (List.getElem_mem (l := o.syms) (by rw [HN2.out]; exact hlt))
            have HT := Lib.hid (wr2_step o k (by rw [HN2.out]; exact hlt))
            clear hc c0 c1 c2 c3
            generalize o.syms[k]'(by rw [HN2.out]; exact hlt) = x at *
            have hk1 : 0 ≤ x.bind ∧ x.bind ≤ 255 := by have := hx0.bind; omega
            have hk2 : 0 ≤ x.whr + 2 ∧ x.whr + 2 ≤ 255 := by have := hx0.whr; rw [HN1.out] at this; omega
            clear hx0
            go_wp2_with fail
            refine (s_PlaceOf _ _ T (HTB.out.below (Nat.le_refl _) (HF4.out.alloc _).below) x.name).mono ?_
            rintro e w4 ⟨rfl, rfl⟩
            rw [HTT.out] at HT
            obtain ⟨pl, hpl⟩ : ∃ pl, placeOf T (bytesS x.name) = pl := ⟨_, rfl⟩
            rw [hpl] at HT ⊢
            clear hpl
            go_wp2_with fail
            refine (s_PutNumber _ pl 2).mono ?_
            rintro e w5 ⟨r5, rfl, o5, k5⟩
            have HF5 := Lib.hid ((HF4.out.alloc (.cells #[.string x.name, .int .i64 x.bind, .int .i64 x.whr, .int .i64 x.val] 57)).call k5)
            have HX5 := Lib.hid ((Blk.new wr #[.string x.name, .int .i64 x.bind, .int .i64 x.whr, .int .i64 x.val] 57).call k5)
            have HO5 : Hid (OwnB w5 W.heap.size (.slice la L.length lc) L) := owns_call (World.ownsRow.alloc HO4.out _) k5
            obtain ⟨pa, pc, rfl⟩ := owns_form o5
            have hX1 := putNum_length pl 2
            obtain ⟨X1, hX1e⟩ : ∃ X1, putNum pl 2 = X1 := ⟨_, rfl⟩
            rw [hX1e] at o5 hX1 HT ⊢
            have HS5 := Lib.hid o5.reads
            clear o5 k5 HO4 HF4 hX1e
            go_wp2_with (at_builtin; refine wpList_append_src rfl (.tmp 79) (.tmp 84) 22 22 rfl W.heap.size 5 i0 (.int .u8 0) 1 1 Try.underlying22 hi hz0 hz1 hz2 rfl (by decide) _ _ _ rfl HO5.out _ _ _ rfl (src_reads Try.underlying22 HS5.out (bvs_one _)) ?c1 ?c2 ?c3 ?_)
            case c1 => unfold maxLen; omega
            case c2 => omega
            case c3 => exact From.le HF5.out
            intro v6 w6 hown hgr
            have hown6 : OwnB w6 W.heap.size v6 (L ++ X1) := ownB_app hown rfl rfl
            obtain ⟨oa, oc, rfl⟩ := owns_form hown6
            have HF6 := Lib.hid (From.grown (HF5.out) hgr (owns_block HO5.out))
            have HX6 := Lib.hid (Blk.grown (HX5.out) hgr (blk_apart (HX5.out) HO5.out (by decide)))
            obtain ⟨U, hU⟩ : ∃ U, L ++ X1 = U := ⟨_, rfl⟩
            rw [hU] at hown6 ⊢
            have HO6 := Lib.hid hown6
            have hUl : U.length ≤ 198 := by rw [← hU, List.length_append]; omega
            have HU := Lib.hid hU
            clear hown hown6 hgr hU HO5 HF5 HX5
            obtain ⟨X2, hX2⟩ : ∃ X2, putNum x.val 2 = X2 := ⟨_, rfl⟩
            have hX2l := putNum_length x.val 2
            rw [hX2] at HT hX2l
            have HX2 := Lib.hid hX2
            obtain ⟨M, hM0⟩ : ∃ M, w6.heap.size = M := ⟨_, rfl⟩
            have hM : M ≤ w6.heap.size := Nat.le_of_eq hM0.symm
            have hv0 : ∀ q, (Value.slice oa U.length oc).ownBlock = some q → q < M := fun q hq => by have := HO6.out.lt q hq; omega
            clear hM0 hX2
            go_wp2_with fail
            let f0 : Nat → Value := fun i => match i with
              | 0 => .slice oa U.length oc
              | 1 => .pointer (some ⟨wr.heap.size, 1, none⟩)
              | 2 => .int .i64 x.bind
              | 3 => .int .u8 (x.bind)
              | 4 => .pointer (some ⟨wr.heap.size, 2, none⟩)
              | 5 => .int .i64 x.whr
              | 6 => .int .i64 (x.whr + 2)
              | 7 => .int .u8 (x.whr + 2)
              | 10 => .pointer (some ⟨wr.heap.size, 3, none⟩)
              | 11 => .int .i64 x.val
              | _ => undef
            refine wp_region_get (fun i v u => (i = 8 → ∃ g, v = .slice (some ⟨g, 0, none⟩) 2 2 ∧ Blk u g #[.int .u8 (x.bind), .int .u8 (x.whr + 2)] 5) ∧ (i = 9 → OwnB u W.heap.size v (U ++ [u8of (x.bind), u8of (x.whr + 2)])) ∧ (i = 12 → OwnB u M v X2) ∧ (i = 13 → OwnB u W.heap.size v (U ++ [u8of (x.bind), u8of (x.whr + 2)] ++ X2)) ∧ (i = 14 → OwnB u W.heap.size v (U ++ [u8of (x.bind), u8of (x.whr + 2)] ++ X2)) ∧ (i ≠ 8 → i ≠ 9 → i ≠ 12 → i ≠ 13 → i ≠ 14 → v = f0 i)) (fun _ f u => From W.heap.size W u ∧ M ≤ u.heap.size ∧ Blk u wr.heap.size #[.string x.name, .int .i64 x.bind, .int .i64 x.whr, .int .i64 x.val] 57 ∧ (f 9 = false → OwnB u W.heap.size (.slice oa U.length oc) U)) [[], [], [1], [2], [], [4], [5], [6], [3, 7], [0, 8], [], [10], [11], [9, 12], [13]] [[], [], [1], [1, 2], [], [4], [4, 5], [4, 5, 6], [1, 2, 3, 4, 5, 6, 7], [0, 1, 2, 3, 4, 5, 6, 7, 8], [], [10], [10, 11], [0, 1, 2, 3, 4, 5, 6, 7, 8, 9, 10, 11, 12], [0, 1, 2, 3, 4, 5, 6, 7, 8, 9, 10, 11, 12, 13]] [14] (by kernel_rfl) (by kernel_rfl) (by kernel_rfl) (by kernel_rfl) (by kernel_rfl) ⟨From.drew HF6.out, hM, Blk.drew HX6.out, fun _ => World.ownsRow.drew HO6.out⟩ ?ho ?hq
            case ho =>
              refine ⟨?_, ?_, ?_, ?_, ?_, ?_, ?_, ?_, ?_, ?_, ?_, ?_, ?_, ?_, ?_, trivial⟩
              · intro n f A u K hfr hn hl hS hv hK
                have eA9 : A.tmps.getD 4 undef = .slice oa U.length oc := hfr 4 (late_dst (k := 14) (by kernel_rfl) (hl.2.2 14 (by decide)))
                have eB9 : (A.tmps[4]?).getD undef = .slice oa U.length oc := by simpa using eA9
                refine owe_run rfl (wp_val (v := .slice oa U.length oc) ?_ (hK _ _ ⟨hS.1, hS.2.1, hS.2.2.1, fun h => hS.2.2.2 (setl_off h)⟩ (fun _ _ _ h => h) (fun _ => ⟨fun e => absurd e (by decide), fun e => absurd e (by decide), fun e => absurd e (by decide), fun e => absurd e (by decide), fun e => absurd e (by decide), fun _ _ _ _ _ => rfl⟩)))
                first
                  | (go_simp; done)
                  | (go_simp; rfl)
              · intro n f A u K hfr hn hl hS hv hK
                have eA9 : A.tmps.getD 8 undef = .pointer (some ⟨wr.heap.size, 0, none⟩) := hfr 8 (no_dst (by kernel_rfl))
                have eB9 : (A.tmps[8]?).getD undef = .pointer (some ⟨wr.heap.size, 0, none⟩) := by simpa using eA9
                refine owe_run rfl (wp_val (v := .pointer (some ⟨wr.heap.size, 1, none⟩)) ?_ (hK _ _ ⟨hS.1, hS.2.1, hS.2.2.1, fun h => hS.2.2.2 (setl_off h)⟩ (fun _ _ _ h => h) (fun _ => ⟨fun e => absurd e (by decide), fun e => absurd e (by decide), fun e => absurd e (by decide), fun e => absurd e (by decide), fun e => absurd e (by decide), fun _ _ _ _ _ => rfl⟩)))
                first
                  | (go_simp; done)
                  | (go_simp; rfl)
              · intro n f A u K hfr hn hl hS hv hK
                have eA0 : A.tmps.getD 87 undef = .pointer (some ⟨wr.heap.size, 1, none⟩) := hv.1.2.2.2.2.2 (by decide) (by decide) (by decide) (by decide) (by decide)
                have eB0 : (A.tmps[87]?).getD undef = .pointer (some ⟨wr.heap.size, 1, none⟩) := by simpa using eA0
                have cu := Blk.cell (hS.2.2.1)
                refine owe_run rfl (wp_val (v := .int .i64 x.bind) ?_ (hK _ _ ⟨hS.1, hS.2.1, hS.2.2.1, fun h => hS.2.2.2 (setl_off h)⟩ (fun _ _ _ h => h) (fun _ => ⟨fun e => absurd e (by decide), fun e => absurd e (by decide), fun e => absurd e (by decide), fun e => absurd e (by decide), fun e => absurd e (by decide), fun _ _ _ _ _ => rfl⟩)))
                first
                  | (go_simp; done)
                  | (go_simp; rfl)
              · intro n f A u K hfr hn hl hS hv hK
                have eA0 : A.tmps.getD 88 undef = .int .i64 x.bind := hv.1.2.2.2.2.2 (by decide) (by decide) (by decide) (by decide) (by decide)
                have eB0 : (A.tmps[88]?).getD undef = .int .i64 x.bind := by simpa using eA0
                have ew : IntKind.u8.wrap (x.bind) = x.bind := IntWalk.u8_in _ hk1
                refine owe_run rfl (wp_val (v := .int .u8 (x.bind)) ?_ (hK _ _ ⟨hS.1, hS.2.1, hS.2.2.1, fun h => hS.2.2.2 (setl_off h)⟩ (fun _ _ _ h => h) (fun _ => ⟨fun e => absurd e (by decide), fun e => absurd e (by decide), fun e => absurd e (by decide), fun e => absurd e (by decide), fun e => absurd e (by decide), fun _ _ _ _ _ => rfl⟩)))
                first
                  | (go_simp; done)
                  | (go_simp; rfl)
              · intro n f A u K hfr hn hl hS hv hK
                have eA9 : A.tmps.getD 8 undef = .pointer (some ⟨wr.heap.size, 0, none⟩) := hfr 8 (no_dst (by kernel_rfl))
                have eB9 : (A.tmps[8]?).getD undef = .pointer (some ⟨wr.heap.size, 0, none⟩) := by simpa using eA9
                refine owe_run rfl (wp_val (v := .pointer (some ⟨wr.heap.size, 2, none⟩)) ?_ (hK _ _ ⟨hS.1, hS.2.1, hS.2.2.1, fun h => hS.2.2.2 (setl_off h)⟩ (fun _ _ _ h => h) (fun _ => ⟨fun e => absurd e (by decide), fun e => absurd e (by decide), fun e => absurd e (by decide), fun e => absurd e (by decide), fun e => absurd e (by decide), fun _ _ _ _ _ => rfl⟩)))
                first
                  | (go_simp; done)
                  | (go_simp; rfl)
              · intro n f A u K hfr hn hl hS hv hK
                have eA0 : A.tmps.getD 90 undef = .pointer (some ⟨wr.heap.size, 2, none⟩) := hv.1.2.2.2.2.2 (by decide) (by decide) (by decide) (by decide) (by decide)
                have eB0 : (A.tmps[90]?).getD undef = .pointer (some ⟨wr.heap.size, 2, none⟩) := by simpa using eA0
                have cu := Blk.cell (hS.2.2.1)
                refine owe_run rfl (wp_val (v := .int .i64 x.whr) ?_ (hK _ _ ⟨hS.1, hS.2.1, hS.2.2.1, fun h => hS.2.2.2 (setl_off h)⟩ (fun _ _ _ h => h) (fun _ => ⟨fun e => absurd e (by decide), fun e => absurd e (by decide), fun e => absurd e (by decide), fun e => absurd e (by decide), fun e => absurd e (by decide), fun _ _ _ _ _ => rfl⟩)))
                first
                  | (go_simp; done)
                  | (go_simp; rfl)
              · intro n f A u K hfr hn hl hS hv hK
                have eA0 : A.tmps.getD 91 undef = .int .i64 x.whr := hv.1.2.2.2.2.2 (by decide) (by decide) (by decide) (by decide) (by decide)
                have eB0 : (A.tmps[91]?).getD undef = .int .i64 x.whr := by simpa using eA0
                have ew : IntKind.i64.wrap (x.whr + 2) = x.whr + 2 := IntWalk.i64_in _ (by omega)
                refine owe_run rfl (wp_val (v := .int .i64 (x.whr + 2)) ?_ (hK _ _ ⟨hS.1, hS.2.1, hS.2.2.1, fun h => hS.2.2.2 (setl_off h)⟩ (fun _ _ _ h => h) (fun _ => ⟨fun e => absurd e (by decide), fun e => absurd e (by decide), fun e => absurd e (by decide), fun e => absurd e (by decide), fun e => absurd e (by decide), fun _ _ _ _ _ => rfl⟩)))
                first
                  | (go_simp; done)
                  | (go_simp; rfl)
              · intro n f A u K hfr hn hl hS hv hK
                have eA0 : A.tmps.getD 92 undef = .int .i64 (x.whr + 2) := hv.1.2.2.2.2.2 (by decide) (by decide) (by decide) (by decide) (by decide)
                have eB0 : (A.tmps[92]?).getD undef = .int .i64 (x.whr + 2) := by simpa using eA0
                have ew : IntKind.u8.wrap (x.whr + 2) = x.whr + 2 := IntWalk.u8_in _ hk2
                refine owe_run rfl (wp_val (v := .int .u8 (x.whr + 2)) ?_ (hK _ _ ⟨hS.1, hS.2.1, hS.2.2.1, fun h => hS.2.2.2 (setl_off h)⟩ (fun _ _ _ h => h) (fun _ => ⟨fun e => absurd e (by decide), fun e => absurd e (by decide), fun e => absurd e (by decide), fun e => absurd e (by decide), fun e => absurd e (by decide), fun _ _ _ _ _ => rfl⟩)))
                first
                  | (go_simp; done)
                  | (go_simp; rfl)
              · intro n f A u K hfr hn hl hS hv hK
                have eA0 : A.tmps.getD 89 undef = .int .u8 (x.bind) := hv.1.2.2.2.2.2 (by decide) (by decide) (by decide) (by decide) (by decide)
                have eB0 : (A.tmps[89]?).getD undef = .int .u8 (x.bind) := by simpa using eA0
                have eA1 : A.tmps.getD 93 undef = .int .u8 (x.whr + 2) := hv.2.1.2.2.2.2.2 (by decide) (by decide) (by decide) (by decide) (by decide)
                have eB1 : (A.tmps[93]?).getD undef = .int .u8 (x.whr + 2) := by simpa using eA1
                have k1 : Below u.heap.size u (u.alloc (.cells #[.int .u8 (x.bind), .int .u8 (x.whr + 2)] 5)) := ((From.start u).alloc _).below
                refine owe_run rfl (wp_val (v := .slice (some ⟨u.heap.size, 0, none⟩) 2 2) (w' := u.alloc (.cells #[.int .u8 (x.bind), .int .u8 (x.whr + 2)] 5)) ?_ (hK _ _ ⟨hS.1.call k1, Nat.le_trans (hS.2.1) k1.size, Blk.call (hS.2.2.1) k1, fun h => owns_call (hS.2.2.2 (setl_off h)) k1⟩ (fun j y _ h => ⟨fun e => (have ⟨g, e1, e2⟩ := (h.1 e); ⟨g, e1, Blk.call e2 k1⟩), fun e => owns_call (h.2.1 e) k1, fun e => owns_call (h.2.2.1 e) k1, fun e => owns_call (h.2.2.2.1 e) k1, fun e => owns_call (h.2.2.2.2.1 e) k1, h.2.2.2.2.2⟩) (fun _ => ⟨fun _ => ⟨_, rfl, Blk.new u _ _⟩, fun e => absurd e (by decide), fun e => absurd e (by decide), fun e => absurd e (by decide), fun e => absurd e (by decide), fun e8 e9 e12 e13 e14 => absurd rfl e8⟩)))
                first
                  | (go_simp; done)
                  | (go_simp; rfl)
              · intro n f A u K hfr hn hl hS hv hK
                have eA0 : A.tmps.getD 86 undef = .slice oa U.length oc := hv.1.2.2.2.2.2 (by decide) (by decide) (by decide) (by decide) (by decide)
                have eB0 : (A.tmps[86]?).getD undef = .slice oa U.length oc := by simpa using eA0
                have hown := hS.2.2.2 hl.1
                have eS : A.tmps.getD 86 undef = .slice oa U.length oc := eA0
                obtain ⟨g8, e8, hg8⟩ := hv.2.1.1 rfl
                refine step_append_src rfl (.tmp 86) (.tmp 94) 22 22 rfl (W.heap.size) 5 i0 (.int .u8 0) 1 1 Try.underlying22 hi hz0 hz1 hz2 rfl (by decide) (.slice oa U.length oc) _ _ eS hown _ 2 [.int .u8 (x.bind), .int .u8 (x.whr + 2)] e8 (src_blk Try.underlying22 u g8 [.int .u8 (x.bind), .int .u8 (x.whr + 2)] 1 2 2 5 hg8 rfl (by simp [Value.oneCell'])) (by unfold maxLen; omega) (by omega) (From.le hS.1) ?_
                intro v' w1 hown1 hgr1
                exact hK _ _ ⟨From.grown (hS.1) hgr1 (owns_block hown), Nat.le_trans (hS.2.1) hgr1.size, Blk.grown (hS.2.2.1) hgr1 (blk_apart (hS.2.2.1) hown (by decide)), fun h => (by rw [setl_at] at h; cases h)⟩ (fun j y hj h => ⟨fun e => by subst e; exact absurd hj (by decide), fun e => by subst e; exact absurd hj (by decide), fun e => World.ownsRow.kept (h.2.2.1 e) hgr1 (apart_of_lt (h.2.2.1 e) hv0), fun e => by subst e; exact absurd hj (by decide), fun e => by subst e; exact absurd hj (by decide), h.2.2.2.2.2⟩) (fun _ => ⟨fun e => absurd e (by decide), fun _ => ownB_app hown1 (by simp only [bvs, List.map_cons, List.map_nil, u8_val (hk1).1 (hk1).2, u8_val (hk2).1 (hk2).2]) rfl, fun e => absurd e (by decide), fun e => absurd e (by decide), fun e => absurd e (by decide), fun e8 e9 e12 e13 e14 => absurd rfl e9⟩)
              · intro n f A u K hfr hn hl hS hv hK
                have eA9 : A.tmps.getD 8 undef = .pointer (some ⟨wr.heap.size, 0, none⟩) := hfr 8 (no_dst (by kernel_rfl))
                have eB9 : (A.tmps[8]?).getD undef = .pointer (some ⟨wr.heap.size, 0, none⟩) := by simpa using eA9
                refine owe_run rfl (wp_val (v := .pointer (some ⟨wr.heap.size, 3, none⟩)) ?_ (hK _ _ ⟨hS.1, hS.2.1, hS.2.2.1, fun h => hS.2.2.2 (setl_off h)⟩ (fun _ _ _ h => h) (fun _ => ⟨fun e => absurd e (by decide), fun e => absurd e (by decide), fun e => absurd e (by decide), fun e => absurd e (by decide), fun e => absurd e (by decide), fun _ _ _ _ _ => rfl⟩)))
                first
                  | (go_simp; done)
                  | (go_simp; rfl)
              · intro n f A u K hfr hn hl hS hv hK
                have eA0 : A.tmps.getD 96 undef = .pointer (some ⟨wr.heap.size, 3, none⟩) := hv.1.2.2.2.2.2 (by decide) (by decide) (by decide) (by decide) (by decide)
                have eB0 : (A.tmps[96]?).getD undef = .pointer (some ⟨wr.heap.size, 3, none⟩) := by simpa using eA0
                have cu := Blk.cell (hS.2.2.1)
                refine owe_run rfl (wp_val (v := .int .i64 x.val) ?_ (hK _ _ ⟨hS.1, hS.2.1, hS.2.2.1, fun h => hS.2.2.2 (setl_off h)⟩ (fun _ _ _ h => h) (fun _ => ⟨fun e => absurd e (by decide), fun e => absurd e (by decide), fun e => absurd e (by decide), fun e => absurd e (by decide), fun e => absurd e (by decide), fun _ _ _ _ _ => rfl⟩)))
                first
                  | (go_simp; done)
                  | (go_simp; rfl)
              · intro n f A u K hfr hn hl hS hv hK
                have eA0 : A.tmps.getD 97 undef = .int .i64 x.val := hv.1.2.2.2.2.2 (by decide) (by decide) (by decide) (by decide) (by decide)
                have eB0 : (A.tmps[97]?).getD undef = .int .i64 x.val := by simpa using eA0
                refine owe_run rfl (wp_fn rfl (args2 eA0 rfl) (enter_fn Try.func31 (by kernel_rfl) rfl _ _) ((s_PutNumber u x.val 2).mono ?_))
                rw [HX2.out]
                rintro e u1 ⟨r5, rfl, o5, k1⟩
                exact ⟨_, rfl, hK _ _ ⟨hS.1.call k1, Nat.le_trans (hS.2.1) k1.size, Blk.call (hS.2.2.1) k1, fun h => owns_call (hS.2.2.2 (setl_off h)) k1⟩ (fun j y _ h => ⟨fun e => (have ⟨g, e1, e2⟩ := (h.1 e); ⟨g, e1, Blk.call e2 k1⟩), fun e => owns_call (h.2.1 e) k1, fun e => owns_call (h.2.2.1 e) k1, fun e => owns_call (h.2.2.2.1 e) k1, fun e => owns_call (h.2.2.2.2.1 e) k1, h.2.2.2.2.2⟩) (fun _ => ⟨fun e => absurd e (by decide), fun e => absurd e (by decide), fun _ => owns_mono o5 (hS.2.1), fun e => absurd e (by decide), fun e => absurd e (by decide), fun e8 e9 e12 e13 e14 => absurd rfl e12⟩)⟩
              · intro n f A u K hfr hn hl hS hv hK
                have hown := hv.1.2.1 rfl
                have hsrc := hv.2.1.2.2.1 rfl
                refine step_append_src rfl (.tmp 95) (.tmp 98) 22 22 rfl (W.heap.size) 5 i0 (.int .u8 0) 1 1 Try.underlying22 hi hz0 hz1 hz2 rfl (by decide) _ _ _ rfl hown _ _ _ rfl (src_reads Try.underlying22 hsrc.reads (bvs_one _)) (by unfold maxLen; simp only [List.length_append, List.length_cons, List.length_nil]; omega) (by simp only [List.length_append, List.length_cons, List.length_nil]; omega) (From.le hS.1) ?_
                intro v' w1 hown1 hgr1
                exact hK _ _ ⟨From.grown (hS.1) hgr1 (owns_block hown), Nat.le_trans (hS.2.1) hgr1.size, Blk.grown (hS.2.2.1) hgr1 (blk_apart (hS.2.2.1) hown (by decide)), fun h => (by rw [setl_ne (by decide), hl.2.1 9 (by decide)] at h; cases h)⟩ (fun j y hj h => ⟨fun e => by subst e; exact absurd hj (by decide), fun e => by subst e; exact absurd hj (by decide), fun e => by subst e; exact absurd hj (by decide), fun e => by subst e; exact absurd hj (by decide), fun e => by subst e; exact absurd hj (by decide), h.2.2.2.2.2⟩) (fun _ => ⟨fun e => absurd e (by decide), fun e => absurd e (by decide), fun e => absurd e (by decide), fun _ => ownB_app (U := U ++ [u8of (x.bind), u8of (x.whr + 2)]) hown1 rfl rfl, fun e => absurd e (by decide), fun e8 e9 e12 e13 e14 => absurd rfl e13⟩)
              · intro n f A u K hfr hn hl hS hv hK
                have e7 := hv.1.2.2.2.1 rfl
                refine owe_run rfl (wp_val (v := A.tmps.getD 99 undef) ?_ (hK _ _ ⟨hS.1, hS.2.1, hS.2.2.1, fun h => hS.2.2.2 (setl_off h)⟩ (fun _ _ _ h => h) (fun _ => ⟨fun e => absurd e (by decide), fun e => absurd e (by decide), fun e => absurd e (by decide), fun e => absurd e (by decide), fun _ => e7, fun e8 e9 e12 e13 e14 => absurd rfl e14⟩)))
                first
                  | (go_simp; done)
                  | (go_simp; rfl)
            case hq =>
              intro g u hS hv
              have e9 := (hv.2.2.2.2.2.2.2.2.2.2.2.2.2.2.1 (by decide)).2.2.2.2.1 rfl
              obtain ⟨va, vc, e8⟩ := owns_form e9
              rw [e8] at e9
              clear hv f0
              simp only [List.map, putG, e8, Nat.zero_add, Nat.reduceAdd, List.setIfInBounds_toArray, List.set_cons_zero, List.set_cons_succ]
              obtain ⟨L2, hL2⟩ : ∃ L2, U ++ [u8of (x.bind), u8of (x.whr + 2)] ++ X2 = L2 := ⟨_, rfl⟩
              rw [hL2] at e9 ⊢
              have HO7 : Hid (OwnB u W.heap.size (.slice va L2.length vc) L2) := e9
              have HL2 : Hid (L2 = wr2 o (k + 1)) := by show _ = _; rw [HT.out, ← HL.out, HU.out]; exact hL2.symm
              have hl2 : L2.length ≤ 194 := by rw [HL2.out]; exact wr2_len HV.out _
              have HF7 := Lib.hid hS.1
              clear hS e9 e8 hL2
              go_wp2_with fail
              go_roundw
              case rel => exact ⟨k + 1, L2, va, vc, by omega, by go_num, rfl, hl2, HL2, HO7, HF7⟩
              case measure => simp [intOf]; try omega
          · obtain rfl : n2 = k := by omega
            go_wp2_with fail
            go_loopw [4, 9] (fun out i wr => ∃ (k : Nat) (L : List UInt8) (la : Option Addr) (lc : Nat), k ≤ n1 ∧ i = .int .i64 k ∧ out = .slice la L.length lc ∧ L.length ≤ 530 ∧ Hid (L = wr3 o k) ∧ Hid (OwnB wr W.heap.size (.slice la L.length lc) L) ∧ Hid (From W.heap.size W wr)) (fun _ i _ => n1 - (intOf i).toNat)
            case atStart => exact ⟨0, L, la, lc, Nat.zero_le _, rfl, rfl, by omega, by show _ = _; rw [wr3_zero, HN2.out]; exact HL.out, HO4, HF4⟩
            case round =>
              clear HO4 HF4 HL hU cb zb hlt hk HBl
              obtain ⟨k, L, la, lc, hk, rfl, rfl, hU, HL, HO4, HF4⟩ := hrel
              have HBl := Lib.hid (HFW.out.below.trans (HF4.out.below.mono HFW.out.le))
              have cb := (HBW.out.call HF4.out.below).cell
              have zb := (HBW.out.call HF4.out.below).lt
              by_cases hlt : k < n1
              · obtain ⟨b, off, rfl, hc⟩ := HC.out (by have := HN1.out; omega)
                obtain ⟨vb, vf, hb, hf, c0, c1, c2, c3, c4, c5⟩ := hc k (by rw [HN1.out]; exact hlt)
                obtain ⟨ba, bc, rfl, -, hbm, -⟩ := hb.form
                obtain ⟨fa, fc, rfl, -, hfm, -, hfc⟩ := hf.form
                have hbl : b < w.heap.size := World.block_lt_of_cell? w _ c0
                have g0 := (HBl.out.cell (p := ⟨b, off + k * 6, none⟩) hbl).trans c0
                have g1 := (HBl.out.cell (p := ⟨b, off + k * 6 + 1, none⟩) hbl).trans c1
                have g2 := (HBl.out.cell (p := ⟨b, off + k * 6 + 2, none⟩) hbl).trans c2
                have g3 := (HBl.out.cell (p := ⟨b, off + k * 6 + 3, none⟩) hbl).trans c3
                have g4 := (HBl.out.cell (p := ⟨b, off + k * 6 + 4, none⟩) hbl).trans c4
                have g5 := (HBl.out.cell (p := ⟨b, off + k * 6 + 5, none⟩) hbl).trans c5
                have i1 : (k : Int) < (n1 : Int) := by omega
                have i3 : (0 : Int) ≤ (k : Int) := by omega
                have hx0 := objB_sec HV.out (List.getElem_mem (l := o.secs) (by rw [HN1.out]; exact hlt))
                have HT := Lib.hid (wr3_step o k (by rw [HN1.out]; exact hlt))
                have HBY := Lib.hid (hb.below (Nat.le_refl _) HFW.out.below)
                have HFY := Lib.hid (hf.below (Nat.le_refl _) HFW.out.below)
                have HFC := Lib.hid hfc
                have HC5 := Lib.hid c5
                clear hc c0 c1 c2 c3 c4 c5 hb hf hfc
                generalize o.secs[k]'(by rw [HN1.out]; exact hlt) = x at *
                have hk1 : 0 ≤ x.kind ∧ x.kind ≤ 255 := by have := hx0.kind; omega
                have hk2 := align_le hx0.align
                have hk3 : 0 ≤ sectionSize x ∧ sectionSize x ≤ 255 := by have := hx0.sectionSize; omega
                have hnfl := hx0.fixl
                have hnbl := hx0.bytes
                have HX0 := Lib.hid hx0
                clear hx0
                obtain ⟨nb, hnb⟩ : ∃ nb, x.bytes.length = nb := ⟨_, rfl⟩
                obtain ⟨nf, hnf⟩ : ∃ nf, x.fix.length = nf := ⟨_, rfl⟩
                have HNB := Lib.hid hnb
                have HNF := Lib.hid hnf
                rw [hnb] at hnbl g3
                rw [hnf] at hnfl g5 HC5 HFY HT
                have hk4 : 0 ≤ (nf : Int) ∧ (nf : Int) ≤ 255 := by omega
                rw [hnb] at HBY
                have HX : Hid (SecAt W (.agg #[.string x.name, .int .i64 x.kind, .int .i64 x.align, .slice ba nb bc, .int .i64 x.size, .slice fa nf fc]) x) := ⟨_, _, rfl, HBY.out, HFY.out⟩
                clear hnb hnf HFY
                go_wp2_with fail
                go_loopw [4, 10] (fun out i wr => ∃ (j : Nat) (L : List UInt8) (la : Option Addr) (lc : Nat), j ≤ nf ∧ i = .int .i64 j ∧ out = .slice la L.length lc ∧ L.length ≤ 572 ∧ Hid (L = wr3j o k x.fix j) ∧ Hid (OwnB wr W.heap.size (.slice la L.length lc) L) ∧ Hid (From W.heap.size W wr)) (fun _ i _ => nf - (intOf i).toNat)
                case atStart => exact ⟨0, L, la, lc, Nat.zero_le _, rfl, rfl, by omega, by show _ = _; rw [wr3j_zero]; exact HL.out, HO4, HF4⟩
                case round =>
                  clear HO4 HF4 HL hU cb zb HBl g0 g1 g2 g3 g4 g5
                  obtain ⟨j, L, la, lc, hj, rfl, rfl, hU, HL, HO4, HF4⟩ := hrel
                  have HBl := Lib.hid (HFW.out.below.trans (HF4.out.below.mono HFW.out.le))
                  have cb := (HBW.out.call HF4.out.below).cell
                  have zb := (HBW.out.call HF4.out.below).lt
                  have g5 := (HBl.out.cell (p := ⟨b, off + k * 6 + 5, none⟩) hbl).trans HC5.out
                  by_cases hltj : j < nf
                  · obtain ⟨b2, off2, rfl, hc2⟩ := HFC.out (by have := HNF.out; omega)
                    obtain ⟨d0, d1, d2, d3⟩ := hc2 j (by have := HNF.out; omega)
                    have hbl2 : b2 < w.heap.size := World.block_lt_of_cell? w _ d0
                    have q0 := (HBl.out.cell (p := ⟨b2, off2 + j * 4, none⟩) hbl2).trans d0
                    have q1 := (HBl.out.cell (p := ⟨b2, off2 + j * 4 + 1, none⟩) hbl2).trans d1
                    have q2 := (HBl.out.cell (p := ⟨b2, off2 + j * 4 + 2, none⟩) hbl2).trans d2
                    have q3 := (HBl.out.cell (p := ⟨b2, off2 + j * 4 + 3, none⟩) hbl2).trans d3
                    have j1 : (j : Int) < (nf : Int) := by omega
                    have j3 : (0 : Int) ≤ (j : Int) := by omega
                    have hy0 := HX0.out.fix _ (List.getElem_mem (l := x.fix) (by rw [HNF.out]; exact hltj))
                    have HTJ := Lib.hid (wr3j_step o k x.fix j (by rw [HNF.out]; exact hltj))
                    clear hc2 d0 d1 d2 d3
                    generalize x.fix[j]'(by rw [HNF.out]; exact hltj) = y at *
                    have hk1 : 0 ≤ y.1 ∧ y.1 ≤ 255 := by have := hy0.at_; omega
                    have hk2 : 0 ≤ y.2.1 ∧ y.2.1 ≤ 255 := by have := hy0.kind; omega
                    have hk3 : 0 ≤ y.2.2.1 ∧ y.2.2.1 ≤ 255 := by have := hy0.to; rw [HN2.out] at this; omega
                    have hk4 : -1000 ≤ y.2.2.2 ∧ y.2.2.2 ≤ 1000 := hy0.add
                    clear hy0
                    obtain ⟨X2, hX2⟩ : ∃ X2, putNum (y.2.2.2 + 1000) 2 = X2 := ⟨_, rfl⟩
                    have hX2l := putNum_length (y.2.2.2 + 1000) 2
                    rw [hX2] at HTJ hX2l
                    have HX2 := Lib.hid hX2
                    have HF6 := Lib.hid (HF4.out.alloc (.cells #[.int .i64 y.1, .int .i64 y.2.1, .int .i64 y.2.2.1, .int .i64 y.2.2.2] 59))
                    have HX6 := Lib.hid (Blk.new wr #[.int .i64 y.1, .int .i64 y.2.1, .int .i64 y.2.2.1, .int .i64 y.2.2.2] 59)
                    have HO6 : Hid (OwnB (wr.alloc (.cells #[.int .i64 y.1, .int .i64 y.2.1, .int .i64 y.2.2.1, .int .i64 y.2.2.2] 59)) W.heap.size (.slice la L.length lc) L) := World.ownsRow.alloc HO4.out _
                    obtain ⟨M, hM0⟩ : ∃ M, (wr.alloc (.cells #[.int .i64 y.1, .int .i64 y.2.1, .int .i64 y.2.2.1, .int .i64 y.2.2.2] 59)).heap.size = M := ⟨_, rfl⟩
                    have hM : M ≤ (wr.alloc (.cells #[.int .i64 y.1, .int .i64 y.2.1, .int .i64 y.2.2.1, .int .i64 y.2.2.2] 59)).heap.size := Nat.le_of_eq hM0.symm
                    have hv0 : ∀ q, (Value.slice la L.length lc).ownBlock = some q → q < M := fun q hq => by have := HO6.out.lt q hq; omega
                    clear hM0 hX2
                    go_wp2_with fail
                    let f0 : Nat → Value := fun i => match i with
                      | 0 => .slice la L.length lc
                      | 1 => .pointer (some ⟨wr.heap.size, 0, none⟩)
                      | 2 => .int .i64 y.1
                      | 3 => .int .u8 (y.1)
                      | 4 => .pointer (some ⟨wr.heap.size, 1, none⟩)
                      | 5 => .int .i64 y.2.1
                      | 6 => .int .u8 (y.2.1)
                      | 7 => .pointer (some ⟨wr.heap.size, 2, none⟩)
                      | 8 => .int .i64 y.2.2.1
                      | 9 => .int .u8 (y.2.2.1)
                      | 12 => .pointer (some ⟨wr.heap.size, 3, none⟩)
                      | 13 => .int .i64 y.2.2.2
                      | 14 => .int .i64 (y.2.2.2 + 1000)
                      | _ => undef
                    refine wp_region_get (fun i v u => (i = 10 → ∃ g, v = .slice (some ⟨g, 0, none⟩) 3 3 ∧ Blk u g #[.int .u8 (y.1), .int .u8 (y.2.1), .int .u8 (y.2.2.1)] 5) ∧ (i = 11 → OwnB u W.heap.size v (L ++ [u8of (y.1), u8of (y.2.1), u8of (y.2.2.1)])) ∧ (i = 15 → OwnB u M v X2) ∧ (i = 16 → OwnB u W.heap.size v (L ++ [u8of (y.1), u8of (y.2.1), u8of (y.2.2.1)] ++ X2)) ∧ (i = 17 → OwnB u W.heap.size v (L ++ [u8of (y.1), u8of (y.2.1), u8of (y.2.2.1)] ++ X2)) ∧ (i ≠ 10 → i ≠ 11 → i ≠ 15 → i ≠ 16 → i ≠ 17 → v = f0 i)) (fun _ f u => From W.heap.size W u ∧ M ≤ u.heap.size ∧ Blk u wr.heap.size #[.int .i64 y.1, .int .i64 y.2.1, .int .i64 y.2.2.1, .int .i64 y.2.2.2] 59 ∧ (f 11 = false → OwnB u W.heap.size (.slice la L.length lc) L)) [[], [], [1], [2], [], [4], [5], [], [7], [8], [3, 6, 9], [0, 10], [], [12], [13], [14], [11, 15], [16]] [[], [], [1], [1, 2], [], [4], [4, 5], [], [7], [7, 8], [1, 2, 3, 4, 5, 6, 7, 8, 9], [0, 1, 2, 3, 4, 5, 6, 7, 8, 9, 10], [], [12], [12, 13], [12, 13, 14], [0, 1, 2, 3, 4, 5, 6, 7, 8, 9, 10, 11, 12, 13, 14, 15], [0, 1, 2, 3, 4, 5, 6, 7, 8, 9, 10, 11, 12, 13, 14, 15, 16]] [17] (by kernel_rfl) (by kernel_rfl) (by kernel_rfl) (by kernel_rfl) (by kernel_rfl) ⟨From.drew HF6.out, hM, Blk.drew HX6.out, fun _ => World.ownsRow.drew HO6.out⟩ ?ho ?hq
                    case ho =>
                      refine ⟨?_, ?_, ?_, ?_, ?_, ?_, ?_, ?_, ?_, ?_, ?_, ?_, ?_, ?_, ?_, ?_, ?_, ?_, trivial⟩
                      · intro n f A u K hfr hn hl hS hv hK
                        have eA9 : A.tmps.getD 4 undef = .slice la L.length lc := hfr 4 (late_dst (k := 17) (by kernel_rfl) (hl.2.2 17 (by decide)))
                        have eB9 : (A.tmps[4]?).getD undef = .slice la L.length lc := by simpa using eA9
                        refine owe_run rfl (wp_val (v := .slice la L.length lc) ?_ (hK _ _ ⟨hS.1, hS.2.1, hS.2.2.1, fun h => hS.2.2.2 (setl_off h)⟩ (fun _ _ _ h => h) (fun _ => ⟨fun e => absurd e (by decide), fun e => absurd e (by decide), fun e => absurd e (by decide), fun e => absurd e (by decide), fun e => absurd e (by decide), fun _ _ _ _ _ => rfl⟩)))
                        first
                          | (go_simp; done)
                          | (go_simp; rfl)
                      · intro n f A u K hfr hn hl hS hv hK
                        have eA9 : A.tmps.getD 11 undef = .pointer (some ⟨wr.heap.size, 0, none⟩) := hfr 11 (no_dst (by kernel_rfl))
                        have eB9 : (A.tmps[11]?).getD undef = .pointer (some ⟨wr.heap.size, 0, none⟩) := by simpa using eA9
                        refine owe_run rfl (wp_val (v := .pointer (some ⟨wr.heap.size, 0, none⟩)) ?_ (hK _ _ ⟨hS.1, hS.2.1, hS.2.2.1, fun h => hS.2.2.2 (setl_off h)⟩ (fun _ _ _ h => h) (fun _ => ⟨fun e => absurd e (by decide), fun e => absurd e (by decide), fun e => absurd e (by decide), fun e => absurd e (by decide), fun e => absurd e (by decide), fun _ _ _ _ _ => rfl⟩)))
                        first
                          | (go_simp; done)
                          | (go_simp; rfl)
                      · intro n f A u K hfr hn hl hS hv hK
                        have eA0 : A.tmps.getD 128 undef = .pointer (some ⟨wr.heap.size, 0, none⟩) := hv.1.2.2.2.2.2 (by decide) (by decide) (by decide) (by decide) (by decide)
                        have eB0 : (A.tmps[128]?).getD undef = .pointer (some ⟨wr.heap.size, 0, none⟩) := by simpa using eA0
                        have cu := Blk.cell (hS.2.2.1)
                        refine owe_run rfl (wp_val (v := .int .i64 y.1) ?_ (hK _ _ ⟨hS.1, hS.2.1, hS.2.2.1, fun h => hS.2.2.2 (setl_off h)⟩ (fun _ _ _ h => h) (fun _ => ⟨fun e => absurd e (by decide), fun e => absurd e (by decide), fun e => absurd e (by decide), fun e => absurd e (by decide), fun e => absurd e (by decide), fun _ _ _ _ _ => rfl⟩)))
                        first
                          | (go_simp; done)
                          | (go_simp; rfl)
                      · intro n f A u K hfr hn hl hS hv hK
                        have eA0 : A.tmps.getD 129 undef = .int .i64 y.1 := hv.1.2.2.2.2.2 (by decide) (by decide) (by decide) (by decide) (by decide)
                        have eB0 : (A.tmps[129]?).getD undef = .int .i64 y.1 := by simpa using eA0
                        have ew : IntKind.u8.wrap (y.1) = y.1 := IntWalk.u8_in _ hk1
                        refine owe_run rfl (wp_val (v := .int .u8 (y.1)) ?_ (hK _ _ ⟨hS.1, hS.2.1, hS.2.2.1, fun h => hS.2.2.2 (setl_off h)⟩ (fun _ _ _ h => h) (fun _ => ⟨fun e => absurd e (by decide), fun e => absurd e (by decide), fun e => absurd e (by decide), fun e => absurd e (by decide), fun e => absurd e (by decide), fun _ _ _ _ _ => rfl⟩)))
                        first
                          | (go_simp; done)
                          | (go_simp; rfl)
                      · intro n f A u K hfr hn hl hS hv hK
                        have eA9 : A.tmps.getD 11 undef = .pointer (some ⟨wr.heap.size, 0, none⟩) := hfr 11 (no_dst (by kernel_rfl))
                        have eB9 : (A.tmps[11]?).getD undef = .pointer (some ⟨wr.heap.size, 0, none⟩) := by simpa using eA9
                        refine owe_run rfl (wp_val (v := .pointer (some ⟨wr.heap.size, 1, none⟩)) ?_ (hK _ _ ⟨hS.1, hS.2.1, hS.2.2.1, fun h => hS.2.2.2 (setl_off h)⟩ (fun _ _ _ h => h) (fun _ => ⟨fun e => absurd e (by decide), fun e => absurd e (by decide), fun e => absurd e (by decide), fun e => absurd e (by decide), fun e => absurd e (by decide), fun _ _ _ _ _ => rfl⟩)))
                        first
                          | (go_simp; done)
                          | (go_simp; rfl)
                      · intro n f A u K hfr hn hl hS hv hK
                        have eA0 : A.tmps.getD 131 undef = .pointer (some ⟨wr.heap.size, 1, none⟩) := hv.1.2.2.2.2.2 (by decide) (by decide) (by decide) (by decide) (by decide)
                        have eB0 : (A.tmps[131]?).getD undef = .pointer (some ⟨wr.heap.size, 1, none⟩) := by simpa using eA0
                        have cu := Blk.cell (hS.2.2.1)
                        refine owe_run rfl (wp_val (v := .int .i64 y.2.1) ?_ (hK _ _ ⟨hS.1, hS.2.1, hS.2.2.1, fun h => hS.2.2.2 (setl_off h)⟩ (fun _ _ _ h => h) (fun _ => ⟨fun e => absurd e (by decide), fun e => absurd e (by decide), fun e => absurd e (by decide), fun e => absurd e (by decide), fun e => absurd e (by decide), fun _ _ _ _ _ => rfl⟩)))
                        first
                          | (go_simp; done)
                          | (go_simp; rfl)
                      · intro n f A u K hfr hn hl hS hv hK
                        have eA0 : A.tmps.getD 132 undef = .int .i64 y.2.1 := hv.1.2.2.2.2.2 (by decide) (by decide) (by decide) (by decide) (by decide)
                        have eB0 : (A.tmps[132]?).getD undef = .int .i64 y.2.1 := by simpa using eA0
                        have ew : IntKind.u8.wrap (y.2.1) = y.2.1 := IntWalk.u8_in _ hk2
                        refine owe_run rfl (wp_val (v := .int .u8 (y.2.1)) ?_ (hK _ _ ⟨hS.1, hS.2.1, hS.2.2.1, fun h => hS.2.2.2 (setl_off h)⟩ (fun _ _ _ h => h) (fun _ => ⟨fun e => absurd e (by decide), fun e => absurd e (by decide), fun e => absurd e (by decide), fun e => absurd e (by decide), fun e => absurd e (by decide), fun _ _ _ _ _ => rfl⟩)))
                        first
                          | (go_simp; done)
                          | (go_simp; rfl)
                      · intro n f A u K hfr hn hl hS hv hK
                        have eA9 : A.tmps.getD 11 undef = .pointer (some ⟨wr.heap.size, 0, none⟩) := hfr 11 (no_dst (by kernel_rfl))
                        have eB9 : (A.tmps[11]?).getD undef = .pointer (some ⟨wr.heap.size, 0, none⟩) := by simpa using eA9
                        refine owe_run rfl (wp_val (v := .pointer (some ⟨wr.heap.size, 2, none⟩)) ?_ (hK _ _ ⟨hS.1, hS.2.1, hS.2.2.1, fun h => hS.2.2.2 (setl_off h)⟩ (fun _ _ _ h => h) (fun _ => ⟨fun e => absurd e (by decide), fun e => absurd e (by decide), fun e => absurd e (by decide), fun e => absurd e (by decide), fun e => absurd e (by decide), fun _ _ _ _ _ => rfl⟩)))
                        first
                          | (go_simp; done)
                          | (go_simp; rfl)
                      · intro n f A u K hfr hn hl hS hv hK
                        have eA0 : A.tmps.getD 134 undef = .pointer (some ⟨wr.heap.size, 2, none⟩) := hv.1.2.2.2.2.2 (by decide) (by decide) (by decide) (by decide) (by decide)
                        have eB0 : (A.tmps[134]?).getD undef = .pointer (some ⟨wr.heap.size, 2, none⟩) := by simpa using eA0
                        have cu := Blk.cell (hS.2.2.1)
                        refine owe_run rfl (wp_val (v := .int .i64 y.2.2.1) ?_ (hK _ _ ⟨hS.1, hS.2.1, hS.2.2.1, fun h => hS.2.2.2 (setl_off h)⟩ (fun _ _ _ h => h) (fun _ => ⟨fun e => absurd e (by decide), fun e => absurd e (by decide), fun e => absurd e (by decide), fun e => absurd e (by decide), fun e => absurd e (by decide), fun _ _ _ _ _ => rfl⟩)))
                        first
                          | (go_simp; done)
                          | (go_simp; rfl)
                      · intro n f A u K hfr hn hl hS hv hK
                        have eA0 : A.tmps.getD 135 undef = .int .i64 y.2.2.1 := hv.1.2.2.2.2.2 (by decide) (by decide) (by decide) (by decide) (by decide)
                        have eB0 : (A.tmps[135]?).getD undef = .int .i64 y.2.2.1 := by simpa using eA0
                        have ew : IntKind.u8.wrap (y.2.2.1) = y.2.2.1 := IntWalk.u8_in _ hk3
                        refine owe_run rfl (wp_val (v := .int .u8 (y.2.2.1)) ?_ (hK _ _ ⟨hS.1, hS.2.1, hS.2.2.1, fun h => hS.2.2.2 (setl_off h)⟩ (fun _ _ _ h => h) (fun _ => ⟨fun e => absurd e (by decide), fun e => absurd e (by decide), fun e => absurd e (by decide), fun e => absurd e (by decide), fun e => absurd e (by decide), fun _ _ _ _ _ => rfl⟩)))
                        first
                          | (go_simp; done)
                          | (go_simp; rfl)
                      · intro n f A u K hfr hn hl hS hv hK
                        have eA0 : A.tmps.getD 130 undef = .int .u8 (y.1) := hv.1.2.2.2.2.2 (by decide) (by decide) (by decide) (by decide) (by decide)
                        have eB0 : (A.tmps[130]?).getD undef = .int .u8 (y.1) := by simpa using eA0
                        have eA1 : A.tmps.getD 133 undef = .int .u8 (y.2.1) := hv.2.1.2.2.2.2.2 (by decide) (by decide) (by decide) (by decide) (by decide)
                        have eB1 : (A.tmps[133]?).getD undef = .int .u8 (y.2.1) := by simpa using eA1
                        have eA2 : A.tmps.getD 136 undef = .int .u8 (y.2.2.1) := hv.2.2.1.2.2.2.2.2 (by decide) (by decide) (by decide) (by decide) (by decide)
                        have eB2 : (A.tmps[136]?).getD undef = .int .u8 (y.2.2.1) := by simpa using eA2
                        have k1 : Below u.heap.size u (u.alloc (.cells #[.int .u8 (y.1), .int .u8 (y.2.1), .int .u8 (y.2.2.1)] 5)) := ((From.start u).alloc _).below
                        refine owe_run rfl (wp_val (v := .slice (some ⟨u.heap.size, 0, none⟩) 3 3) (w' := u.alloc (.cells #[.int .u8 (y.1), .int .u8 (y.2.1), .int .u8 (y.2.2.1)] 5)) ?_ (hK _ _ ⟨hS.1.call k1, Nat.le_trans (hS.2.1) k1.size, Blk.call (hS.2.2.1) k1, fun h => owns_call (hS.2.2.2 (setl_off h)) k1⟩ (fun j y _ h => ⟨fun e => (have ⟨g, e1, e2⟩ := (h.1 e); ⟨g, e1, Blk.call e2 k1⟩), fun e => owns_call (h.2.1 e) k1, fun e => owns_call (h.2.2.1 e) k1, fun e => owns_call (h.2.2.2.1 e) k1, fun e => owns_call (h.2.2.2.2.1 e) k1, h.2.2.2.2.2⟩) (fun _ => ⟨fun _ => ⟨_, rfl, Blk.new u _ _⟩, fun e => absurd e (by decide), fun e => absurd e (by decide), fun e => absurd e (by decide), fun e => absurd e (by decide), fun e10 e11 e15 e16 e17 => absurd rfl e10⟩)))
                        first
                          | (go_simp; done)
                          | (go_simp; rfl)
                      · intro n f A u K hfr hn hl hS hv hK
                        have eA0 : A.tmps.getD 127 undef = .slice la L.length lc := hv.1.2.2.2.2.2 (by decide) (by decide) (by decide) (by decide) (by decide)
                        have eB0 : (A.tmps[127]?).getD undef = .slice la L.length lc := by simpa using eA0
                        have hown := hS.2.2.2 hl.1
                        have eS : A.tmps.getD 127 undef = .slice la L.length lc := eA0
                        obtain ⟨g8, e8, hg8⟩ := hv.2.1.1 rfl
                        refine step_append_src rfl (.tmp 127) (.tmp 137) 22 22 rfl (W.heap.size) 5 i0 (.int .u8 0) 1 1 Try.underlying22 hi hz0 hz1 hz2 rfl (by decide) (.slice la L.length lc) _ _ eS hown _ 3 [.int .u8 (y.1), .int .u8 (y.2.1), .int .u8 (y.2.2.1)] e8 (src_blk Try.underlying22 u g8 [.int .u8 (y.1), .int .u8 (y.2.1), .int .u8 (y.2.2.1)] 1 3 3 5 hg8 rfl (by simp [Value.oneCell'])) (by unfold maxLen; omega) (by omega) (From.le hS.1) ?_
                        intro v' w1 hown1 hgr1
                        exact hK _ _ ⟨From.grown (hS.1) hgr1 (owns_block hown), Nat.le_trans (hS.2.1) hgr1.size, Blk.grown (hS.2.2.1) hgr1 (blk_apart (hS.2.2.1) hown (by decide)), fun h => (by rw [setl_at] at h; cases h)⟩ (fun j y hj h => ⟨fun e => by subst e; exact absurd hj (by decide), fun e => by subst e; exact absurd hj (by decide), fun e => World.ownsRow.kept (h.2.2.1 e) hgr1 (apart_of_lt (h.2.2.1 e) hv0), fun e => by subst e; exact absurd hj (by decide), fun e => by subst e; exact absurd hj (by decide), h.2.2.2.2.2⟩) (fun _ => ⟨fun e => absurd e (by decide), fun _ => ownB_app hown1 (by simp only [bvs, List.map_cons, List.map_nil, u8_val (hk1).1 (hk1).2, u8_val (hk2).1 (hk2).2, u8_val (hk3).1 (hk3).2]) rfl, fun e => absurd e (by decide), fun e => absurd e (by decide), fun e => absurd e (by decide), fun e10 e11 e15 e16 e17 => absurd rfl e11⟩)
                      · intro n f A u K hfr hn hl hS hv hK
                        have eA9 : A.tmps.getD 11 undef = .pointer (some ⟨wr.heap.size, 0, none⟩) := hfr 11 (no_dst (by kernel_rfl))
                        have eB9 : (A.tmps[11]?).getD undef = .pointer (some ⟨wr.heap.size, 0, none⟩) := by simpa using eA9
                        refine owe_run rfl (wp_val (v := .pointer (some ⟨wr.heap.size, 3, none⟩)) ?_ (hK _ _ ⟨hS.1, hS.2.1, hS.2.2.1, fun h => hS.2.2.2 (setl_off h)⟩ (fun _ _ _ h => h) (fun _ => ⟨fun e => absurd e (by decide), fun e => absurd e (by decide), fun e => absurd e (by decide), fun e => absurd e (by decide), fun e => absurd e (by decide), fun _ _ _ _ _ => rfl⟩)))
                        first
                          | (go_simp; done)
                          | (go_simp; rfl)
                      · intro n f A u K hfr hn hl hS hv hK
                        have eA0 : A.tmps.getD 139 undef = .pointer (some ⟨wr.heap.size, 3, none⟩) := hv.1.2.2.2.2.2 (by decide) (by decide) (by decide) (by decide) (by decide)
                        have eB0 : (A.tmps[139]?).getD undef = .pointer (some ⟨wr.heap.size, 3, none⟩) := by simpa using eA0
                        have cu := Blk.cell (hS.2.2.1)
                        refine owe_run rfl (wp_val (v := .int .i64 y.2.2.2) ?_ (hK _ _ ⟨hS.1, hS.2.1, hS.2.2.1, fun h => hS.2.2.2 (setl_off h)⟩ (fun _ _ _ h => h) (fun _ => ⟨fun e => absurd e (by decide), fun e => absurd e (by decide), fun e => absurd e (by decide), fun e => absurd e (by decide), fun e => absurd e (by decide), fun _ _ _ _ _ => rfl⟩)))
                        first
                          | (go_simp; done)
                          | (go_simp; rfl)
                      · intro n f A u K hfr hn hl hS hv hK
                        have eA0 : A.tmps.getD 140 undef = .int .i64 y.2.2.2 := hv.1.2.2.2.2.2 (by decide) (by decide) (by decide) (by decide) (by decide)
                        have eB0 : (A.tmps[140]?).getD undef = .int .i64 y.2.2.2 := by simpa using eA0
                        have ew : IntKind.i64.wrap (y.2.2.2 + 1000) = y.2.2.2 + 1000 := IntWalk.i64_in _ (by omega)
                        refine owe_run rfl (wp_val (v := .int .i64 (y.2.2.2 + 1000)) ?_ (hK _ _ ⟨hS.1, hS.2.1, hS.2.2.1, fun h => hS.2.2.2 (setl_off h)⟩ (fun _ _ _ h => h) (fun _ => ⟨fun e => absurd e (by decide), fun e => absurd e (by decide), fun e => absurd e (by decide), fun e => absurd e (by decide), fun e => absurd e (by decide), fun _ _ _ _ _ => rfl⟩)))
                        first
                          | (go_simp; done)
                          | (go_simp; rfl)
                      · intro n f A u K hfr hn hl hS hv hK
                        have eA0 : A.tmps.getD 141 undef = .int .i64 (y.2.2.2 + 1000) := hv.1.2.2.2.2.2 (by decide) (by decide) (by decide) (by decide) (by decide)
                        have eB0 : (A.tmps[141]?).getD undef = .int .i64 (y.2.2.2 + 1000) := by simpa using eA0
                        refine owe_run rfl (wp_fn rfl (args2 eA0 rfl) (enter_fn Try.func31 (by kernel_rfl) rfl _ _) ((s_PutNumber u (y.2.2.2 + 1000) 2).mono ?_))
                        rw [HX2.out]
                        rintro e u1 ⟨r5, rfl, o5, k1⟩
                        exact ⟨_, rfl, hK _ _ ⟨hS.1.call k1, Nat.le_trans (hS.2.1) k1.size, Blk.call (hS.2.2.1) k1, fun h => owns_call (hS.2.2.2 (setl_off h)) k1⟩ (fun j y _ h => ⟨fun e => (have ⟨g, e1, e2⟩ := (h.1 e); ⟨g, e1, Blk.call e2 k1⟩), fun e => owns_call (h.2.1 e) k1, fun e => owns_call (h.2.2.1 e) k1, fun e => owns_call (h.2.2.2.1 e) k1, fun e => owns_call (h.2.2.2.2.1 e) k1, h.2.2.2.2.2⟩) (fun _ => ⟨fun e => absurd e (by decide), fun e => absurd e (by decide), fun _ => owns_mono o5 (hS.2.1), fun e => absurd e (by decide), fun e => absurd e (by decide), fun e10 e11 e15 e16 e17 => absurd rfl e15⟩)⟩
                      · intro n f A u K hfr hn hl hS hv hK
                        have hown := hv.1.2.1 rfl
                        have hsrc := hv.2.1.2.2.1 rfl
                        refine step_append_src rfl (.tmp 138) (.tmp 142) 22 22 rfl (W.heap.size) 5 i0 (.int .u8 0) 1 1 Try.underlying22 hi hz0 hz1 hz2 rfl (by decide) _ _ _ rfl hown _ _ _ rfl (src_reads Try.underlying22 hsrc.reads (bvs_one _)) (by unfold maxLen; simp only [List.length_append, List.length_cons, List.length_nil]; omega) (by simp only [List.length_append, List.length_cons, List.length_nil]; omega) (From.le hS.1) ?_
                        intro v' w1 hown1 hgr1
                        exact hK _ _ ⟨From.grown (hS.1) hgr1 (owns_block hown), Nat.le_trans (hS.2.1) hgr1.size, Blk.grown (hS.2.2.1) hgr1 (blk_apart (hS.2.2.1) hown (by decide)), fun h => (by rw [setl_ne (by decide), hl.2.1 11 (by decide)] at h; cases h)⟩ (fun j y hj h => ⟨fun e => by subst e; exact absurd hj (by decide), fun e => by subst e; exact absurd hj (by decide), fun e => by subst e; exact absurd hj (by decide), fun e => by subst e; exact absurd hj (by decide), fun e => by subst e; exact absurd hj (by decide), h.2.2.2.2.2⟩) (fun _ => ⟨fun e => absurd e (by decide), fun e => absurd e (by decide), fun e => absurd e (by decide), fun _ => ownB_app (U := L ++ [u8of (y.1), u8of (y.2.1), u8of (y.2.2.1)]) hown1 rfl rfl, fun e => absurd e (by decide), fun e10 e11 e15 e16 e17 => absurd rfl e16⟩)
                      · intro n f A u K hfr hn hl hS hv hK
                        have e7 := hv.1.2.2.2.1 rfl
                        refine owe_run rfl (wp_val (v := A.tmps.getD 143 undef) ?_ (hK _ _ ⟨hS.1, hS.2.1, hS.2.2.1, fun h => hS.2.2.2 (setl_off h)⟩ (fun _ _ _ h => h) (fun _ => ⟨fun e => absurd e (by decide), fun e => absurd e (by decide), fun e => absurd e (by decide), fun e => absurd e (by decide), fun _ => e7, fun e10 e11 e15 e16 e17 => absurd rfl e17⟩)))
                        first
                          | (go_simp; done)
                          | (go_simp; rfl)
                    case hq =>
                      intro g u hS hv
                      have e9 := (hv.2.2.2.2.2.2.2.2.2.2.2.2.2.2.2.2.2.1 (by decide)).2.2.2.2.1 rfl
                      obtain ⟨va, vc, e8⟩ := owns_form e9
                      rw [e8] at e9
                      clear hv f0
                      simp only [List.map, putG, e8, Nat.zero_add, Nat.reduceAdd, List.setIfInBounds_toArray, List.set_cons_zero, List.set_cons_succ]
                      obtain ⟨L2, hL2⟩ : ∃ L2, L ++ [u8of (y.1), u8of (y.2.1), u8of (y.2.2.1)] ++ X2 = L2 := ⟨_, rfl⟩
                      rw [hL2] at e9 ⊢
                      have HO7 : Hid (OwnB u W.heap.size (.slice va L2.length vc) L2) := e9
                      have HL2 : Hid (L2 = wr3j o k x.fix (j + 1)) := by show _ = _; rw [HTJ.out, ← HL.out]; exact hL2.symm
                      have hl2 : L2.length ≤ 572 := by rw [HL2.out]; exact wr3j_len HV.out _ _ HX0.out.fixl _
                      have HF7 := Lib.hid hS.1
                      clear hS e9 e8 hL2
                      go_wp2_with fail
                      go_roundw
                      case rel => exact ⟨j + 1, L2, va, vc, by omega, by go_num, rfl, hl2, HL2, HO7, HF7⟩
                      case measure => simp [intOf]; try omega
                  · obtain rfl : nf = j := by omega
                    have HL2 : Hid (L = wr3 o (k + 1)) := by show _ = _; rw [HT.out]; exact HL.out
                    have hl2 : L.length ≤ 530 := by rw [HL2.out]; exact wr3_len HV.out _
                    go_wp2_with fail
                    go_roundw
                    case rel => exact ⟨k + 1, L, la, lc, by omega, by go_num, rfl, hl2, HL2, HO4, HF4⟩
                    case measure => simp [intOf]; try omega
              · obtain rfl : n1 = k := by omega
                have htt : T.length ≤ 361 := by rw [HTL.out]; omega
                go_wp2_with (at_builtin; refine wpList_append_src rfl (.tmp 144) (.tmp 145) 22 22 rfl W.heap.size 5 i0 (.int .u8 0) 1 1 Try.underlying22 hi hz0 hz1 hz2 rfl (by decide) _ _ _ rfl HO4.out _ _ _ rfl (src_reads Try.underlying22 (HTB.out.below (Nat.le_refl _) HF4.out.below) (bvs_one _)) ?c1 ?c2 ?c3 ?_)
                case c1 => unfold maxLen; omega
                case c2 => omega
                case c3 => exact From.le HF4.out
                intro v6 w6 hown hgr
                have hown6 : OwnB w6 W.heap.size v6 (L ++ T) := ownB_app hown rfl rfl
                obtain ⟨oa, oc, rfl⟩ := owns_form hown6
                have HF6 := Lib.hid (From.grown (HF4.out) hgr (owns_block HO4.out))
                obtain ⟨U, hU⟩ : ∃ U, L ++ T = U := ⟨_, rfl⟩
                rw [hU] at hown6 ⊢
                have HO6 := Lib.hid hown6
                have hUl : U.length ≤ 891 := by rw [← hU, List.length_append]; omega
                have HU := Lib.hid hU
                clear hown hown6 hgr hU HO4 HF4
                clear cb zb
                have cb := (HBW.out.call HF6.out.below).cell
                have zb := (HBW.out.call HF6.out.below).lt
                go_wp2_with fail
                go_loopw [4, 12] (fun out i wr => ∃ (k : Nat) (L : List UInt8) (la : Option Addr) (lc : Nat), k ≤ n1 ∧ i = .int .i64 k ∧ out = .slice la L.length lc ∧ L.length ≤ 1275 ∧ Hid (L = wr4 o k) ∧ Hid (OwnB wr W.heap.size (.slice la L.length lc) L) ∧ Hid (From W.heap.size W wr)) (fun _ i _ => n1 - (intOf i).toNat)
                case atStart => exact ⟨0, U, oa, oc, Nat.zero_le _, rfl, rfl, by omega, by show _ = _; rw [wr4_zero, HN1.out, HTT.out, ← HL.out]; exact HU.out.symm, HO6, HF6⟩
                case round =>
                  clear HO6 HF6 HL HU hUl hU cb zb hlt hk HBl
                  obtain ⟨k, L, la, lc, hk, rfl, rfl, hU, HL, HO4, HF4⟩ := hrel
                  have HBl := Lib.hid (HFW.out.below.trans (HF4.out.below.mono HFW.out.le))
                  have cb := (HBW.out.call HF4.out.below).cell
                  have zb := (HBW.out.call HF4.out.below).lt
                  by_cases hlt : k < n1
                  · obtain ⟨b, off, rfl, hc⟩ := HC.out (by have := HN1.out; omega)
                    obtain ⟨vb, vf, hb, hf, c0, c1, c2, c3, c4, c5⟩ := hc k (by rw [HN1.out]; exact hlt)
                    obtain ⟨ba, bc, rfl, -, hbm, -⟩ := hb.form
                    obtain ⟨fa, fc, rfl, -, hfm, -, hfc⟩ := hf.form
                    have hbl : b < w.heap.size := World.block_lt_of_cell? w _ c0
                    have g0 := (HBl.out.cell (p := ⟨b, off + k * 6, none⟩) hbl).trans c0
                    have g1 := (HBl.out.cell (p := ⟨b, off + k * 6 + 1, none⟩) hbl).trans c1
                    have g2 := (HBl.out.cell (p := ⟨b, off + k * 6 + 2, none⟩) hbl).trans c2
                    have g3 := (HBl.out.cell (p := ⟨b, off + k * 6 + 3, none⟩) hbl).trans c3
                    have g4 := (HBl.out.cell (p := ⟨b, off + k * 6 + 4, none⟩) hbl).trans c4
                    have g5 := (HBl.out.cell (p := ⟨b, off + k * 6 + 5, none⟩) hbl).trans c5
                    have i1 : (k : Int) < (n1 : Int) := by omega
                    have i3 : (0 : Int) ≤ (k : Int) := by omega
                    have hx0 := objB_sec HV.out (List.getElem_mem (l := o.secs) (by rw [HN1.out]; exact hlt))
                    have HT := Lib.hid (wr4_step o k (by rw [HN1.out]; exact hlt))
                    have HBY := Lib.hid (hb.below (Nat.le_refl _) HFW.out.below)
                    have HFY := Lib.hid (hf.below (Nat.le_refl _) HFW.out.below)
                    have HFC := Lib.hid hfc
                    have HC5 := Lib.hid c5
                    clear hc c0 c1 c2 c3 c4 c5 hb hf hfc
                    generalize o.secs[k]'(by rw [HN1.out]; exact hlt) = x at *
                    have hk1 : 0 ≤ x.kind ∧ x.kind ≤ 255 := by have := hx0.kind; omega
                    have hk2 := align_le hx0.align
                    have hk3 : 0 ≤ sectionSize x ∧ sectionSize x ≤ 255 := by have := hx0.sectionSize; omega
                    have hnfl := hx0.fixl
                    have hnbl := hx0.bytes
                    have HX0 := Lib.hid hx0
                    clear hx0
                    obtain ⟨nb, hnb⟩ : ∃ nb, x.bytes.length = nb := ⟨_, rfl⟩
                    obtain ⟨nf, hnf⟩ : ∃ nf, x.fix.length = nf := ⟨_, rfl⟩
                    have HNB := Lib.hid hnb
                    have HNF := Lib.hid hnf
                    rw [hnb] at hnbl g3
                    rw [hnf] at hnfl g5 HC5 HFY
                    have hk4 : 0 ≤ (nf : Int) ∧ (nf : Int) ≤ 255 := by omega
                    rw [hnb] at HBY
                    have HX : Hid (SecAt W (.agg #[.string x.name, .int .i64 x.kind, .int .i64 x.align, .slice ba nb bc, .int .i64 x.size, .slice fa nf fc]) x) := ⟨_, _, rfl, HBY.out, HFY.out⟩
                    clear hnb hnf HFY
                    have hnb2 : x.bytes.length ≤ 48 := by rw [HNB.out]; omega
                    go_wp2_with (at_builtin; refine wpList_append_src rfl (.tmp 154) (.tmp 160) 22 22 rfl W.heap.size 5 i0 (.int .u8 0) 1 1 Try.underlying22 hi hz0 hz1 hz2 rfl (by decide) _ _ _ rfl HO4.out _ _ _ rfl (src_reads Try.underlying22 (HBY.out.below (Nat.le_refl _) (HF4.out).below) (bvs_one _)) ?c1 ?c2 ?c3 ?_)
                    case c1 => unfold maxLen; omega
                    case c2 => omega
                    case c3 => exact From.le (HF4.out)
                    intro v6 w6 hown hgr
                    have hown6 : OwnB w6 W.heap.size v6 (L ++ x.bytes) := ownB_app hown rfl rfl
                    obtain ⟨va, vc, rfl⟩ := owns_form hown6
                    have HF6 := Lib.hid (From.grown ((HF4.out)) hgr (owns_block HO4.out))
                    obtain ⟨L2, hL2⟩ : ∃ L2, L ++ x.bytes = L2 := ⟨_, rfl⟩
                    rw [hL2] at hown6 ⊢
                    have HO6 := Lib.hid hown6
                    have hL2l : L2.length ≤ 1400 := by rw [← hL2, List.length_append]; omega
                    have HL2 := Lib.hid hL2
                    clear hown hown6 hgr hL2 HO4 HF4
                    have HL2 : Hid (L2 = wr4 o (k + 1)) := by show _ = _; rw [HT.out, ← HL.out]; exact HL2.out.symm
                    have hl2 : L2.length ≤ 1275 := by rw [HL2.out]; exact wr4_len HV.out _
                    clear hL2l HT HL
                    go_wp2_with fail
                    go_roundw
                    case rel => exact ⟨k + 1, L2, va, vc, by omega, by go_num, rfl, hl2, HL2, HO6, HF6⟩
                    case measure => simp [intOf]; try omega
                  · obtain rfl : n1 = k := by omega
                    go_wp2_with fail
                    go_ret
                    exact ⟨_, rfl, by rw [EW.out, ← HL.out]; exact owns_mono HO4.out HFW.out.le, HBl.out⟩
end Go.Proofs.Ytkefbhidfbnipaa
