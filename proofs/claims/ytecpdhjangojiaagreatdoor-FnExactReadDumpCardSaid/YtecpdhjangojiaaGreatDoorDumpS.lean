/- Objects dumped: the reference's function. -/
import Derived.Test.YtecpdhjangojiaaGreatDoorDumpI
namespace Go.Proofs.YtecpdhjangojiaaGreatDoor
open Go.ChangeShapes Go.WideShapes Go.ChangeAt Go.RowKit Go.Joins
set_option linter.unusedSimpArgs false
set_option linter.unusedVariables false
set_option maxRecDepth 100000
set_option maxHeartbeats 8000000 in
theorem s_DumpObject (w : World) (v : Value) (o : ObjD) (h : ObjAt w v o) (hs : (∀ s ∈ o.secs, s.name.size ≤ maxLen) ∧ ∀ s ∈ o.syms, s.name.size ≤ maxLen) :
    Calls Tryz.prog 20 #[v] w (RetL w (dumpL o)) := by
  obtain ⟨j0, hj0, ja0, ja1, ja2⟩ := info_parts info_str
  have HO := Lib.hid h
  have HN0 := Lib.hid hs
  obtain ⟨vs, vy, rfl, h1, h2⟩ := h
  obtain ⟨sa, sc, rfl, hcap, hmax, -, hcell⟩ := h1.form
  obtain ⟨ya, yc, rfl, hcap2, hmax2, -, hcell2⟩ := h2.form
  have HC := Lib.hid hcell
  have HD := Lib.hid hcell2
  clear h1 h2 hcell hcell2 hs
  unfold maxLen at hmax hmax2
  obtain ⟨n1, hn1⟩ : ∃ n1, o.secs.length = n1 := ⟨_, rfl⟩
  obtain ⟨n2, hn2⟩ : ∃ n2, o.syms.length = n2 := ⟨_, rfl⟩
  have HN1 := Lib.hid hn1
  have HN2 := Lib.hid hn2
  rw [hn1] at hcap HO ⊢
  rw [hn2] at hcap2 HO ⊢
  clear hn1 hn2
  obtain ⟨ob, hob⟩ : ∃ ob, objB o = ob := ⟨_, rfl⟩
  have HOV : Hid (∀ u, Below w.heap.size w u → Calls Tryz.prog 31 #[.agg #[.slice sa n1 sc, .slice ya n2 yc]] u fun e w' => e = .returned (.bool ob) ∧ Below u.heap.size u w') := fun u hu => by
    rw [← hob]
    exact s_ObjectValid u _ o (HO.out.below (Nat.le_refl _) hu) HN0.out
  have HV := Lib.hid hob
  clear hob
  go_enter Tryz.func20, Tryz.ntmps20
  go_wp2_with fail
  have HF2 := Lib.hid (((From.start w).alloc (.cells #[.slice sa n1 sc, .slice ya n2 yc] 28)).alloc (.cells #[] 9))
  have HB2 := Lib.hid ((Blk.new w #[.slice sa n1 sc, .slice ya n2 yc] 28).alloc (.cells #[] 9))
  have hl1 : OwnS (w.alloc (.cells #[.slice sa n1 sc, .slice ya n2 yc] 28) |>.alloc (.cells #[] 9)) (w.heap.size + 1) (.slice (some ⟨w.heap.size + 1, 0, none⟩) 0 0) [] := by
    have h9 := World.ownsRow_lit (w.alloc (.cells #[.slice sa n1 sc, .slice ya n2 yc] 28)) #[] (e := 9) (size := 1) (base := w.heap.size + 1) 0 (by simp) (Nat.zero_le _) rfl
    unfold OwnS
    simpa [svs] using h9
  have HL2 := Lib.hid hl1
  clear hl1
  generalize hw2 : (w.alloc (.cells #[.slice sa n1 sc, .slice ya n2 yc] 28)).alloc (.cells #[] 9) = w2 at *
  clear hw2
  cases ob with
  | false =>
    have ED : Hid (dumpL o = []) := by show _ = _; unfold dumpL; rw [HV.out]; rfl
    go_loopw [3, 4] (fun s i wr => ∃ k : Nat, s = .slice (some ⟨w.heap.size + 1, 0, none⟩) 0 0 ∧ i = .int .i64 (k : Int) ∧ k ≤ n1 ∧ Hid (k = 0) ∧ Hid (OwnS wr (w.heap.size + 1) (.slice (some ⟨w.heap.size + 1, 0, none⟩) 0 0) ([])) ∧ Hid (Blk wr w.heap.size #[.slice sa n1 sc, .slice ya n2 yc] 28) ∧ Hid (From w.heap.size w wr)) (fun _ i _ => 0)
    case atStart => exact ⟨0, rfl, rfl, Nat.zero_le _, rfl, HL2, HB2, HF2⟩
    case round =>
      clear HL2 HB2 HF2
      obtain ⟨k1, rfl, rfl, hk1, HK1, HL, HB, HF⟩ := hrel
      have cB := HB.out.cell
      have zB := HB.out.lt
      by_cases hn1 : k1 < n1
      · have i1 : (k1 : Int) < (n1 : Int) := by omega
        go_wp2_with fail
        refine (HOV.out wr HF.out.below).mono ?_
        rintro e w3 ⟨rfl, k3⟩
        have HL := Lib.hid (owns_call HL.out k3)
        have HB := Lib.hid (HB.out.call k3)
        have HF := Lib.hid (HF.out.call k3)
        clear k3 cB zB
        go_wp2_with fail
        go_loopw [3, 9] (fun s i wr => ∃ k : Nat, s = .slice (some ⟨w.heap.size + 1, 0, none⟩) 0 0 ∧ i = .int .i64 (k : Int) ∧ k ≤ n2 ∧ Hid (k = 0) ∧ Hid (OwnS wr (w.heap.size + 1) (.slice (some ⟨w.heap.size + 1, 0, none⟩) 0 0) ([])) ∧ Hid (Blk wr w.heap.size #[.slice sa n1 sc, .slice ya n2 yc] 28) ∧ Hid (From w.heap.size w wr)) (fun _ i _ => 0)
        case atStart => exact ⟨0, rfl, rfl, Nat.zero_le _, rfl, HL, HB, HF⟩
        case round =>
          clear HL HB HF
          obtain ⟨k2, rfl, rfl, hk2, HK2, HL, HB, HF⟩ := hrel
          have cB := HB.out.cell
          have zB := HB.out.lt
          by_cases hn2 : k2 < n2
          · have i2 : (k2 : Int) < (n2 : Int) := by omega
            go_wp2_with fail
            refine (HOV.out wr HF.out.below).mono ?_
            rintro e w4 ⟨rfl, k4⟩
            have HL := Lib.hid (owns_call HL.out k4)
            have HF := Lib.hid (HF.out.call k4)
            clear k4 cB zB HB
            go_wp2_with fail
            go_ret
            exact ⟨_, rfl, by rw [ED.out]; exact owns_mono HL.out (Nat.le_succ _), HF.out.below⟩
          · obtain rfl : n2 = k2 := by omega
            clear hn2
            go_wp2_with fail
            go_ret
            exact ⟨_, rfl, by rw [ED.out]; exact owns_mono HL.out (Nat.le_succ _), HF.out.below⟩
      · obtain rfl : n1 = k1 := by omega
        clear hn1
        go_wp2_with fail
        clear cB zB
        go_loopw [3, 9] (fun s i wr => ∃ k : Nat, s = .slice (some ⟨w.heap.size + 1, 0, none⟩) 0 0 ∧ i = .int .i64 (k : Int) ∧ k ≤ n2 ∧ Hid (k = 0) ∧ Hid (OwnS wr (w.heap.size + 1) (.slice (some ⟨w.heap.size + 1, 0, none⟩) 0 0) ([])) ∧ Hid (Blk wr w.heap.size #[.slice sa n1 sc, .slice ya n2 yc] 28) ∧ Hid (From w.heap.size w wr)) (fun _ i _ => 0)
        case atStart => exact ⟨0, rfl, rfl, Nat.zero_le _, rfl, HL, HB, HF⟩
        case round =>
          clear HL HB HF
          obtain ⟨k2, rfl, rfl, hk2, HK2, HL, HB, HF⟩ := hrel
          have cB := HB.out.cell
          have zB := HB.out.lt
          by_cases hn2 : k2 < n2
          · have i2 : (k2 : Int) < (n2 : Int) := by omega
            go_wp2_with fail
            refine (HOV.out wr HF.out.below).mono ?_
            rintro e w4 ⟨rfl, k4⟩
            have HL := Lib.hid (owns_call HL.out k4)
            have HF := Lib.hid (HF.out.call k4)
            clear k4 cB zB HB
            go_wp2_with fail
            go_ret
            exact ⟨_, rfl, by rw [ED.out]; exact owns_mono HL.out (Nat.le_succ _), HF.out.below⟩
          · obtain rfl : n2 = k2 := by omega
            clear hn2
            go_wp2_with fail
            go_ret
            exact ⟨_, rfl, by rw [ED.out]; exact owns_mono HL.out (Nat.le_succ _), HF.out.below⟩
  | true =>
    have hf1 := (objB_few8 HV.out).1
    have hf2 := (objB_few8 HV.out).2
    rw [HN1.out] at hf1
    rw [HN2.out] at hf2
    have ED : Hid (dumpL o = o.secs.flatMap secDump ++ o.syms.map symLine) := by show _ = _; unfold dumpL; rw [HV.out, if_pos rfl]
    have HTL : Hid (∀ k, ((o.secs.take k).flatMap secDump).length ≤ 56) := dumpT_len o HV.out
    go_loopw [3, 4] (fun s i wr => ∃ k : Nat, k ≤ n1 ∧ i = .int .i64 (k : Int) ∧ Hid (OwnS wr (w.heap.size + 1) s (((o.secs.take k).flatMap secDump).map txt)) ∧ Hid (Blk wr w.heap.size #[.slice sa n1 sc, .slice ya n2 yc] 28) ∧ Hid (From w.heap.size w wr)) (fun _ i _ => n1 - (intOf i).toNat)
    case atStart => exact ⟨0, Nat.zero_le _, rfl, HL2, HB2, HF2⟩
    case round =>
      clear HL2 HB2 HF2
      obtain ⟨w0, rfl⟩ : ∃ w0, w0 = wr := ⟨_, rfl⟩
      obtain ⟨k, hk, rfl, HL, HB, HF⟩ := hrel
      have cB := HB.out.cell
      have zB := HB.out.lt
      by_cases hlt : k < n1
      · have i1 : (k : Int) < (n1 : Int) := by omega
        have i3 : (0 : Int) ≤ (k : Int) := by omega
        go_wp2_with fail
        refine (HOV.out w0 HF.out.below).mono ?_
        rintro e w3 ⟨rfl, k3⟩
        have HL := Lib.hid (owns_call HL.out k3)
        have HB := Lib.hid (HB.out.call k3)
        have HF := Lib.hid (HF.out.call k3)
        clear k3 cB zB
        have cB := HB.out.cell
        have zB := HB.out.lt
        have hlt' : k < o.secs.length := by have := HN1.out; omega
        obtain ⟨b, off, rfl, hc⟩ := HC.out (by omega)
        obtain ⟨vb, vf, hb, hf, c0, c1, c2, c3, c4, c5⟩ := hc k hlt'
        have hbl : b < w.heap.size := World.block_lt_of_cell? w _ c0
        have g0 := (HF.out.below.cell (p := ⟨b, off + k * 6, none⟩) hbl).trans c0
        have g1 := (HF.out.below.cell (p := ⟨b, off + k * 6 + 1, none⟩) hbl).trans c1
        have g2 := (HF.out.below.cell (p := ⟨b, off + k * 6 + 2, none⟩) hbl).trans c2
        have g3 := (HF.out.below.cell (p := ⟨b, off + k * 6 + 3, none⟩) hbl).trans c3
        have g4 := (HF.out.below.cell (p := ⟨b, off + k * 6 + 4, none⟩) hbl).trans c4
        have g5 := (HF.out.below.cell (p := ⟨b, off + k * 6 + 5, none⟩) hbl).trans c5
        obtain ⟨ba, bc, rfl, -⟩ := hb.form
        obtain ⟨fa, fc, rfl, -⟩ := hf.form
        have HBy0 := Lib.hid hb
        have HFi0 := Lib.hid hf
        have HX := Lib.hid (objB_sec HV.out (List.getElem_mem hlt') : SecOk o.secs[k] o.syms.length)
        have HTK2 : Hid ((o.secs.take k).flatMap secDump ++ [secLine o.secs[k]] ++ o.secs[k].fix.map fixLine = (o.secs.take (k + 1)).flatMap secDump) := by
          show _ = _
          rw [List.take_succ_eq_append_getElem hlt', List.flatMap_append, List.flatMap_singleton]
          unfold secDump
          simp
        have hdl := HTL.out k
        clear hc c0 c1 c2 c3 c4 c5 hb hf
        generalize (o.secs.take k).flatMap secDump = D0 at *
        generalize o.secs[k] = x at *
        have hbl1 := HX.out.bytes
        have hfl1 := HX.out.fixl
        obtain ⟨nb, hnb⟩ : ∃ nb, x.bytes.length = nb := ⟨_, rfl⟩
        obtain ⟨nf, hnf⟩ : ∃ nf, x.fix.length = nf := ⟨_, rfl⟩
        rw [hnb] at g3 HBy0 hbl1
        rw [hnf] at g5 HFi0 hfl1
        have HNB := Lib.hid hnb
        have HNF := Lib.hid hnf
        clear hnb hnf
        obtain ⟨X, hX⟩ : ∃ X, w3.heap.size = X := ⟨_, rfl⟩
        go_wp2_with fail

        have HBX := Lib.hid (Blk.newAt w3 #[.string x.name, .int .i64 x.kind, .int .i64 x.align, .slice ba nb bc, .int .i64 x.size, .slice fa nf fc] 52 X hX.symm)
        have HFX := Lib.hid ((From.start w3).alloc (.cells #[.string x.name, .int .i64 x.kind, .int .i64 x.align, .slice ba nb bc, .int .i64 x.size, .slice fa nf fc] 52))
        have HL := Lib.hid (owns_call HL.out HFX.out.below)
        have HB := Lib.hid (HB.out.call HFX.out.below)
        have HF := Lib.hid (HF.out.call HFX.out.below)
        try simp only [hX]
        generalize hwx : w3.alloc (.cells #[.string x.name, .int .i64 x.kind, .int .i64 x.align, .slice ba nb bc, .int .i64 x.size, .slice fa nf fc] 52) = wx at *
        clear hwx HFX g0 g1 g2 g3 g4 g5 cB zB
        have HBw : Hid (BytesAt wx (.slice ba nb bc) x.bytes) := HBy0.out.below (Nat.le_refl _) HF.out.below
        have HFw : Hid (FixAt wx (.slice fa nf fc) x.fix) := HFi0.out.below (Nat.le_refl _) HF.out.below
        clear HBy0
        obtain ⟨ssz, hssz⟩ : ∃ z, sectionSize x = z := ⟨_, rfl⟩
        have HSZ := Lib.hid hssz
        have hsx : Hid (∀ u, Below wx.heap.size wx u → SecAt u (.agg #[.string x.name, .int .i64 x.kind, .int .i64 x.align, .slice ba nb bc, .int .i64 x.size, .slice fa nf fc]) x) := fun u hu => ⟨_, _, rfl, HBw.out.below (Nat.le_refl _) hu, HFw.out.below (Nat.le_refl _) hu⟩
        obtain ⟨l0, hl0⟩ : ∃ l0, secLine0 x = l0 := ⟨_, rfl⟩
        have HL0 := Lib.hid hl0
        have hl0l := secLine0_len HX.out
        rw [hl0] at hl0l
        have hk1 := HX.out.kind
        have ha1 := (alignB_iff _).1 HX.out.align
        have hz1 := secSize_ok HX.out
        rw [hssz] at hz1
        have hnm1 := nameB_pos HX.out.name
        clear hssz
        obtain ⟨q1, hq1⟩ : ∃ q, Lib.itoa x.kind = q := ⟨_, rfl⟩
        obtain ⟨q2, hq2⟩ : ∃ q, Lib.itoa x.align = q := ⟨_, rfl⟩
        obtain ⟨q3, hq3⟩ : ∃ q, Lib.itoa ssz = q := ⟨_, rfl⟩
        have t1 := itoa_small (n := x.kind) (by omega) (by omega)
        have t2 := itoa_small (n := x.align) (by omega) (by omega)
        have t3 := itoa_small (n := ssz) (by omega) (by omega)
        rw [hq1] at t1
        rw [hq2] at t2
        rw [hq3] at t3
        have HQ1 := Lib.hid hq1
        have HQ2 := Lib.hid hq2
        have HQ3 := Lib.hid hq3
        obtain ⟨p1, hp1⟩ : ∃ p, secT ++ [32] ++ bytesS x.name = p := ⟨_, rfl⟩
        have e1 : p1.length ≤ 16 := by rw [← hp1]; simp only [List.length_append, List.length_cons, List.length_nil]; omega
        obtain ⟨p2, hp2⟩ : ∃ p, p1 ++ [32] = p := ⟨_, rfl⟩
        have e2 : p2.length ≤ 17 := by rw [← hp2]; simp only [List.length_append, List.length_cons, List.length_nil]; omega
        obtain ⟨p3, hp3⟩ : ∃ p, p2 ++ q1 = p := ⟨_, rfl⟩
        have e3 : p3.length ≤ 38 := by rw [← hp3]; simp only [List.length_append, List.length_cons, List.length_nil]; omega
        obtain ⟨p4, hp4⟩ : ∃ p, p3 ++ [32] = p := ⟨_, rfl⟩
        have e4 : p4.length ≤ 39 := by rw [← hp4]; simp only [List.length_append, List.length_cons, List.length_nil]; omega
        obtain ⟨p5, hp5⟩ : ∃ p, p4 ++ q2 = p := ⟨_, rfl⟩
        have e5 : p5.length ≤ 60 := by rw [← hp5]; simp only [List.length_append, List.length_cons, List.length_nil]; omega
        obtain ⟨p6, hp6⟩ : ∃ p, p5 ++ [32] = p := ⟨_, rfl⟩
        have e6 : p6.length ≤ 61 := by rw [← hp6]; simp only [List.length_append, List.length_cons, List.length_nil]; omega
        have hp7 : p6 ++ q3 = l0 := by
          rw [← hl0, ← hp6, ← hp5, ← hp4, ← hp3, ← hp2, ← hp1, ← hq1, ← hq2, ← hq3, ← HSZ.out]
          unfold secLine0 nameW
          rw [if_neg hnm1.1]
          simp only [spaced, List.map_cons, List.map_nil, List.append_assoc, List.cons_append, List.nil_append, List.append_nil]
        have m1 := txt_sum2 ⟨#[115, 101, 99, 116, 105, 111, 110, 32]⟩ x.name (secT ++ [32]) (bytesS x.name) rfl (txt_bytesS _).symm (by simp only [List.length_append, List.length_cons, List.length_nil]; omega)
        have m2 := txt_sum2 (txt p1) ⟨#[32]⟩ p1 [32] rfl rfl (by simp only [List.length_cons, List.length_nil]; omega)
        have m3 := txt_sum p2 q1 (by omega)
        have m4 := txt_sum2 (txt p3) ⟨#[32]⟩ p3 [32] rfl rfl (by simp only [List.length_cons, List.length_nil]; omega)
        have m5 := txt_sum p4 q2 (by omega)
        have m6 := txt_sum2 (txt p5) ⟨#[32]⟩ p5 [32] rfl rfl (by simp only [List.length_cons, List.length_nil]; omega)
        have m7 := txt_sum p6 q3 (by omega)
        rw [hp1] at m1
        rw [hp2] at m2
        rw [hp3] at m3
        rw [hp4] at m4
        rw [hp5] at m5
        rw [hp6] at m6
        rw [hp7] at m7
        clear hp1 hp2 hp3 hp4 hp5 hp6 hp7 hq1 hq2 hq3 hl0
        let f0 : Nat → Value := fun i => match i with
          | 0 => .pointer (some ⟨X, 0, none⟩)
          | 1 => .string x.name
          | 2 => .string (txt p1)
          | 3 => .string (txt p2)
          | 4 => .pointer (some ⟨X, 1, none⟩)
          | 5 => .int .i64 x.kind
          | 6 => .string (txt q1)
          | 7 => .string (txt p3)
          | 8 => .string (txt p4)
          | 9 => .pointer (some ⟨X, 2, none⟩)
          | 10 => .int .i64 x.align
          | 11 => .string (txt q2)
          | 12 => .string (txt p5)
          | 13 => .string (txt p6)
          | 14 => .agg #[.string x.name, .int .i64 x.kind, .int .i64 x.align, .slice ba nb bc, .int .i64 x.size, .slice fa nf fc]
          | 15 => .int .i64 ssz
          | 16 => .string (txt q3)
          | 17 => .string (txt l0)
          | 18 => .string (txt l0)
          | _ => undef
        refine wp_region_get (fun i v u => v = f0 i) (fun _ f u => Below wx.heap.size wx u) [[], [0], [1], [2], [], [4], [5], [3, 6], [7], [], [9], [10], [8, 11], [12], [], [14], [15], [13, 16], [17]] [[], [0], [0, 1], [0, 1, 2], [], [4], [4, 5], [0, 1, 2, 3, 4, 5, 6], [0, 1, 2, 3, 4, 5, 6, 7], [], [9], [4, 5, 6, 9, 10], [0, 1, 2, 3, 4, 5, 6, 7, 8, 9, 10, 11], [0, 1, 2, 3, 4, 5, 6, 7, 8, 9, 10, 11, 12], [], [4, 5, 6, 9, 10, 11, 14], [4, 5, 6, 9, 10, 11, 14, 15], [0, 1, 2, 3, 4, 5, 6, 7, 8, 9, 10, 11, 12, 13, 14, 15, 16], [0, 1, 2, 3, 4, 5, 6, 7, 8, 9, 10, 11, 12, 13, 14, 15, 16, 17]] [18] (by kernel_rfl) (by kernel_rfl) (by kernel_rfl) (by kernel_rfl) (by kernel_rfl) ((From.start wx).drew).below ?ho ?hq
        case ho =>
          refine ⟨?_, ?_, ?_, ?_, ?_, ?_, ?_, ?_, ?_, ?_, ?_, ?_, ?_, ?_, ?_, ?_, ?_, ?_, ?_, trivial⟩
          · intro n f a9 u K' hfr hn hl hS hv hK'
            have eA8 : a9.tmps.getD 5 undef = .pointer (some ⟨X, 0, none⟩) := hfr 5 (no_dst (by kernel_rfl))
            have eB8 : (a9.tmps[5]?).getD undef = .pointer (some ⟨X, 0, none⟩) := by simpa using eA8
            refine owe_run rfl (wp_val (v := .pointer (some ⟨X, 0, none⟩)) ?_ (hK' _ _ hS (fun _ _ _ h => h) (fun _ => rfl)))
            first
              | (go_simp; done)
              | (go_simp; rfl)
          · intro n f a9 u K' hfr hn hl hS hv hK'
            have eA0 : a9.tmps.getD 28 undef = .pointer (some ⟨X, 0, none⟩) := hv.1
            have eB0 : (a9.tmps[28]?).getD undef = .pointer (some ⟨X, 0, none⟩) := by simpa using eA0
            have cu := (HBX.out.call hS).cell
            refine owe_run rfl (wp_val (v := .string x.name) ?_ (hK' _ _ hS (fun _ _ _ h => h) (fun _ => rfl)))
            first
              | (go_simp; done)
              | (go_simp; rfl)
          · intro n f a9 u K' hfr hn hl hS hv hK'
            have eA0 : a9.tmps.getD 29 undef = .string x.name := hv.1
            have eB0 : (a9.tmps[29]?).getD undef = .string x.name := by simpa using eA0
            refine owe_run rfl (wp_val (v := .string (txt p1)) ?_ (hK' _ _ hS (fun _ _ _ h => h) (fun _ => rfl)))
            first
              | (go_simp; done)
              | (go_simp; rfl)
          · intro n f a9 u K' hfr hn hl hS hv hK'
            have eA0 : a9.tmps.getD 30 undef = .string (txt p1) := hv.1
            have eB0 : (a9.tmps[30]?).getD undef = .string (txt p1) := by simpa using eA0
            refine owe_run rfl (wp_val (v := .string (txt p2)) ?_ (hK' _ _ hS (fun _ _ _ h => h) (fun _ => rfl)))
            first
              | (go_simp; done)
              | (go_simp; rfl)
          · intro n f a9 u K' hfr hn hl hS hv hK'
            have eA8 : a9.tmps.getD 5 undef = .pointer (some ⟨X, 0, none⟩) := hfr 5 (no_dst (by kernel_rfl))
            have eB8 : (a9.tmps[5]?).getD undef = .pointer (some ⟨X, 0, none⟩) := by simpa using eA8
            refine owe_run rfl (wp_val (v := .pointer (some ⟨X, 1, none⟩)) ?_ (hK' _ _ hS (fun _ _ _ h => h) (fun _ => rfl)))
            first
              | (go_simp; done)
              | (go_simp; rfl)
          · intro n f a9 u K' hfr hn hl hS hv hK'
            have eA0 : a9.tmps.getD 32 undef = .pointer (some ⟨X, 1, none⟩) := hv.1
            have eB0 : (a9.tmps[32]?).getD undef = .pointer (some ⟨X, 1, none⟩) := by simpa using eA0
            have cu := (HBX.out.call hS).cell
            refine owe_run rfl (wp_val (v := .int .i64 x.kind) ?_ (hK' _ _ hS (fun _ _ _ h => h) (fun _ => rfl)))
            first
              | (go_simp; done)
              | (go_simp; rfl)
          · intro n f a9 u K' hfr hn hl hS hv hK'
            have eA0 : a9.tmps.getD 33 undef = .int .i64 x.kind := hv.1
            have eB0 : (a9.tmps[33]?).getD undef = .int .i64 x.kind := by simpa using eA0
            have hbu := hS
            refine owe_run rfl (wp_fn rfl (args1 eA0) (enter_fn Tryz.func44 (by kernel_rfl) rfl _ _) ((s_l8Number u x.kind (by omega) (by omega)).mono ?_))
            rw [HQ1.out]
            rintro e u2 ⟨rfl, k5⟩
            exact ⟨_, rfl, hK' _ _ (((⟨hS, hS.size⟩ : From _ wx u).call k5).below) (fun j y hj h => h) (fun _ => rfl)⟩
          · intro n f a9 u K' hfr hn hl hS hv hK'
            have eA0 : a9.tmps.getD 31 undef = .string (txt p2) := hv.1
            have eB0 : (a9.tmps[31]?).getD undef = .string (txt p2) := by simpa using eA0
            have eA1 : a9.tmps.getD 34 undef = .string (txt q1) := hv.2.1
            have eB1 : (a9.tmps[34]?).getD undef = .string (txt q1) := by simpa using eA1
            refine owe_run rfl (wp_val (v := .string (txt p3)) ?_ (hK' _ _ hS (fun _ _ _ h => h) (fun _ => rfl)))
            first
              | (go_simp; done)
              | (go_simp; rfl)
          · intro n f a9 u K' hfr hn hl hS hv hK'
            have eA0 : a9.tmps.getD 35 undef = .string (txt p3) := hv.1
            have eB0 : (a9.tmps[35]?).getD undef = .string (txt p3) := by simpa using eA0
            refine owe_run rfl (wp_val (v := .string (txt p4)) ?_ (hK' _ _ hS (fun _ _ _ h => h) (fun _ => rfl)))
            first
              | (go_simp; done)
              | (go_simp; rfl)
          · intro n f a9 u K' hfr hn hl hS hv hK'
            have eA8 : a9.tmps.getD 5 undef = .pointer (some ⟨X, 0, none⟩) := hfr 5 (no_dst (by kernel_rfl))
            have eB8 : (a9.tmps[5]?).getD undef = .pointer (some ⟨X, 0, none⟩) := by simpa using eA8
            refine owe_run rfl (wp_val (v := .pointer (some ⟨X, 2, none⟩)) ?_ (hK' _ _ hS (fun _ _ _ h => h) (fun _ => rfl)))
            first
              | (go_simp; done)
              | (go_simp; rfl)
          · intro n f a9 u K' hfr hn hl hS hv hK'
            have eA0 : a9.tmps.getD 37 undef = .pointer (some ⟨X, 2, none⟩) := hv.1
            have eB0 : (a9.tmps[37]?).getD undef = .pointer (some ⟨X, 2, none⟩) := by simpa using eA0
            have cu := (HBX.out.call hS).cell
            refine owe_run rfl (wp_val (v := .int .i64 x.align) ?_ (hK' _ _ hS (fun _ _ _ h => h) (fun _ => rfl)))
            first
              | (go_simp; done)
              | (go_simp; rfl)
          · intro n f a9 u K' hfr hn hl hS hv hK'
            have eA0 : a9.tmps.getD 38 undef = .int .i64 x.align := hv.1
            have eB0 : (a9.tmps[38]?).getD undef = .int .i64 x.align := by simpa using eA0
            have hbu := hS
            refine owe_run rfl (wp_fn rfl (args1 eA0) (enter_fn Tryz.func44 (by kernel_rfl) rfl _ _) ((s_l8Number u x.align (by omega) (by omega)).mono ?_))
            rw [HQ2.out]
            rintro e u2 ⟨rfl, k5⟩
            exact ⟨_, rfl, hK' _ _ (((⟨hS, hS.size⟩ : From _ wx u).call k5).below) (fun j y hj h => h) (fun _ => rfl)⟩
          · intro n f a9 u K' hfr hn hl hS hv hK'
            have eA0 : a9.tmps.getD 36 undef = .string (txt p4) := hv.1
            have eB0 : (a9.tmps[36]?).getD undef = .string (txt p4) := by simpa using eA0
            have eA1 : a9.tmps.getD 39 undef = .string (txt q2) := hv.2.1
            have eB1 : (a9.tmps[39]?).getD undef = .string (txt q2) := by simpa using eA1
            refine owe_run rfl (wp_val (v := .string (txt p5)) ?_ (hK' _ _ hS (fun _ _ _ h => h) (fun _ => rfl)))
            first
              | (go_simp; done)
              | (go_simp; rfl)
          · intro n f a9 u K' hfr hn hl hS hv hK'
            have eA0 : a9.tmps.getD 40 undef = .string (txt p5) := hv.1
            have eB0 : (a9.tmps[40]?).getD undef = .string (txt p5) := by simpa using eA0
            refine owe_run rfl (wp_val (v := .string (txt p6)) ?_ (hK' _ _ hS (fun _ _ _ h => h) (fun _ => rfl)))
            first
              | (go_simp; done)
              | (go_simp; rfl)
          · intro n f a9 u K' hfr hn hl hS hv hK'
            have eA8 : a9.tmps.getD 5 undef = .pointer (some ⟨X, 0, none⟩) := hfr 5 (no_dst (by kernel_rfl))
            have eB8 : (a9.tmps[5]?).getD undef = .pointer (some ⟨X, 0, none⟩) := by simpa using eA8
            have cu := (HBX.out.call hS).cell
            have zu := (HBX.out.call hS).lt
            refine owe_run rfl (wp_val (v := .agg #[.string x.name, .int .i64 x.kind, .int .i64 x.align, .slice ba nb bc, .int .i64 x.size, .slice fa nf fc]) ?_ (hK' _ _ hS (fun _ _ _ h => h) (fun _ => rfl)))
            first
              | (go_simp; done)
              | (go_simp; rfl)
          · intro n f a9 u K' hfr hn hl hS hv hK'
            have eA0 : a9.tmps.getD 42 undef = .agg #[.string x.name, .int .i64 x.kind, .int .i64 x.align, .slice ba nb bc, .int .i64 x.size, .slice fa nf fc] := hv.1
            have eB0 : (a9.tmps[42]?).getD undef = .agg #[.string x.name, .int .i64 x.kind, .int .i64 x.align, .slice ba nb bc, .int .i64 x.size, .slice fa nf fc] := by simpa using eA0
            have hbu := hS
            refine owe_run rfl (wp_fn rfl (args1 eA0) (enter_fn Tryz.func45 (by kernel_rfl) rfl _ _) ((s_SectionSize u _ x (hsx.out u hS)).mono ?_))
            rw [HSZ.out]
            rintro e u2 ⟨rfl, k5⟩
            exact ⟨_, rfl, hK' _ _ (((⟨hS, hS.size⟩ : From _ wx u).call k5).below) (fun j y hj h => h) (fun _ => rfl)⟩
          · intro n f a9 u K' hfr hn hl hS hv hK'
            have eA0 : a9.tmps.getD 43 undef = .int .i64 ssz := hv.1
            have eB0 : (a9.tmps[43]?).getD undef = .int .i64 ssz := by simpa using eA0
            have hbu := hS
            refine owe_run rfl (wp_fn rfl (args1 eA0) (enter_fn Tryz.func44 (by kernel_rfl) rfl _ _) ((s_l8Number u ssz (by omega) (by omega)).mono ?_))
            rw [HQ3.out]
            rintro e u2 ⟨rfl, k5⟩
            exact ⟨_, rfl, hK' _ _ (((⟨hS, hS.size⟩ : From _ wx u).call k5).below) (fun j y hj h => h) (fun _ => rfl)⟩
          · intro n f a9 u K' hfr hn hl hS hv hK'
            have eA0 : a9.tmps.getD 41 undef = .string (txt p6) := hv.1
            have eB0 : (a9.tmps[41]?).getD undef = .string (txt p6) := by simpa using eA0
            have eA1 : a9.tmps.getD 44 undef = .string (txt q3) := hv.2.1
            have eB1 : (a9.tmps[44]?).getD undef = .string (txt q3) := by simpa using eA1
            refine owe_run rfl (wp_val (v := .string (txt l0)) ?_ (hK' _ _ hS (fun _ _ _ h => h) (fun _ => rfl)))
            first
              | (go_simp; done)
              | (go_simp; rfl)
          · intro n f a9 u K' hfr hn hl hS hv hK'
            have eA0 : a9.tmps.getD 45 undef = .string (txt l0) := hv.1
            have eB0 : (a9.tmps[45]?).getD undef = .string (txt l0) := by simpa using eA0
            refine owe_run rfl (wp_val (v := .string (txt l0)) ?_ (hK' _ _ hS (fun _ _ _ h => h) (fun _ => rfl)))
            first
              | (go_simp; done)
              | (go_simp; rfl)
        case hq =>
          intro gg9 u hS hv
          have hv18 : gg9 18 = .string (txt l0) := hv.2.2.2.2.2.2.2.2.2.2.2.2.2.2.2.2.2.2.1 (by decide)
          clear hv f0 m1 m2 m3 m4 m5 m6 m7 e1 e2 e3 e4 e5 e6 t1 t2 t3 HQ1 HQ2 HQ3 p1 p2 p3 p4 p5 p6 q1 q2 q3
          simp only [List.map, putG, List.setIfInBounds_toArray, List.set_cons_succ, List.set_cons_zero, Nat.zero_add, Nat.reduceAdd, hv18]
          clear hv18
          have HBX := Lib.hid (HBX.out.call hS)
          have HL := Lib.hid (owns_call HL.out hS)
          have HB := Lib.hid (HB.out.call hS)
          have HF := Lib.hid (HF.out.call hS)
          have HBw := Lib.hid (HBw.out.below (Nat.le_refl _) hS)
          clear hS hsx HFw
          have cX := HBX.out.cell
          have zX := HBX.out.lt
          have hhx : secLine x = l0 ++ (if x.bytes = [] then [] else 32 :: hexText x.bytes) := by rw [secLine_eq HX.out.name, HL0.out]
          obtain ⟨l1, hl1⟩ : ∃ l1, secLine x = l1 := ⟨_, rfl⟩
          have HL1 := Lib.hid hl1
          rw [hl1] at hhx
          have HHX := Lib.hid hhx
          clear hl1 hhx
          go_upto_if 49 with fail
          go_cut [6] (fun s6 wy => s6 = .string (txt l1) ∧ Hid (Below u.heap.size u wy))
          case first =>
            by_cases hnz : nb = 0
            · have i5 : ¬ (0 : Int) < (nb : Int) := by omega
              have e5 : Hid (l1 = l0) := by
                show _ = _
                rw [HHX.out, if_pos (List.eq_nil_of_length_eq_zero (HNB.out.trans hnz)), List.append_nil]
              clear hnz
              go_wp2_with fail
              go_meet
              case rel => exact ⟨by rw [e5.out], Below.refl _ _⟩
            · have i5 : (0 : Int) < (nb : Int) := by omega
              have hhl := hexText_length x.bytes
              rw [HNB.out] at hhl
              have e5 : Hid (l1 = l0 ++ [32] ++ hexText x.bytes) := by
                show _ = _
                rw [HHX.out, if_neg (fun e => hnz (by rw [← HNB.out, e]; rfl)), List.append_assoc]
                rfl
              obtain ⟨hx5, hhx5⟩ : ∃ q, hexText x.bytes = q := ⟨_, rfl⟩
              have hq1 : ∀ u' : World, Below u.heap.size u u' → Calls Tryz.prog 46 #[.slice ba nb bc] u' fun e w' => e = .returned (.string (txt hx5)) ∧ Below u'.heap.size u' w' := fun u' hu => by
                rw [← hhx5]
                exact s_HexText u' _ x.bytes (HBw.out.below (Nat.le_refl _) hu) (by rw [HNB.out]; omega)
              rw [hhx5] at hhl e5
              have HQ1 := Lib.hid hq1
              obtain ⟨q0, hq0⟩ : ∃ q, l0 ++ [32] = q := ⟨_, rfl⟩
              have hq0l : q0.length ≤ 201 := by rw [← hq0, List.length_append]; simp only [List.length_cons, List.length_nil]; omega
              have k3 := txt_sum2 (txt l0) ⟨#[32]⟩ l0 [32] rfl rfl (by simp only [List.length_cons, List.length_nil]; omega)
              rw [hq0] at k3 e5
              have k4 := txt_sum q0 hx5 (by omega)
              clear hnz hhx5 hq1 hq0
              go_wp2_with fail
              refine (HQ1.out u (Below.refl _ _)).mono ?_
              rintro e u2 ⟨rfl, k5⟩
              have K5 := Lib.hid k5
              clear k5
              go_wp2_with fail
              go_meet
              case rel => exact ⟨by rw [e5.out], K5.out⟩
          case rest =>
            obtain ⟨rfl, hbw⟩ := hcut
            have HBX := Lib.hid (HBX.out.call hbw.out)
            have HL := Lib.hid (owns_call HL.out hbw.out)
            have HB := Lib.hid (HB.out.call hbw.out)
            have HF := Lib.hid (HF.out.call hbw.out)
            clear hbw cX zX HBw
            obtain ⟨nD, hnD⟩ : ∃ nD, ((D0).map txt).length = nD := ⟨_, rfl⟩
            have hrow := HL.out
            unfold OwnS at hrow
            rw [hnD] at hrow
            obtain ⟨ra, rc, rfl⟩ := owns_form hrow
            have HRW := Lib.hid hrow
            have hnl : nD ≤ 100 := by rw [← hnD, List.length_map]; omega
            have HND := Lib.hid hnD
            clear hrow hnD HL
            go_wp2_with (at_builtin; go_loud (refine wpList_append_own rfl (.tmp 56) (.tmp 58) 23 23 rfl (w.heap.size + 1) 9 j0 (.string ⟨#[]⟩) 1 16 Tryz.underlying23 hj0 ja0 ja1 ja2 rfl (by decide) _ _ _ rfl (World.ownsRow.alloc HRW.out _) _ 1 [_] rfl (src_new Tryz.underlying23 _ [_] 1 1 1 _ rfl ?c0) ?c1 ?c2 ?c3 ?_))
            case c0 => first | rfl | exact ⟨rfl⟩ | (intro u hu; obtain rfl := List.mem_singleton.1 hu; rfl)
            case c1 => unfold maxLen; omega
            case c2 => omega
            case c3 => have h9 := HB.out.lt; first | omega | (simp; omega)
            intro v' w4 hown hgr hpl
            have hL4 : OwnS w4 (w.heap.size + 1) v' ((D0 ++ [l1]).map txt) := by
              rw [List.map_append]
              exact owns_snocS (by rw [HND.out]; exact hown)
            have hgb : ∀ k', (Value.slice ra nD rc).ownBlock = some k' → w.heap.size + 1 ≤ k' := fun k' hk' => (World.ownsRow.lt HRW.out k' hk').1
            have HL := Lib.hid hL4
            have HB := Lib.hid (Blk.grown (HB.out.alloc (.cells #[.string (txt l1)] 9)) hgr (fun e => by have := hgb _ e.symm; omega))
            have HF := Lib.hid (From.grown (HF.out.alloc (.cells #[.string (txt l1)] 9)) hgr (fun k' hk' => by have := hgb k' hk'; omega))
            have HBX := Lib.hid (Blk.grown (HBX.out.alloc (.cells #[.string (txt l1)] 9)) hgr (fun e => blk_apart (HBX.out.alloc (.cells #[.string (txt l1)] 9)) (World.ownsRow.alloc HRW.out (.cells #[.string (txt l1)] 9)) (by decide) e))
            clear hown hgr hpl hL4 hgb HRW HND hnl
            go_wp2_with fail

            go_loopw [3, 7] (fun s i wr => ∃ j : Nat, j ≤ nf ∧ i = .int .i64 (j : Int) ∧ Hid (Blk wr X #[.string x.name, .int .i64 x.kind, .int .i64 x.align, .slice ba nb bc, .int .i64 x.size, .slice fa nf fc] 52) ∧ Hid (OwnS wr (w.heap.size + 1) s ((D0 ++ [l1] ++ (x.fix.take j).map fixLine).map txt)) ∧ Hid (Blk wr w.heap.size #[.slice (some ⟨b, off, none⟩) n1 sc, .slice ya n2 yc] 28) ∧ Hid (From w.heap.size w wr)) (fun _ i _ => nf - (intOf i).toNat)
            case atStart => exact ⟨0, Nat.zero_le _, rfl, HBX, (by show OwnS _ _ _ _; simpa using HL.out), HB, HF⟩
            case round =>
              clear HL HB HF HBX
              obtain ⟨j, hj, rfl, HBX, HL, HB, HF⟩ := hrel
              have cX := HBX.out.cell
              have zX := HBX.out.lt
              by_cases hlt2 : j < nf
              · have i5 : (j : Int) < (nf : Int) := by omega
                have i6 : (0 : Int) ≤ (j : Int) := by omega
                have hlt3 : j < x.fix.length := by rw [HNF.out]; exact hlt2
                have hfi := HFi0.out
                rw [← HNF.out] at hfi
                obtain ⟨fa2, fc2, hfv, -, -, -, hfc⟩ := hfi.form
                simp only [Value.slice.injEq] at hfv
                obtain ⟨rfl, -, rfl⟩ := hfv
                obtain ⟨b2, off2, rfl, hc2⟩ := hfc (by omega)
                obtain ⟨c0, c1, c2, c3⟩ := hc2 j hlt3
                have hbl2 : b2 < w.heap.size := World.block_lt_of_cell? w _ c0
                have g0 := (HF.out.below.cell (p := ⟨b2, off2 + j * 4, none⟩) hbl2).trans c0
                have g1 := (HF.out.below.cell (p := ⟨b2, off2 + j * 4 + 1, none⟩) hbl2).trans c1
                have g2 := (HF.out.below.cell (p := ⟨b2, off2 + j * 4 + 2, none⟩) hbl2).trans c2
                have g3 := (HF.out.below.cell (p := ⟨b2, off2 + j * 4 + 3, none⟩) hbl2).trans c3
                have HFO := Lib.hid (HX.out.fix _ (List.getElem_mem hlt3))
                have HTK3 : Hid ((x.fix.take (j + 1)).map fixLine = (x.fix.take j).map fixLine ++ [fixLine x.fix[j]]) := by
                  show _ = _
                  rw [List.take_succ_eq_append_getElem hlt3, List.map_append]
                  rfl
                have hdl2 : ((x.fix.take j).map fixLine).length ≤ 6 := by rw [List.length_map, List.length_take]; omega
                clear hc2 c0 c1 c2 c3 hfc
                generalize (x.fix.take j).map fixLine = D1 at *
                generalize x.fix[j]'hlt3 = y at *
                obtain ⟨Y, hY⟩ : ∃ Y, wr.heap.size = Y := ⟨_, rfl⟩
                obtain ⟨DD, hDD⟩ : ∃ DD, D0 ++ [l1] ++ D1 = DD := ⟨_, rfl⟩
                have hdd : DD.length ≤ 63 := by rw [← hDD]; simp only [List.length_append, List.length_cons, List.length_nil]; omega
                rw [hDD] at HL
                have HDD := Lib.hid hDD
                clear hDD
                obtain ⟨nD, hnD⟩ : ∃ nD, ((DD).map txt).length = nD := ⟨_, rfl⟩
                have hrow := HL.out
                unfold OwnS at hrow
                rw [hnD] at hrow
                obtain ⟨ra, rc, rfl⟩ := owns_form hrow
                have HRW := Lib.hid hrow
                have hnl : nD ≤ 100 := by rw [← hnD, List.length_map]; omega
                have HND := Lib.hid hnD
                clear hrow hnD HL
                go_wp2_with fail

                have kA := ((From.start wr).alloc (.cells #[.int .i64 y.1, .int .i64 y.2.1, .int .i64 y.2.2.1, .int .i64 y.2.2.2] 56)).below
                have HRW := Lib.hid (owns_call HRW.out kA)
                have HB := Lib.hid (HB.out.call kA)
                have HF := Lib.hid (HF.out.call kA)
                have HBX := Lib.hid (HBX.out.call kA)
                have HBY := Lib.hid (Blk.newAt wr #[.int .i64 y.1, .int .i64 y.2.1, .int .i64 y.2.2.1, .int .i64 y.2.2.2] 56 Y hY.symm)
                try simp only [hY]
                clear kA g0 g1 g2 g3 cX zX
                generalize hwz : wr.alloc (.cells #[.int .i64 y.1, .int .i64 y.2.1, .int .i64 y.2.2.1, .int .i64 y.2.2.2] 56) = wz at *
                clear hwz
                obtain ⟨l2, hl2⟩ : ∃ l2, fixLine y = l2 := ⟨_, rfl⟩
                rw [hl2] at HTK3
                have h1 := HFO.out.kind
                have h2 := HFO.out.to
                rw [HN2.out] at h2
                have h3 := HFO.out.add
                have h4 := HFO.out.at_
                obtain ⟨q1, hq1⟩ : ∃ q, Lib.itoa y.1 = q := ⟨_, rfl⟩
                have t1 := itoa_small (n := y.1) (by omega) (by omega)
                rw [hq1] at t1
                have HQ1 := Lib.hid hq1
                obtain ⟨q2, hq2⟩ : ∃ q, Lib.itoa y.2.1 = q := ⟨_, rfl⟩
                have t2 := itoa_small (n := y.2.1) (by omega) (by omega)
                rw [hq2] at t2
                have HQ2 := Lib.hid hq2
                obtain ⟨q3, hq3⟩ : ∃ q, Lib.itoa y.2.2.1 = q := ⟨_, rfl⟩
                have t3 := itoa_small (n := y.2.2.1) (by omega) (by omega)
                rw [hq3] at t3
                have HQ3 := Lib.hid hq3
                obtain ⟨q4, hq4⟩ : ∃ q, Lib.itoa y.2.2.2 = q := ⟨_, rfl⟩
                have t4 := itoa_small (n := y.2.2.2) (by omega) (by omega)
                rw [hq4] at t4
                have HQ4 := Lib.hid hq4
                obtain ⟨p1, hp1⟩ : ∃ p, fixT ++ [32] ++ q1 = p := ⟨_, rfl⟩
                have e1 : p1.length ≤ 30 := by rw [← hp1]; simp only [List.length_append, List.length_cons, List.length_nil]; omega
                obtain ⟨p2, hp2⟩ : ∃ p, p1 ++ [32] = p := ⟨_, rfl⟩
                have e2 : p2.length ≤ 31 := by rw [← hp2]; simp only [List.length_append, List.length_cons, List.length_nil]; omega
                obtain ⟨p3, hp3⟩ : ∃ p, p2 ++ q2 = p := ⟨_, rfl⟩
                have e3 : p3.length ≤ 52 := by rw [← hp3]; simp only [List.length_append, List.length_cons, List.length_nil]; omega
                obtain ⟨p4, hp4⟩ : ∃ p, p3 ++ [32] = p := ⟨_, rfl⟩
                have e4 : p4.length ≤ 53 := by rw [← hp4]; simp only [List.length_append, List.length_cons, List.length_nil]; omega
                obtain ⟨p5, hp5⟩ : ∃ p, p4 ++ q3 = p := ⟨_, rfl⟩
                have e5 : p5.length ≤ 74 := by rw [← hp5]; simp only [List.length_append, List.length_cons, List.length_nil]; omega
                obtain ⟨p6, hp6⟩ : ∃ p, p5 ++ [32] = p := ⟨_, rfl⟩
                have e6 : p6.length ≤ 75 := by rw [← hp6]; simp only [List.length_append, List.length_cons, List.length_nil]; omega
                have hp7 : p6 ++ q4 = l2 := by
                  rw [← hl2, ← hp6, ← hp5, ← hp4, ← hp3, ← hp2, ← hp1, ← hq1, ← hq2, ← hq3, ← hq4, fixLine_eq]
                  unfold nameW
                  rw [if_pos rfl]
                  simp only [spaced, List.map_cons, List.map_nil, List.append_assoc, List.cons_append, List.nil_append, List.append_nil]
                have m1 := txt_sum2 ⟨#[102, 105, 120, 117, 112, 32]⟩ (txt q1) (fixT ++ [32]) q1 rfl rfl (by simp only [List.length_append, List.length_cons, List.length_nil]; omega)
                have m2 := txt_sum2 (txt p1) ⟨#[32]⟩ p1 [32] rfl rfl (by simp only [List.length_cons, List.length_nil]; omega)
                have m3 := txt_sum p2 q2 (by omega)
                have m4 := txt_sum2 (txt p3) ⟨#[32]⟩ p3 [32] rfl rfl (by simp only [List.length_cons, List.length_nil]; omega)
                have m5 := txt_sum p4 q3 (by omega)
                have m6 := txt_sum2 (txt p5) ⟨#[32]⟩ p5 [32] rfl rfl (by simp only [List.length_cons, List.length_nil]; omega)
                have m7 := txt_sum p6 q4 (by omega)
                rw [hp1] at m1
                rw [hp2] at m2
                rw [hp3] at m3
                rw [hp4] at m4
                rw [hp5] at m5
                rw [hp6] at m6
                rw [hp7] at m7
                clear hp1 hp2 hp3 hp4 hp5 hp6 hp7
                clear hq1 hq2 hq3 hq4 hl2
                let f0 : Nat → Value := fun i => match i with
                  | 0 => .slice ra nD rc
                  | 1 => .pointer (some ⟨Y, 0, none⟩)
                  | 2 => .int .i64 y.1
                  | 3 => .string (txt q1)
                  | 4 => .string (txt p1)
                  | 5 => .string (txt p2)
                  | 6 => .pointer (some ⟨Y, 1, none⟩)
                  | 7 => .int .i64 y.2.1
                  | 8 => .string (txt q2)
                  | 9 => .string (txt p3)
                  | 10 => .string (txt p4)
                  | 11 => .pointer (some ⟨Y, 2, none⟩)
                  | 12 => .int .i64 y.2.2.1
                  | 13 => .string (txt q3)
                  | 14 => .string (txt p5)
                  | 15 => .string (txt p6)
                  | 16 => .pointer (some ⟨Y, 3, none⟩)
                  | 17 => .int .i64 y.2.2.2
                  | 18 => .string (txt q4)
                  | 19 => .string (txt l2)
                  | _ => undef
                refine wp_region_get (fun i v u => (i = 20 → ∃ z', v = .slice (some ⟨z', 0, none⟩) 1 1 ∧ Blk u z' #[.string (txt l2)] 9) ∧ (i = 21 ∨ i = 22 → OwnS u (w.heap.size + 1) v ((DD ++ [l2]).map txt)) ∧ (i ≠ 20 → i ≠ 21 → i ≠ 22 → v = f0 i)) (fun _ f u => (f 21 = false → Below wz.heap.size wz u) ∧ Blk u w.heap.size #[.slice (some ⟨b, off, none⟩) n1 sc, .slice ya n2 yc] 28 ∧ Blk u X #[.string x.name, .int .i64 x.kind, .int .i64 x.align, .slice ba nb bc, .int .i64 x.size, .slice (some ⟨b2, off2, none⟩) nf fc] 52 ∧ From w.heap.size w u) [[], [], [1], [2], [3], [4], [], [6], [7], [5, 8], [9], [], [11], [12], [10, 13], [14], [], [16], [17], [15, 18], [19], [0, 20], [21]] [[], [], [1], [1, 2], [1, 2, 3], [1, 2, 3, 4], [], [6], [1, 2, 3, 6, 7], [1, 2, 3, 4, 5, 6, 7, 8], [1, 2, 3, 4, 5, 6, 7, 8, 9], [], [11], [1, 2, 3, 6, 7, 8, 11, 12], [1, 2, 3, 4, 5, 6, 7, 8, 9, 10, 11, 12, 13], [1, 2, 3, 4, 5, 6, 7, 8, 9, 10, 11, 12, 13, 14], [], [16], [1, 2, 3, 6, 7, 8, 11, 12, 13, 16, 17], [1, 2, 3, 4, 5, 6, 7, 8, 9, 10, 11, 12, 13, 14, 15, 16, 17, 18], [1, 2, 3, 4, 5, 6, 7, 8, 9, 10, 11, 12, 13, 14, 15, 16, 17, 18, 19], [0, 1, 2, 3, 4, 5, 6, 7, 8, 9, 10, 11, 12, 13, 14, 15, 16, 17, 18, 19, 20], [0, 1, 2, 3, 4, 5, 6, 7, 8, 9, 10, 11, 12, 13, 14, 15, 16, 17, 18, 19, 20, 21]] [22] (by kernel_rfl) (by kernel_rfl) (by kernel_rfl) (by kernel_rfl) (by kernel_rfl) ⟨fun _ => ((From.start wz).drew).below, HB.out.drew, HBX.out.drew, HF.out.drew⟩ ?ho ?hq
                case ho =>
                  refine ⟨?_, ?_, ?_, ?_, ?_, ?_, ?_, ?_, ?_, ?_, ?_, ?_, ?_, ?_, ?_, ?_, ?_, ?_, ?_, ?_, ?_, ?_, ?_, trivial⟩
                  · intro n f a9 u K' hfr hn hl hS hv hK'
                    have eA8 : a9.tmps.getD 3 undef = .slice ra nD rc := hfr 3 (late_dst (k := 22) (by kernel_rfl) (hl.2.2 22 (by decide)))
                    have eB8 : (a9.tmps[3]?).getD undef = .slice ra nD rc := by simpa using eA8
                    refine owe_run rfl (wp_val (v := .slice ra nD rc) ?_ (hK' _ _ ⟨fun h => hS.1 (setl_off h), hS.2⟩ (fun _ _ _ h => h) (fun _ => ⟨fun e => absurd e (by decide), fun e => absurd e (by decide), fun _ _ _ => rfl⟩)))
                    first
                      | (go_simp; done)
                      | (go_simp; rfl)
                  · intro n f a9 u K' hfr hn hl hS hv hK'
                    have eA8 : a9.tmps.getD 8 undef = .pointer (some ⟨Y, 0, none⟩) := hfr 8 (no_dst (by kernel_rfl))
                    have eB8 : (a9.tmps[8]?).getD undef = .pointer (some ⟨Y, 0, none⟩) := by simpa using eA8
                    refine owe_run rfl (wp_val (v := .pointer (some ⟨Y, 0, none⟩)) ?_ (hK' _ _ ⟨fun h => hS.1 (setl_off h), hS.2⟩ (fun _ _ _ h => h) (fun _ => ⟨fun e => absurd e (by decide), fun e => absurd e (by decide), fun _ _ _ => rfl⟩)))
                    first
                      | (go_simp; done)
                      | (go_simp; rfl)
                  · intro n f a9 u K' hfr hn hl hS hv hK'
                    have eA0 : a9.tmps.getD 73 undef = .pointer (some ⟨Y, 0, none⟩) := hv.1.2.2 (by decide) (by decide) (by decide)
                    have eB0 : (a9.tmps[73]?).getD undef = .pointer (some ⟨Y, 0, none⟩) := by simpa using eA0
                    have cu := (HBY.out.call (hS.1 (hl.2.2 21 (by decide)))).cell
                    refine owe_run rfl (wp_val (v := .int .i64 y.1) ?_ (hK' _ _ ⟨fun h => hS.1 (setl_off h), hS.2⟩ (fun _ _ _ h => h) (fun _ => ⟨fun e => absurd e (by decide), fun e => absurd e (by decide), fun _ _ _ => rfl⟩)))
                    first
                      | (go_simp; done)
                      | (go_simp; rfl)
                  · intro n f a9 u K' hfr hn hl hS hv hK'
                    have eA0 : a9.tmps.getD 74 undef = .int .i64 y.1 := hv.1.2.2 (by decide) (by decide) (by decide)
                    have eB0 : (a9.tmps[74]?).getD undef = .int .i64 y.1 := by simpa using eA0
                    have hbu := (hS.1 (hl.2.2 21 (by decide)))
                    refine owe_run rfl (wp_fn rfl (args1 eA0) (enter_fn Tryz.func44 (by kernel_rfl) rfl _ _) ((s_l8Number u y.1 (by omega) (by omega)).mono ?_))
                    rw [HQ1.out]
                    rintro e u2 ⟨rfl, k5⟩
                    exact ⟨_, rfl, hK' _ _ (⟨fun h => (have hb := hS.1 (setl_off h); ((⟨hb, hb.size⟩ : From _ wz u).call k5).below), hS.2.1.call k5, hS.2.2.1.call k5, hS.2.2.2.call k5⟩) (fun j y hj h => ⟨fun e => (have ⟨z, e1, e2⟩ := h.1 e; ⟨z, e1, e2.call k5⟩), fun e => by rcases e with e | e <;> (subst e; exact absurd hj (by decide)), h.2.2⟩) (fun _ => ⟨fun e => absurd e (by decide), fun e => absurd e (by decide), fun _ _ _ => rfl⟩)⟩
                  · intro n f a9 u K' hfr hn hl hS hv hK'
                    have eA0 : a9.tmps.getD 75 undef = .string (txt q1) := hv.1.2.2 (by decide) (by decide) (by decide)
                    have eB0 : (a9.tmps[75]?).getD undef = .string (txt q1) := by simpa using eA0
                    refine owe_run rfl (wp_val (v := .string (txt p1)) ?_ (hK' _ _ ⟨fun h => hS.1 (setl_off h), hS.2⟩ (fun _ _ _ h => h) (fun _ => ⟨fun e => absurd e (by decide), fun e => absurd e (by decide), fun _ _ _ => rfl⟩)))
                    first
                      | (go_simp; done)
                      | (go_simp; rfl)
                  · intro n f a9 u K' hfr hn hl hS hv hK'
                    have eA0 : a9.tmps.getD 76 undef = .string (txt p1) := hv.1.2.2 (by decide) (by decide) (by decide)
                    have eB0 : (a9.tmps[76]?).getD undef = .string (txt p1) := by simpa using eA0
                    refine owe_run rfl (wp_val (v := .string (txt p2)) ?_ (hK' _ _ ⟨fun h => hS.1 (setl_off h), hS.2⟩ (fun _ _ _ h => h) (fun _ => ⟨fun e => absurd e (by decide), fun e => absurd e (by decide), fun _ _ _ => rfl⟩)))
                    first
                      | (go_simp; done)
                      | (go_simp; rfl)
                  · intro n f a9 u K' hfr hn hl hS hv hK'
                    have eA8 : a9.tmps.getD 8 undef = .pointer (some ⟨Y, 0, none⟩) := hfr 8 (no_dst (by kernel_rfl))
                    have eB8 : (a9.tmps[8]?).getD undef = .pointer (some ⟨Y, 0, none⟩) := by simpa using eA8
                    refine owe_run rfl (wp_val (v := .pointer (some ⟨Y, 1, none⟩)) ?_ (hK' _ _ ⟨fun h => hS.1 (setl_off h), hS.2⟩ (fun _ _ _ h => h) (fun _ => ⟨fun e => absurd e (by decide), fun e => absurd e (by decide), fun _ _ _ => rfl⟩)))
                    first
                      | (go_simp; done)
                      | (go_simp; rfl)
                  · intro n f a9 u K' hfr hn hl hS hv hK'
                    have eA0 : a9.tmps.getD 78 undef = .pointer (some ⟨Y, 1, none⟩) := hv.1.2.2 (by decide) (by decide) (by decide)
                    have eB0 : (a9.tmps[78]?).getD undef = .pointer (some ⟨Y, 1, none⟩) := by simpa using eA0
                    have cu := (HBY.out.call (hS.1 (hl.2.2 21 (by decide)))).cell
                    refine owe_run rfl (wp_val (v := .int .i64 y.2.1) ?_ (hK' _ _ ⟨fun h => hS.1 (setl_off h), hS.2⟩ (fun _ _ _ h => h) (fun _ => ⟨fun e => absurd e (by decide), fun e => absurd e (by decide), fun _ _ _ => rfl⟩)))
                    first
                      | (go_simp; done)
                      | (go_simp; rfl)
                  · intro n f a9 u K' hfr hn hl hS hv hK'
                    have eA0 : a9.tmps.getD 79 undef = .int .i64 y.2.1 := hv.1.2.2 (by decide) (by decide) (by decide)
                    have eB0 : (a9.tmps[79]?).getD undef = .int .i64 y.2.1 := by simpa using eA0
                    have hbu := (hS.1 (hl.2.2 21 (by decide)))
                    refine owe_run rfl (wp_fn rfl (args1 eA0) (enter_fn Tryz.func44 (by kernel_rfl) rfl _ _) ((s_l8Number u y.2.1 (by omega) (by omega)).mono ?_))
                    rw [HQ2.out]
                    rintro e u2 ⟨rfl, k5⟩
                    exact ⟨_, rfl, hK' _ _ (⟨fun h => (have hb := hS.1 (setl_off h); ((⟨hb, hb.size⟩ : From _ wz u).call k5).below), hS.2.1.call k5, hS.2.2.1.call k5, hS.2.2.2.call k5⟩) (fun j y hj h => ⟨fun e => (have ⟨z, e1, e2⟩ := h.1 e; ⟨z, e1, e2.call k5⟩), fun e => by rcases e with e | e <;> (subst e; exact absurd hj (by decide)), h.2.2⟩) (fun _ => ⟨fun e => absurd e (by decide), fun e => absurd e (by decide), fun _ _ _ => rfl⟩)⟩
                  · intro n f a9 u K' hfr hn hl hS hv hK'
                    have eA0 : a9.tmps.getD 77 undef = .string (txt p2) := hv.1.2.2 (by decide) (by decide) (by decide)
                    have eB0 : (a9.tmps[77]?).getD undef = .string (txt p2) := by simpa using eA0
                    have eA1 : a9.tmps.getD 80 undef = .string (txt q2) := hv.2.1.2.2 (by decide) (by decide) (by decide)
                    have eB1 : (a9.tmps[80]?).getD undef = .string (txt q2) := by simpa using eA1
                    refine owe_run rfl (wp_val (v := .string (txt p3)) ?_ (hK' _ _ ⟨fun h => hS.1 (setl_off h), hS.2⟩ (fun _ _ _ h => h) (fun _ => ⟨fun e => absurd e (by decide), fun e => absurd e (by decide), fun _ _ _ => rfl⟩)))
                    first
                      | (go_simp; done)
                      | (go_simp; rfl)
                  · intro n f a9 u K' hfr hn hl hS hv hK'
                    have eA0 : a9.tmps.getD 81 undef = .string (txt p3) := hv.1.2.2 (by decide) (by decide) (by decide)
                    have eB0 : (a9.tmps[81]?).getD undef = .string (txt p3) := by simpa using eA0
                    refine owe_run rfl (wp_val (v := .string (txt p4)) ?_ (hK' _ _ ⟨fun h => hS.1 (setl_off h), hS.2⟩ (fun _ _ _ h => h) (fun _ => ⟨fun e => absurd e (by decide), fun e => absurd e (by decide), fun _ _ _ => rfl⟩)))
                    first
                      | (go_simp; done)
                      | (go_simp; rfl)
                  · intro n f a9 u K' hfr hn hl hS hv hK'
                    have eA8 : a9.tmps.getD 8 undef = .pointer (some ⟨Y, 0, none⟩) := hfr 8 (no_dst (by kernel_rfl))
                    have eB8 : (a9.tmps[8]?).getD undef = .pointer (some ⟨Y, 0, none⟩) := by simpa using eA8
                    refine owe_run rfl (wp_val (v := .pointer (some ⟨Y, 2, none⟩)) ?_ (hK' _ _ ⟨fun h => hS.1 (setl_off h), hS.2⟩ (fun _ _ _ h => h) (fun _ => ⟨fun e => absurd e (by decide), fun e => absurd e (by decide), fun _ _ _ => rfl⟩)))
                    first
                      | (go_simp; done)
                      | (go_simp; rfl)
                  · intro n f a9 u K' hfr hn hl hS hv hK'
                    have eA0 : a9.tmps.getD 83 undef = .pointer (some ⟨Y, 2, none⟩) := hv.1.2.2 (by decide) (by decide) (by decide)
                    have eB0 : (a9.tmps[83]?).getD undef = .pointer (some ⟨Y, 2, none⟩) := by simpa using eA0
                    have cu := (HBY.out.call (hS.1 (hl.2.2 21 (by decide)))).cell
                    refine owe_run rfl (wp_val (v := .int .i64 y.2.2.1) ?_ (hK' _ _ ⟨fun h => hS.1 (setl_off h), hS.2⟩ (fun _ _ _ h => h) (fun _ => ⟨fun e => absurd e (by decide), fun e => absurd e (by decide), fun _ _ _ => rfl⟩)))
                    first
                      | (go_simp; done)
                      | (go_simp; rfl)
                  · intro n f a9 u K' hfr hn hl hS hv hK'
                    have eA0 : a9.tmps.getD 84 undef = .int .i64 y.2.2.1 := hv.1.2.2 (by decide) (by decide) (by decide)
                    have eB0 : (a9.tmps[84]?).getD undef = .int .i64 y.2.2.1 := by simpa using eA0
                    have hbu := (hS.1 (hl.2.2 21 (by decide)))
                    refine owe_run rfl (wp_fn rfl (args1 eA0) (enter_fn Tryz.func44 (by kernel_rfl) rfl _ _) ((s_l8Number u y.2.2.1 (by omega) (by omega)).mono ?_))
                    rw [HQ3.out]
                    rintro e u2 ⟨rfl, k5⟩
                    exact ⟨_, rfl, hK' _ _ (⟨fun h => (have hb := hS.1 (setl_off h); ((⟨hb, hb.size⟩ : From _ wz u).call k5).below), hS.2.1.call k5, hS.2.2.1.call k5, hS.2.2.2.call k5⟩) (fun j y hj h => ⟨fun e => (have ⟨z, e1, e2⟩ := h.1 e; ⟨z, e1, e2.call k5⟩), fun e => by rcases e with e | e <;> (subst e; exact absurd hj (by decide)), h.2.2⟩) (fun _ => ⟨fun e => absurd e (by decide), fun e => absurd e (by decide), fun _ _ _ => rfl⟩)⟩
                  · intro n f a9 u K' hfr hn hl hS hv hK'
                    have eA0 : a9.tmps.getD 82 undef = .string (txt p4) := hv.1.2.2 (by decide) (by decide) (by decide)
                    have eB0 : (a9.tmps[82]?).getD undef = .string (txt p4) := by simpa using eA0
                    have eA1 : a9.tmps.getD 85 undef = .string (txt q3) := hv.2.1.2.2 (by decide) (by decide) (by decide)
                    have eB1 : (a9.tmps[85]?).getD undef = .string (txt q3) := by simpa using eA1
                    refine owe_run rfl (wp_val (v := .string (txt p5)) ?_ (hK' _ _ ⟨fun h => hS.1 (setl_off h), hS.2⟩ (fun _ _ _ h => h) (fun _ => ⟨fun e => absurd e (by decide), fun e => absurd e (by decide), fun _ _ _ => rfl⟩)))
                    first
                      | (go_simp; done)
                      | (go_simp; rfl)
                  · intro n f a9 u K' hfr hn hl hS hv hK'
                    have eA0 : a9.tmps.getD 86 undef = .string (txt p5) := hv.1.2.2 (by decide) (by decide) (by decide)
                    have eB0 : (a9.tmps[86]?).getD undef = .string (txt p5) := by simpa using eA0
                    refine owe_run rfl (wp_val (v := .string (txt p6)) ?_ (hK' _ _ ⟨fun h => hS.1 (setl_off h), hS.2⟩ (fun _ _ _ h => h) (fun _ => ⟨fun e => absurd e (by decide), fun e => absurd e (by decide), fun _ _ _ => rfl⟩)))
                    first
                      | (go_simp; done)
                      | (go_simp; rfl)
                  · intro n f a9 u K' hfr hn hl hS hv hK'
                    have eA8 : a9.tmps.getD 8 undef = .pointer (some ⟨Y, 0, none⟩) := hfr 8 (no_dst (by kernel_rfl))
                    have eB8 : (a9.tmps[8]?).getD undef = .pointer (some ⟨Y, 0, none⟩) := by simpa using eA8
                    refine owe_run rfl (wp_val (v := .pointer (some ⟨Y, 3, none⟩)) ?_ (hK' _ _ ⟨fun h => hS.1 (setl_off h), hS.2⟩ (fun _ _ _ h => h) (fun _ => ⟨fun e => absurd e (by decide), fun e => absurd e (by decide), fun _ _ _ => rfl⟩)))
                    first
                      | (go_simp; done)
                      | (go_simp; rfl)
                  · intro n f a9 u K' hfr hn hl hS hv hK'
                    have eA0 : a9.tmps.getD 88 undef = .pointer (some ⟨Y, 3, none⟩) := hv.1.2.2 (by decide) (by decide) (by decide)
                    have eB0 : (a9.tmps[88]?).getD undef = .pointer (some ⟨Y, 3, none⟩) := by simpa using eA0
                    have cu := (HBY.out.call (hS.1 (hl.2.2 21 (by decide)))).cell
                    refine owe_run rfl (wp_val (v := .int .i64 y.2.2.2) ?_ (hK' _ _ ⟨fun h => hS.1 (setl_off h), hS.2⟩ (fun _ _ _ h => h) (fun _ => ⟨fun e => absurd e (by decide), fun e => absurd e (by decide), fun _ _ _ => rfl⟩)))
                    first
                      | (go_simp; done)
                      | (go_simp; rfl)
                  · intro n f a9 u K' hfr hn hl hS hv hK'
                    have eA0 : a9.tmps.getD 89 undef = .int .i64 y.2.2.2 := hv.1.2.2 (by decide) (by decide) (by decide)
                    have eB0 : (a9.tmps[89]?).getD undef = .int .i64 y.2.2.2 := by simpa using eA0
                    have hbu := (hS.1 (hl.2.2 21 (by decide)))
                    refine owe_run rfl (wp_fn rfl (args1 eA0) (enter_fn Tryz.func44 (by kernel_rfl) rfl _ _) ((s_l8Number u y.2.2.2 (by omega) (by omega)).mono ?_))
                    rw [HQ4.out]
                    rintro e u2 ⟨rfl, k5⟩
                    exact ⟨_, rfl, hK' _ _ (⟨fun h => (have hb := hS.1 (setl_off h); ((⟨hb, hb.size⟩ : From _ wz u).call k5).below), hS.2.1.call k5, hS.2.2.1.call k5, hS.2.2.2.call k5⟩) (fun j y hj h => ⟨fun e => (have ⟨z, e1, e2⟩ := h.1 e; ⟨z, e1, e2.call k5⟩), fun e => by rcases e with e | e <;> (subst e; exact absurd hj (by decide)), h.2.2⟩) (fun _ => ⟨fun e => absurd e (by decide), fun e => absurd e (by decide), fun _ _ _ => rfl⟩)⟩
                  · intro n f a9 u K' hfr hn hl hS hv hK'
                    have eA0 : a9.tmps.getD 87 undef = .string (txt p6) := hv.1.2.2 (by decide) (by decide) (by decide)
                    have eB0 : (a9.tmps[87]?).getD undef = .string (txt p6) := by simpa using eA0
                    have eA1 : a9.tmps.getD 90 undef = .string (txt q4) := hv.2.1.2.2 (by decide) (by decide) (by decide)
                    have eB1 : (a9.tmps[90]?).getD undef = .string (txt q4) := by simpa using eA1
                    refine owe_run rfl (wp_val (v := .string (txt l2)) ?_ (hK' _ _ ⟨fun h => hS.1 (setl_off h), hS.2⟩ (fun _ _ _ h => h) (fun _ => ⟨fun e => absurd e (by decide), fun e => absurd e (by decide), fun _ _ _ => rfl⟩)))
                    first
                      | (go_simp; done)
                      | (go_simp; rfl)
                  · intro n f a9 u K' hfr hn hl hS hv hK'
                    have eA0 : a9.tmps.getD 91 undef = .string (txt l2) := hv.1.2.2 (by decide) (by decide) (by decide)
                    have eB0 : (a9.tmps[91]?).getD undef = .string (txt l2) := by simpa using eA0
                    have k5 : Below u.heap.size u (u.alloc (.cells #[.string (txt l2)] 9)) := ((From.start u).alloc _).below
                    refine owe_run rfl (wp_val (v := .slice (some ⟨u.heap.size, 0, none⟩) 1 1) (w' := u.alloc (.cells #[.string (txt l2)] 9)) ?_ (hK' _ _ (⟨fun h => (have hb := hS.1 (setl_off h); ((⟨hb, hb.size⟩ : From _ wz u).call k5).below), hS.2.1.call k5, hS.2.2.1.call k5, hS.2.2.2.call k5⟩) (fun j y hj h => ⟨fun e => (have ⟨z, e1, e2⟩ := h.1 e; ⟨z, e1, e2.call k5⟩), fun e => by rcases e with e | e <;> (subst e; exact absurd hj (by decide)), h.2.2⟩) (fun _ => ⟨fun _ => ⟨_, rfl, Blk.new u _ _⟩, fun e => absurd e (by decide), fun e => absurd rfl e⟩)))
                    first
                      | (go_simp; done)
                      | (go_simp; rfl)
                  · intro n f a9 u K' hfr hn hl hS hv hK'
                    have eA0 : a9.tmps.getD 72 undef = .slice ra nD rc := hv.1.2.2 (by decide) (by decide) (by decide)
                    obtain ⟨z', e8, hz8⟩ := hv.2.1.1 rfl
                    have hb9 := hS.1 hl.1
                    have hown := owns_call HRW.out hb9
                    have h9b := HB.out.lt
                    have hsz := hb9.size
                    refine step_append_newD rfl (.tmp 72) (.tmp 92) 23 23 rfl (w.heap.size + 1) 9 j0 (.string ⟨#[]⟩) 1 16 Tryz.underlying23 hj0 ja0 ja1 ja2 rfl (by decide) _ _ _ eA0 hown _ 1 [.string (txt l2)] e8 (src_blk Tryz.underlying23 u z' [.string (txt l2)] 1 1 1 9 hz8 rfl (by intro u hu; obtain rfl := List.mem_singleton.1 hu; rfl)) (by unfold maxLen; omega) (by omega) (by omega) ?_
                    intro v' w1 hown1 hgr1 hpl
                    have hL4 : OwnS w1 (w.heap.size + 1) v' ((DD ++ [l2]).map txt) := by
                      rw [List.map_append]
                      exact owns_snocS (by rw [HND.out]; exact hown1)
                    have hgb : ∀ k', (Value.slice ra nD rc).ownBlock = some k' → w.heap.size + 1 ≤ k' := fun k' hk' => (World.ownsRow.lt HRW.out k' hk').1
                    exact hK' _ _ ⟨fun h => (by rw [setl_at] at h; cases h), hS.2.1.grown hgr1 (fun e => by have := hgb _ e.symm; omega), hS.2.2.1.grown hgr1 (fun e => blk_apart hS.2.2.1 hown (by decide) e), hS.2.2.2.grown hgr1 (fun k' hk' => by have := hgb k' hk'; omega)⟩ (fun j y hj h => ⟨fun e => by subst e; exact absurd hj (by decide), fun e => by rcases e with e | e <;> (subst e; exact absurd hj (by decide)), h.2.2⟩) (fun _ => ⟨fun e => absurd e (by decide), fun _ => hL4, fun _ e => absurd rfl e⟩)
                  · intro n f a9 u K' hfr hn hl hS hv hK'
                    have ho := hv.1.2.1 (.inl rfl)
                    obtain ⟨v', hv'⟩ : ∃ v', (a9.tmps[93]?).getD undef = v' := ⟨_, rfl⟩
                    have e9 : a9.tmps.getD 93 undef = v' := by rw [← hv']; simp
                    rw [e9] at ho
                    refine owe_run rfl (wp_val (v := v') ?_ (hK' _ _ ⟨fun h => hS.1 (setl_off h), hS.2⟩ (fun _ _ _ h => h) (fun _ => ⟨fun e => absurd e (by decide), fun _ => ho, fun _ _ e => absurd rfl e⟩)))
                    first
                      | (go_simp; done)
                      | (go_simp; rfl)
                case hq =>
                  intro gg9 u hS hv
                  have ho := (hv.2.2.2.2.2.2.2.2.2.2.2.2.2.2.2.2.2.2.2.2.2.2.1 (by decide)).2.1 (.inr rfl)
                  obtain ⟨nD2, hnD2⟩ : ∃ nD2, ((DD ++ [l2]).map txt).length = nD2 := ⟨_, rfl⟩
                  obtain ⟨va9, vc9, e10⟩ := owns_form ho
                  rw [hnD2] at e10
                  rw [e10] at ho
                  clear hv f0 m1 m2 m3 m4 m5 m6 m7 e1 e2 e3 e4 e5 e6 t1 t2 t3 t4 HQ1 HQ2 HQ3 HQ4 hnD2
                  simp only [List.map, putG, List.setIfInBounds_toArray, List.set_cons_succ, List.set_cons_zero, Nat.zero_add, Nat.reduceAdd, e10]
                  clear e10
                  have HL := Lib.hid ho
                  have HB := Lib.hid hS.2.1
                  have HBX := Lib.hid hS.2.2.1
                  have HF := Lib.hid hS.2.2.2
                  clear ho hS
                  go_wp2_with fail
                  go_roundw
                  case rel => exact ⟨j + 1, by omega, by go_num, HBX, (by show OwnS _ _ _ _; rw [HTK3.out, ← List.append_assoc, HDD.out]; exact HL.out), HB, HF⟩
                  case measure => simp [intOf]; try omega
              · obtain rfl : nf = j := by omega
                have h9 := HL.out
                rw [← HNF.out, List.take_length, ← HL1.out, HTK2.out] at h9
                have HL9 := Lib.hid h9
                clear HL h9
                go_wp2_with fail
                go_roundw
                case rel => exact ⟨k + 1, by omega, by go_num, HL9, HB, HF⟩
                case measure => simp [intOf]; try omega
      · obtain rfl : n1 = k := by omega
        have h9 := HL.out
        rw [← HN1.out, List.take_length] at h9
        have HL := Lib.hid h9
        have hdl := dumpS_len o HV.out
        clear h9 hlt
        go_wp2_with fail
        clear cB zB
        go_loopw [3, 9] (fun s i wr => ∃ k : Nat, k ≤ n2 ∧ i = .int .i64 (k : Int) ∧ Hid (OwnS wr (w.heap.size + 1) s ((o.secs.flatMap secDump ++ (o.syms.take k).map symLine).map txt)) ∧ Hid (Blk wr w.heap.size #[.slice sa n1 sc, .slice ya n2 yc] 28) ∧ Hid (From w.heap.size w wr)) (fun _ i _ => n2 - (intOf i).toNat)
        case atStart => exact ⟨0, Nat.zero_le _, rfl, (by show OwnS _ _ _ _; simpa using HL.out), HB, HF⟩
        case round =>
          clear HL HB HF
          obtain ⟨j, hj, rfl, HL, HB, HF⟩ := hrel
          have cB := HB.out.cell
          have zB := HB.out.lt
          by_cases hlt2 : j < n2
          · have i5 : (j : Int) < (n2 : Int) := by omega
            have i6 : (0 : Int) ≤ (j : Int) := by omega
            go_wp2_with fail
            refine (HOV.out wr HF.out.below).mono ?_
            rintro e w3 ⟨rfl, k3⟩
            have HL := Lib.hid (owns_call HL.out k3)
            have HB := Lib.hid (HB.out.call k3)
            have HF := Lib.hid (HF.out.call k3)
            clear k3 cB zB
            have cB := HB.out.cell
            have zB := HB.out.lt
            have hlt3 : j < o.syms.length := by rw [HN2.out]; exact hlt2
            obtain ⟨b2, off2, rfl, hc2⟩ := HD.out (by omega)
            obtain ⟨c0, c1, c2, c3⟩ := hc2 j hlt3
            have hbl2 : b2 < w.heap.size := World.block_lt_of_cell? w _ c0
            have g0 := (HF.out.below.cell (p := ⟨b2, off2 + j * 4, none⟩) hbl2).trans c0
            have g1 := (HF.out.below.cell (p := ⟨b2, off2 + j * 4 + 1, none⟩) hbl2).trans c1
            have g2 := (HF.out.below.cell (p := ⟨b2, off2 + j * 4 + 2, none⟩) hbl2).trans c2
            have g3 := (HF.out.below.cell (p := ⟨b2, off2 + j * 4 + 3, none⟩) hbl2).trans c3
            have HYO := Lib.hid (objB_sym HV.out (List.getElem_mem hlt3))
            have HTK3 : Hid ((o.syms.take (j + 1)).map symLine = (o.syms.take j).map symLine ++ [symLine o.syms[j]]) := by
              show _ = _
              rw [List.take_succ_eq_append_getElem hlt3, List.map_append]
              rfl
            have hdl2 : ((o.syms.take j).map symLine).length ≤ 12 := by rw [List.length_map, List.length_take]; omega
            clear hc2 c0 c1 c2 c3
            obtain ⟨D1, hD1⟩ : ∃ D1, (o.syms.take j).map symLine = D1 := ⟨_, rfl⟩
            rw [hD1] at HTK3 HL hdl2
            generalize o.syms[j]'hlt3 = y at *
            obtain ⟨Y, hY⟩ : ∃ Y, w3.heap.size = Y := ⟨_, rfl⟩
            obtain ⟨DD, hDD⟩ : ∃ DD, o.secs.flatMap secDump ++ D1 = DD := ⟨_, rfl⟩
            have hdd : DD.length ≤ 68 := by rw [← hDD]; simp only [List.length_append]; omega
            rw [hDD] at HL
            have HDD := Lib.hid hDD
            clear hDD hD1
            obtain ⟨nD, hnD⟩ : ∃ nD, ((DD).map txt).length = nD := ⟨_, rfl⟩
            have hrow := HL.out
            unfold OwnS at hrow
            rw [hnD] at hrow
            obtain ⟨ra, rc, rfl⟩ := owns_form hrow
            have HRW := Lib.hid hrow
            have hnl : nD ≤ 100 := by rw [← hnD, List.length_map]; omega
            have HND := Lib.hid hnD
            clear hrow hnD HL
            go_wp2_with fail
            have kA := ((From.start w3).alloc (.cells #[.string y.name, .int .i64 y.bind, .int .i64 y.whr, .int .i64 y.val] 58)).below
            have HRW := Lib.hid (owns_call HRW.out kA)
            have HB := Lib.hid (HB.out.call kA)
            have HF := Lib.hid (HF.out.call kA)
            have HBY := Lib.hid (Blk.newAt w3 #[.string y.name, .int .i64 y.bind, .int .i64 y.whr, .int .i64 y.val] 58 Y hY.symm)
            try simp only [hY]
            clear kA g0 g1 g2 g3 cB zB
            generalize hwz : w3.alloc (.cells #[.string y.name, .int .i64 y.bind, .int .i64 y.whr, .int .i64 y.val] 58) = wz at *
            clear hwz
            obtain ⟨l2, hl2⟩ : ∃ l2, symLine y = l2 := ⟨_, rfl⟩
            rw [hl2] at HTK3
            have h1 := HYO.out.bind
            have h2 := HYO.out.whr
            rw [HN1.out] at h2
            have h3 := HYO.out.val
            have hnm1 := nameB_pos HYO.out.name
            obtain ⟨q1, hq1⟩ : ∃ q, Lib.itoa y.bind = q := ⟨_, rfl⟩
            have t1 := itoa_small (n := y.bind) (by omega) (by omega)
            rw [hq1] at t1
            have HQ1 := Lib.hid hq1
            obtain ⟨q2, hq2⟩ : ∃ q, Lib.itoa y.whr = q := ⟨_, rfl⟩
            have t2 := itoa_small (n := y.whr) (by omega) (by omega)
            rw [hq2] at t2
            have HQ2 := Lib.hid hq2
            obtain ⟨q3, hq3⟩ : ∃ q, Lib.itoa y.val = q := ⟨_, rfl⟩
            have t3 := itoa_small (n := y.val) (by omega) (by omega)
            rw [hq3] at t3
            have HQ3 := Lib.hid hq3
            obtain ⟨p1, hp1⟩ : ∃ p, symT ++ [32] ++ bytesS y.name = p := ⟨_, rfl⟩
            have e1 : p1.length ≤ 30 := by rw [← hp1]; simp only [List.length_append, List.length_cons, List.length_nil]; omega
            obtain ⟨p2, hp2⟩ : ∃ p, p1 ++ [32] = p := ⟨_, rfl⟩
            have e2 : p2.length ≤ 31 := by rw [← hp2]; simp only [List.length_append, List.length_cons, List.length_nil]; omega
            obtain ⟨p3, hp3⟩ : ∃ p, p2 ++ q1 = p := ⟨_, rfl⟩
            have e3 : p3.length ≤ 52 := by rw [← hp3]; simp only [List.length_append, List.length_cons, List.length_nil]; omega
            obtain ⟨p4, hp4⟩ : ∃ p, p3 ++ [32] = p := ⟨_, rfl⟩
            have e4 : p4.length ≤ 53 := by rw [← hp4]; simp only [List.length_append, List.length_cons, List.length_nil]; omega
            obtain ⟨p5, hp5⟩ : ∃ p, p4 ++ q2 = p := ⟨_, rfl⟩
            have e5 : p5.length ≤ 74 := by rw [← hp5]; simp only [List.length_append, List.length_cons, List.length_nil]; omega
            obtain ⟨p6, hp6⟩ : ∃ p, p5 ++ [32] = p := ⟨_, rfl⟩
            have e6 : p6.length ≤ 75 := by rw [← hp6]; simp only [List.length_append, List.length_cons, List.length_nil]; omega
            have hp7 : p6 ++ q3 = l2 := by
              rw [← hl2, ← hp6, ← hp5, ← hp4, ← hp3, ← hp2, ← hp1, ← hq1, ← hq2, ← hq3, symLine_eq HYO.out.name]
              unfold nameW
              rw [if_neg hnm1.1]
              simp only [spaced, List.map_cons, List.map_nil, List.append_assoc, List.cons_append, List.nil_append, List.append_nil]
            have m1 := txt_sum2 ⟨#[115, 121, 109, 98, 111, 108, 32]⟩ y.name (symT ++ [32]) (bytesS y.name) rfl (txt_bytesS _).symm (by simp only [List.length_append, List.length_cons, List.length_nil]; omega)
            have m2 := txt_sum2 (txt p1) ⟨#[32]⟩ p1 [32] rfl rfl (by simp only [List.length_cons, List.length_nil]; omega)
            have m3 := txt_sum p2 q1 (by omega)
            have m4 := txt_sum2 (txt p3) ⟨#[32]⟩ p3 [32] rfl rfl (by simp only [List.length_cons, List.length_nil]; omega)
            have m5 := txt_sum p4 q2 (by omega)
            have m6 := txt_sum2 (txt p5) ⟨#[32]⟩ p5 [32] rfl rfl (by simp only [List.length_cons, List.length_nil]; omega)
            have m7 := txt_sum p6 q3 (by omega)
            rw [hp1] at m1
            rw [hp2] at m2
            rw [hp3] at m3
            rw [hp4] at m4
            rw [hp5] at m5
            rw [hp6] at m6
            rw [hp7] at m7
            clear hp1 hp2 hp3 hp4 hp5 hp6 hp7
            clear hq1 hq2 hq3 hl2
            let f0 : Nat → Value := fun i => match i with
              | 0 => .slice ra nD rc
              | 1 => .pointer (some ⟨Y, 0, none⟩)
              | 2 => .string y.name
              | 3 => .string (txt p1)
              | 4 => .string (txt p2)
              | 5 => .pointer (some ⟨Y, 1, none⟩)
              | 6 => .int .i64 y.bind
              | 7 => .string (txt q1)
              | 8 => .string (txt p3)
              | 9 => .string (txt p4)
              | 10 => .pointer (some ⟨Y, 2, none⟩)
              | 11 => .int .i64 y.whr
              | 12 => .string (txt q2)
              | 13 => .string (txt p5)
              | 14 => .string (txt p6)
              | 15 => .pointer (some ⟨Y, 3, none⟩)
              | 16 => .int .i64 y.val
              | 17 => .string (txt q3)
              | 18 => .string (txt l2)
              | _ => undef
            refine wp_region_get (fun i v u => (i = 19 → ∃ z', v = .slice (some ⟨z', 0, none⟩) 1 1 ∧ Blk u z' #[.string (txt l2)] 9) ∧ (i = 20 ∨ i = 21 → OwnS u (w.heap.size + 1) v ((DD ++ [l2]).map txt)) ∧ (i ≠ 19 → i ≠ 20 → i ≠ 21 → v = f0 i)) (fun _ f u => (f 20 = false → Below wz.heap.size wz u) ∧ Blk u w.heap.size #[.slice sa n1 sc, .slice (some ⟨b2, off2, none⟩) n2 yc] 28 ∧ From w.heap.size w u) [[], [], [1], [2], [3], [], [5], [6], [4, 7], [8], [], [10], [11], [9, 12], [13], [], [15], [16], [14, 17], [18], [0, 19], [20]] [[], [], [1], [1, 2], [1, 2, 3], [], [5], [5, 6], [1, 2, 3, 4, 5, 6, 7], [1, 2, 3, 4, 5, 6, 7, 8], [], [10], [5, 6, 7, 10, 11], [1, 2, 3, 4, 5, 6, 7, 8, 9, 10, 11, 12], [1, 2, 3, 4, 5, 6, 7, 8, 9, 10, 11, 12, 13], [], [15], [5, 6, 7, 10, 11, 12, 15, 16], [1, 2, 3, 4, 5, 6, 7, 8, 9, 10, 11, 12, 13, 14, 15, 16, 17], [1, 2, 3, 4, 5, 6, 7, 8, 9, 10, 11, 12, 13, 14, 15, 16, 17, 18], [0, 1, 2, 3, 4, 5, 6, 7, 8, 9, 10, 11, 12, 13, 14, 15, 16, 17, 18, 19], [0, 1, 2, 3, 4, 5, 6, 7, 8, 9, 10, 11, 12, 13, 14, 15, 16, 17, 18, 19, 20]] [21] (by kernel_rfl) (by kernel_rfl) (by kernel_rfl) (by kernel_rfl) (by kernel_rfl) ⟨fun _ => ((From.start wz).drew).below, HB.out.drew, HF.out.drew⟩ ?ho ?hq
            case ho =>
              refine ⟨?_, ?_, ?_, ?_, ?_, ?_, ?_, ?_, ?_, ?_, ?_, ?_, ?_, ?_, ?_, ?_, ?_, ?_, ?_, ?_, ?_, ?_, trivial⟩
              · intro n f a9 u K' hfr hn hl hS hv hK'
                have eA8 : a9.tmps.getD 3 undef = .slice ra nD rc := hfr 3 (late_dst (k := 21) (by kernel_rfl) (hl.2.2 21 (by decide)))
                have eB8 : (a9.tmps[3]?).getD undef = .slice ra nD rc := by simpa using eA8
                refine owe_run rfl (wp_val (v := .slice ra nD rc) ?_ (hK' _ _ ⟨fun h => hS.1 (setl_off h), hS.2⟩ (fun _ _ _ h => h) (fun _ => ⟨fun e => absurd e (by decide), fun e => absurd e (by decide), fun _ _ _ => rfl⟩)))
                first
                  | (go_simp; done)
                  | (go_simp; rfl)
              · intro n f a9 u K' hfr hn hl hS hv hK'
                have eA8 : a9.tmps.getD 10 undef = .pointer (some ⟨Y, 0, none⟩) := hfr 10 (no_dst (by kernel_rfl))
                have eB8 : (a9.tmps[10]?).getD undef = .pointer (some ⟨Y, 0, none⟩) := by simpa using eA8
                refine owe_run rfl (wp_val (v := .pointer (some ⟨Y, 0, none⟩)) ?_ (hK' _ _ ⟨fun h => hS.1 (setl_off h), hS.2⟩ (fun _ _ _ h => h) (fun _ => ⟨fun e => absurd e (by decide), fun e => absurd e (by decide), fun _ _ _ => rfl⟩)))
                first
                  | (go_simp; done)
                  | (go_simp; rfl)
              · intro n f a9 u K' hfr hn hl hS hv hK'
                have eA0 : a9.tmps.getD 111 undef = .pointer (some ⟨Y, 0, none⟩) := hv.1.2.2 (by decide) (by decide) (by decide)
                have eB0 : (a9.tmps[111]?).getD undef = .pointer (some ⟨Y, 0, none⟩) := by simpa using eA0
                have cu := (HBY.out.call (hS.1 (hl.2.2 20 (by decide)))).cell
                refine owe_run rfl (wp_val (v := .string y.name) ?_ (hK' _ _ ⟨fun h => hS.1 (setl_off h), hS.2⟩ (fun _ _ _ h => h) (fun _ => ⟨fun e => absurd e (by decide), fun e => absurd e (by decide), fun _ _ _ => rfl⟩)))
                first
                  | (go_simp; done)
                  | (go_simp; rfl)
              · intro n f a9 u K' hfr hn hl hS hv hK'
                have eA0 : a9.tmps.getD 112 undef = .string y.name := hv.1.2.2 (by decide) (by decide) (by decide)
                have eB0 : (a9.tmps[112]?).getD undef = .string y.name := by simpa using eA0
                refine owe_run rfl (wp_val (v := .string (txt p1)) ?_ (hK' _ _ ⟨fun h => hS.1 (setl_off h), hS.2⟩ (fun _ _ _ h => h) (fun _ => ⟨fun e => absurd e (by decide), fun e => absurd e (by decide), fun _ _ _ => rfl⟩)))
                first
                  | (go_simp; done)
                  | (go_simp; rfl)
              · intro n f a9 u K' hfr hn hl hS hv hK'
                have eA0 : a9.tmps.getD 113 undef = .string (txt p1) := hv.1.2.2 (by decide) (by decide) (by decide)
                have eB0 : (a9.tmps[113]?).getD undef = .string (txt p1) := by simpa using eA0
                refine owe_run rfl (wp_val (v := .string (txt p2)) ?_ (hK' _ _ ⟨fun h => hS.1 (setl_off h), hS.2⟩ (fun _ _ _ h => h) (fun _ => ⟨fun e => absurd e (by decide), fun e => absurd e (by decide), fun _ _ _ => rfl⟩)))
                first
                  | (go_simp; done)
                  | (go_simp; rfl)
              · intro n f a9 u K' hfr hn hl hS hv hK'
                have eA8 : a9.tmps.getD 10 undef = .pointer (some ⟨Y, 0, none⟩) := hfr 10 (no_dst (by kernel_rfl))
                have eB8 : (a9.tmps[10]?).getD undef = .pointer (some ⟨Y, 0, none⟩) := by simpa using eA8
                refine owe_run rfl (wp_val (v := .pointer (some ⟨Y, 1, none⟩)) ?_ (hK' _ _ ⟨fun h => hS.1 (setl_off h), hS.2⟩ (fun _ _ _ h => h) (fun _ => ⟨fun e => absurd e (by decide), fun e => absurd e (by decide), fun _ _ _ => rfl⟩)))
                first
                  | (go_simp; done)
                  | (go_simp; rfl)
              · intro n f a9 u K' hfr hn hl hS hv hK'
                have eA0 : a9.tmps.getD 115 undef = .pointer (some ⟨Y, 1, none⟩) := hv.1.2.2 (by decide) (by decide) (by decide)
                have eB0 : (a9.tmps[115]?).getD undef = .pointer (some ⟨Y, 1, none⟩) := by simpa using eA0
                have cu := (HBY.out.call (hS.1 (hl.2.2 20 (by decide)))).cell
                refine owe_run rfl (wp_val (v := .int .i64 y.bind) ?_ (hK' _ _ ⟨fun h => hS.1 (setl_off h), hS.2⟩ (fun _ _ _ h => h) (fun _ => ⟨fun e => absurd e (by decide), fun e => absurd e (by decide), fun _ _ _ => rfl⟩)))
                first
                  | (go_simp; done)
                  | (go_simp; rfl)
              · intro n f a9 u K' hfr hn hl hS hv hK'
                have eA0 : a9.tmps.getD 116 undef = .int .i64 y.bind := hv.1.2.2 (by decide) (by decide) (by decide)
                have eB0 : (a9.tmps[116]?).getD undef = .int .i64 y.bind := by simpa using eA0
                have hbu := (hS.1 (hl.2.2 20 (by decide)))
                refine owe_run rfl (wp_fn rfl (args1 eA0) (enter_fn Tryz.func44 (by kernel_rfl) rfl _ _) ((s_l8Number u y.bind (by omega) (by omega)).mono ?_))
                rw [HQ1.out]
                rintro e u2 ⟨rfl, k5⟩
                exact ⟨_, rfl, hK' _ _ (⟨fun h => (have hb := hS.1 (setl_off h); ((⟨hb, hb.size⟩ : From _ wz u).call k5).below), hS.2.1.call k5, hS.2.2.call k5⟩) (fun j y hj h => ⟨fun e => (have ⟨z, e1, e2⟩ := h.1 e; ⟨z, e1, e2.call k5⟩), fun e => by rcases e with e | e <;> (subst e; exact absurd hj (by decide)), h.2.2⟩) (fun _ => ⟨fun e => absurd e (by decide), fun e => absurd e (by decide), fun _ _ _ => rfl⟩)⟩
              · intro n f a9 u K' hfr hn hl hS hv hK'
                have eA0 : a9.tmps.getD 114 undef = .string (txt p2) := hv.1.2.2 (by decide) (by decide) (by decide)
                have eB0 : (a9.tmps[114]?).getD undef = .string (txt p2) := by simpa using eA0
                have eA1 : a9.tmps.getD 117 undef = .string (txt q1) := hv.2.1.2.2 (by decide) (by decide) (by decide)
                have eB1 : (a9.tmps[117]?).getD undef = .string (txt q1) := by simpa using eA1
                refine owe_run rfl (wp_val (v := .string (txt p3)) ?_ (hK' _ _ ⟨fun h => hS.1 (setl_off h), hS.2⟩ (fun _ _ _ h => h) (fun _ => ⟨fun e => absurd e (by decide), fun e => absurd e (by decide), fun _ _ _ => rfl⟩)))
                first
                  | (go_simp; done)
                  | (go_simp; rfl)
              · intro n f a9 u K' hfr hn hl hS hv hK'
                have eA0 : a9.tmps.getD 118 undef = .string (txt p3) := hv.1.2.2 (by decide) (by decide) (by decide)
                have eB0 : (a9.tmps[118]?).getD undef = .string (txt p3) := by simpa using eA0
                refine owe_run rfl (wp_val (v := .string (txt p4)) ?_ (hK' _ _ ⟨fun h => hS.1 (setl_off h), hS.2⟩ (fun _ _ _ h => h) (fun _ => ⟨fun e => absurd e (by decide), fun e => absurd e (by decide), fun _ _ _ => rfl⟩)))
                first
                  | (go_simp; done)
                  | (go_simp; rfl)
              · intro n f a9 u K' hfr hn hl hS hv hK'
                have eA8 : a9.tmps.getD 10 undef = .pointer (some ⟨Y, 0, none⟩) := hfr 10 (no_dst (by kernel_rfl))
                have eB8 : (a9.tmps[10]?).getD undef = .pointer (some ⟨Y, 0, none⟩) := by simpa using eA8
                refine owe_run rfl (wp_val (v := .pointer (some ⟨Y, 2, none⟩)) ?_ (hK' _ _ ⟨fun h => hS.1 (setl_off h), hS.2⟩ (fun _ _ _ h => h) (fun _ => ⟨fun e => absurd e (by decide), fun e => absurd e (by decide), fun _ _ _ => rfl⟩)))
                first
                  | (go_simp; done)
                  | (go_simp; rfl)
              · intro n f a9 u K' hfr hn hl hS hv hK'
                have eA0 : a9.tmps.getD 120 undef = .pointer (some ⟨Y, 2, none⟩) := hv.1.2.2 (by decide) (by decide) (by decide)
                have eB0 : (a9.tmps[120]?).getD undef = .pointer (some ⟨Y, 2, none⟩) := by simpa using eA0
                have cu := (HBY.out.call (hS.1 (hl.2.2 20 (by decide)))).cell
                refine owe_run rfl (wp_val (v := .int .i64 y.whr) ?_ (hK' _ _ ⟨fun h => hS.1 (setl_off h), hS.2⟩ (fun _ _ _ h => h) (fun _ => ⟨fun e => absurd e (by decide), fun e => absurd e (by decide), fun _ _ _ => rfl⟩)))
                first
                  | (go_simp; done)
                  | (go_simp; rfl)
              · intro n f a9 u K' hfr hn hl hS hv hK'
                have eA0 : a9.tmps.getD 121 undef = .int .i64 y.whr := hv.1.2.2 (by decide) (by decide) (by decide)
                have eB0 : (a9.tmps[121]?).getD undef = .int .i64 y.whr := by simpa using eA0
                have hbu := (hS.1 (hl.2.2 20 (by decide)))
                refine owe_run rfl (wp_fn rfl (args1 eA0) (enter_fn Tryz.func44 (by kernel_rfl) rfl _ _) ((s_l8Number u y.whr (by omega) (by omega)).mono ?_))
                rw [HQ2.out]
                rintro e u2 ⟨rfl, k5⟩
                exact ⟨_, rfl, hK' _ _ (⟨fun h => (have hb := hS.1 (setl_off h); ((⟨hb, hb.size⟩ : From _ wz u).call k5).below), hS.2.1.call k5, hS.2.2.call k5⟩) (fun j y hj h => ⟨fun e => (have ⟨z, e1, e2⟩ := h.1 e; ⟨z, e1, e2.call k5⟩), fun e => by rcases e with e | e <;> (subst e; exact absurd hj (by decide)), h.2.2⟩) (fun _ => ⟨fun e => absurd e (by decide), fun e => absurd e (by decide), fun _ _ _ => rfl⟩)⟩
              · intro n f a9 u K' hfr hn hl hS hv hK'
                have eA0 : a9.tmps.getD 119 undef = .string (txt p4) := hv.1.2.2 (by decide) (by decide) (by decide)
                have eB0 : (a9.tmps[119]?).getD undef = .string (txt p4) := by simpa using eA0
                have eA1 : a9.tmps.getD 122 undef = .string (txt q2) := hv.2.1.2.2 (by decide) (by decide) (by decide)
                have eB1 : (a9.tmps[122]?).getD undef = .string (txt q2) := by simpa using eA1
                refine owe_run rfl (wp_val (v := .string (txt p5)) ?_ (hK' _ _ ⟨fun h => hS.1 (setl_off h), hS.2⟩ (fun _ _ _ h => h) (fun _ => ⟨fun e => absurd e (by decide), fun e => absurd e (by decide), fun _ _ _ => rfl⟩)))
                first
                  | (go_simp; done)
                  | (go_simp; rfl)
              · intro n f a9 u K' hfr hn hl hS hv hK'
                have eA0 : a9.tmps.getD 123 undef = .string (txt p5) := hv.1.2.2 (by decide) (by decide) (by decide)
                have eB0 : (a9.tmps[123]?).getD undef = .string (txt p5) := by simpa using eA0
                refine owe_run rfl (wp_val (v := .string (txt p6)) ?_ (hK' _ _ ⟨fun h => hS.1 (setl_off h), hS.2⟩ (fun _ _ _ h => h) (fun _ => ⟨fun e => absurd e (by decide), fun e => absurd e (by decide), fun _ _ _ => rfl⟩)))
                first
                  | (go_simp; done)
                  | (go_simp; rfl)
              · intro n f a9 u K' hfr hn hl hS hv hK'
                have eA8 : a9.tmps.getD 10 undef = .pointer (some ⟨Y, 0, none⟩) := hfr 10 (no_dst (by kernel_rfl))
                have eB8 : (a9.tmps[10]?).getD undef = .pointer (some ⟨Y, 0, none⟩) := by simpa using eA8
                refine owe_run rfl (wp_val (v := .pointer (some ⟨Y, 3, none⟩)) ?_ (hK' _ _ ⟨fun h => hS.1 (setl_off h), hS.2⟩ (fun _ _ _ h => h) (fun _ => ⟨fun e => absurd e (by decide), fun e => absurd e (by decide), fun _ _ _ => rfl⟩)))
                first
                  | (go_simp; done)
                  | (go_simp; rfl)
              · intro n f a9 u K' hfr hn hl hS hv hK'
                have eA0 : a9.tmps.getD 125 undef = .pointer (some ⟨Y, 3, none⟩) := hv.1.2.2 (by decide) (by decide) (by decide)
                have eB0 : (a9.tmps[125]?).getD undef = .pointer (some ⟨Y, 3, none⟩) := by simpa using eA0
                have cu := (HBY.out.call (hS.1 (hl.2.2 20 (by decide)))).cell
                refine owe_run rfl (wp_val (v := .int .i64 y.val) ?_ (hK' _ _ ⟨fun h => hS.1 (setl_off h), hS.2⟩ (fun _ _ _ h => h) (fun _ => ⟨fun e => absurd e (by decide), fun e => absurd e (by decide), fun _ _ _ => rfl⟩)))
                first
                  | (go_simp; done)
                  | (go_simp; rfl)
              · intro n f a9 u K' hfr hn hl hS hv hK'
                have eA0 : a9.tmps.getD 126 undef = .int .i64 y.val := hv.1.2.2 (by decide) (by decide) (by decide)
                have eB0 : (a9.tmps[126]?).getD undef = .int .i64 y.val := by simpa using eA0
                have hbu := (hS.1 (hl.2.2 20 (by decide)))
                refine owe_run rfl (wp_fn rfl (args1 eA0) (enter_fn Tryz.func44 (by kernel_rfl) rfl _ _) ((s_l8Number u y.val (by omega) (by omega)).mono ?_))
                rw [HQ3.out]
                rintro e u2 ⟨rfl, k5⟩
                exact ⟨_, rfl, hK' _ _ (⟨fun h => (have hb := hS.1 (setl_off h); ((⟨hb, hb.size⟩ : From _ wz u).call k5).below), hS.2.1.call k5, hS.2.2.call k5⟩) (fun j y hj h => ⟨fun e => (have ⟨z, e1, e2⟩ := h.1 e; ⟨z, e1, e2.call k5⟩), fun e => by rcases e with e | e <;> (subst e; exact absurd hj (by decide)), h.2.2⟩) (fun _ => ⟨fun e => absurd e (by decide), fun e => absurd e (by decide), fun _ _ _ => rfl⟩)⟩
              · intro n f a9 u K' hfr hn hl hS hv hK'
                have eA0 : a9.tmps.getD 124 undef = .string (txt p6) := hv.1.2.2 (by decide) (by decide) (by decide)
                have eB0 : (a9.tmps[124]?).getD undef = .string (txt p6) := by simpa using eA0
                have eA1 : a9.tmps.getD 127 undef = .string (txt q3) := hv.2.1.2.2 (by decide) (by decide) (by decide)
                have eB1 : (a9.tmps[127]?).getD undef = .string (txt q3) := by simpa using eA1
                refine owe_run rfl (wp_val (v := .string (txt l2)) ?_ (hK' _ _ ⟨fun h => hS.1 (setl_off h), hS.2⟩ (fun _ _ _ h => h) (fun _ => ⟨fun e => absurd e (by decide), fun e => absurd e (by decide), fun _ _ _ => rfl⟩)))
                first
                  | (go_simp; done)
                  | (go_simp; rfl)
              · intro n f a9 u K' hfr hn hl hS hv hK'
                have eA0 : a9.tmps.getD 128 undef = .string (txt l2) := hv.1.2.2 (by decide) (by decide) (by decide)
                have eB0 : (a9.tmps[128]?).getD undef = .string (txt l2) := by simpa using eA0
                have k5 : Below u.heap.size u (u.alloc (.cells #[.string (txt l2)] 9)) := ((From.start u).alloc _).below
                refine owe_run rfl (wp_val (v := .slice (some ⟨u.heap.size, 0, none⟩) 1 1) (w' := u.alloc (.cells #[.string (txt l2)] 9)) ?_ (hK' _ _ (⟨fun h => (have hb := hS.1 (setl_off h); ((⟨hb, hb.size⟩ : From _ wz u).call k5).below), hS.2.1.call k5, hS.2.2.call k5⟩) (fun j y hj h => ⟨fun e => (have ⟨z, e1, e2⟩ := h.1 e; ⟨z, e1, e2.call k5⟩), fun e => by rcases e with e | e <;> (subst e; exact absurd hj (by decide)), h.2.2⟩) (fun _ => ⟨fun _ => ⟨_, rfl, Blk.new u _ _⟩, fun e => absurd e (by decide), fun e => absurd rfl e⟩)))
                first
                  | (go_simp; done)
                  | (go_simp; rfl)
              · intro n f a9 u K' hfr hn hl hS hv hK'
                have eA0 : a9.tmps.getD 110 undef = .slice ra nD rc := hv.1.2.2 (by decide) (by decide) (by decide)
                obtain ⟨z', e8, hz8⟩ := hv.2.1.1 rfl
                have hb9 := hS.1 hl.1
                have hown := owns_call HRW.out hb9
                have h9b := HB.out.lt
                have hsz := hb9.size
                refine step_append_newD rfl (.tmp 110) (.tmp 129) 23 23 rfl (w.heap.size + 1) 9 j0 (.string ⟨#[]⟩) 1 16 Tryz.underlying23 hj0 ja0 ja1 ja2 rfl (by decide) _ _ _ eA0 hown _ 1 [.string (txt l2)] e8 (src_blk Tryz.underlying23 u z' [.string (txt l2)] 1 1 1 9 hz8 rfl (by intro u hu; obtain rfl := List.mem_singleton.1 hu; rfl)) (by unfold maxLen; omega) (by omega) (by omega) ?_
                intro v' w1 hown1 hgr1 hpl
                have hL4 : OwnS w1 (w.heap.size + 1) v' ((DD ++ [l2]).map txt) := by
                  rw [List.map_append]
                  exact owns_snocS (by rw [HND.out]; exact hown1)
                have hgb : ∀ k', (Value.slice ra nD rc).ownBlock = some k' → w.heap.size + 1 ≤ k' := fun k' hk' => (World.ownsRow.lt HRW.out k' hk').1
                exact hK' _ _ ⟨fun h => (by rw [setl_at] at h; cases h), hS.2.1.grown hgr1 (fun e => by have := hgb _ e.symm; omega), hS.2.2.grown hgr1 (fun k' hk' => by have := hgb k' hk'; omega)⟩ (fun j y hj h => ⟨fun e => by subst e; exact absurd hj (by decide), fun e => by rcases e with e | e <;> (subst e; exact absurd hj (by decide)), h.2.2⟩) (fun _ => ⟨fun e => absurd e (by decide), fun _ => hL4, fun _ e => absurd rfl e⟩)
              · intro n f a9 u K' hfr hn hl hS hv hK'
                have ho := hv.1.2.1 (.inl rfl)
                obtain ⟨v', hv'⟩ : ∃ v', (a9.tmps[130]?).getD undef = v' := ⟨_, rfl⟩
                have e9 : a9.tmps.getD 130 undef = v' := by rw [← hv']; simp
                rw [e9] at ho
                refine owe_run rfl (wp_val (v := v') ?_ (hK' _ _ ⟨fun h => hS.1 (setl_off h), hS.2⟩ (fun _ _ _ h => h) (fun _ => ⟨fun e => absurd e (by decide), fun _ => ho, fun _ _ e => absurd rfl e⟩)))
                first
                  | (go_simp; done)
                  | (go_simp; rfl)
            case hq =>
              intro gg9 u hS hv
              have ho := (hv.2.2.2.2.2.2.2.2.2.2.2.2.2.2.2.2.2.2.2.2.2.1 (by decide)).2.1 (.inr rfl)
              obtain ⟨nD2, hnD2⟩ : ∃ nD2, ((DD ++ [l2]).map txt).length = nD2 := ⟨_, rfl⟩
              obtain ⟨va9, vc9, e10⟩ := owns_form ho
              rw [hnD2] at e10
              rw [e10] at ho
              clear hv f0 m1 m2 m3 m4 m5 m6 m7 e1 e2 e3 e4 e5 e6 t1 t2 t3 HQ1 HQ2 HQ3 hnD2
              simp only [List.map, putG, List.setIfInBounds_toArray, List.set_cons_succ, List.set_cons_zero, Nat.zero_add, Nat.reduceAdd, e10]
              clear e10
              have HL := Lib.hid ho
              have HB := Lib.hid hS.2.1
              have HF := Lib.hid hS.2.2
              clear ho hS
              go_wp2_with fail
              go_roundw
              case rel => exact ⟨j + 1, by omega, by go_num, (by show OwnS _ _ _ _; rw [HTK3.out, ← List.append_assoc, HDD.out]; exact HL.out), HB, HF⟩
              case measure => simp [intOf]; try omega
          · obtain rfl : n2 = j := by omega
            have h9 := HL.out
            rw [← HN2.out, List.take_length, ← ED.out] at h9
            have HL := Lib.hid h9
            clear h9
            go_wp2_with fail
            go_ret
            exact ⟨_, rfl, owns_mono HL.out (Nat.le_succ _), HF.out.below⟩
end Go.Proofs.YtecpdhjangojiaaGreatDoor
