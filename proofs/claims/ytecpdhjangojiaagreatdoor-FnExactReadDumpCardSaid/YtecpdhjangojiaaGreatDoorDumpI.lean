/- Objects dumped: the program's function. -/
import Derived.Test.YtecpdhjangojiaaGreatDoorDumpN
import Derived.Test.YtecpdhjangojiaaGreatDoorObjVal
import Derived.Test.YtecpdhjangojiaaGreatDoorInv
import Derived.Test.YtecpdhjangojiaaGreatDoorMarkO
import Derived.Test.YtecpdhjangojiaaGreatDoorIns
namespace Go.Proofs.YtecpdhjangojiaaGreatDoor
open Go.ChangeShapes Go.WideShapes Go.ChangeAt Go.RowKit Go.Joins
set_option linter.unusedSimpArgs false
set_option linter.unusedVariables false
set_option maxRecDepth 100000
/-- Lines, handed back. -/
def RetL (w : World) (l : List (List UInt8)) (e : Ending) (w' : World) : Prop := ∃ r, e = .returned r ∧ OwnS w' w.heap.size r (l.map txt) ∧ Below w.heap.size w w'
theorem ints_lit (w : World) (c : Array Value) (ns : List Int) (hc : c.toList = ivs ns) (hl : ns.length ≤ 1000) : IntsAt (w.alloc (.cells c 3)) (.slice (some ⟨w.heap.size, 0, none⟩) ns.length ns.length) ns := by
  have hs : c.size = ns.length := by rw [← Array.length_toList, hc, ivs_length]
  have h := World.ownsRow_lit w c (e := 3) (size := 1) (base := w.heap.size) ns.length (Nat.le_refl _) (by unfold maxLen; omega) (by rw [hs]; omega)
  rw [hc] at h
  exact reads_of_owns h
theorem i_wordsB (w : World) (A B : ByteArray) (a b : List UInt8) (hA : A = txt a) (hB : B = txt b) (v : Value) (ns : List Int) (h : IntsAt w v ns) (hn : ∀ n ∈ ns, -9223372036854775808 ≤ n ∧ n ≤ 9223372036854775807) (hl : ns.length ≤ 1000) (ha : a.length ≤ 1000000) (hb : b.length ≤ 1000000) (ht : Tab w) :
    Calls Tryz.prog 34 #[.string A, .string B, v] w fun e w' => e = .returned (.string (txt (a ++ nameW b ++ spaced (ns.map Lib.itoa)))) ∧ Below w.heap.size w w' := by
  subst hA hB
  exact i_wordsLine w a b v ns h hn hl ha hb ht
/-- A section's line, without its bytes. -/
def secLine0 (s : SecD) : List UInt8 := secT ++ nameW (bytesS s.name) ++ spaced ([s.kind, s.align, sectionSize s].map Lib.itoa)
theorem nameB_pos {s : ByteArray} (h : nameB s = true) : bytesS s ≠ [] ∧ (bytesS s).length ≤ 8 := by
  unfold nameB at h
  rw [Bool.and_eq_true] at h
  have h2 := (withinB_iff _ _ _).1 h.2
  have e : (bytesS s).length = s.size := by unfold bytesS; rw [Array.length_toList]; rfl
  refine ⟨fun h0 => ?_, by omega⟩
  rw [h0] at e
  simp at e
  omega
theorem secLine_eq {s : SecD} (h : nameB s.name = true) : secLine s = secLine0 s ++ (if s.bytes = [] then [] else 32 :: hexText s.bytes) := by
  unfold secLine secLine0 secWords lineOf nameW
  rw [if_neg (nameB_pos h).1, spaced_append]
  generalize secT = T
  by_cases hb : s.bytes = []
  · rw [if_pos hb, if_pos hb]
    simp only [spaced, List.map_cons, List.map_nil, List.append_assoc, List.cons_append, List.nil_append, List.append_nil]
  · rw [if_neg hb, if_neg hb]
    simp only [spaced, List.map_cons, List.map_nil, List.append_assoc, List.cons_append, List.nil_append, List.append_nil]
theorem fixLine_eq (f : FixD) : fixLine f = fixT ++ nameW [] ++ spaced ([f.1, f.2.1, f.2.2.1, f.2.2.2].map Lib.itoa) := by
  unfold fixLine fixWords lineOf nameW
  rw [if_pos rfl]
  simp only [spaced, List.map_cons, List.map_nil, List.append_assoc, List.cons_append, List.nil_append, List.append_nil]
theorem symLine_eq {s : SymD} (h : nameB s.name = true) : symLine s = symT ++ nameW (bytesS s.name) ++ spaced ([s.bind, s.whr, s.val].map Lib.itoa) := by
  unfold symLine symWords lineOf nameW
  rw [if_neg (nameB_pos h).1]
  simp only [spaced, List.map_cons, List.map_nil, List.append_assoc, List.cons_append, List.nil_append, List.append_nil]
theorem small_range {n : Int} (h0 : -1000000 ≤ n) (h1 : n ≤ 1000000) : -9223372036854775808 ≤ n ∧ n ≤ 9223372036854775807 := by omega
theorem itoa_small {n : Int} (h0 : -1000000 ≤ n) (h1 : n ≤ 1000000) : (Lib.itoa n).length ≤ 21 := Lib.itoa_length_le n (by omega) (by omega)
theorem secLine0_len {s : SecD} {m : Int} (h : SecOk s m) : (secLine0 s).length ≤ 200 := by
  have h1 := (nameB_pos h.name).2
  have h2 := h.kind
  have h3 := (alignB_iff _).1 h.align
  have h4 := secSize_ok h
  have a1 := itoa_small (n := s.kind) (by omega) (by omega)
  have a2 := itoa_small (n := s.align) (by omega) (by omega)
  have a3 := itoa_small (n := sectionSize s) (by omega) (by omega)
  unfold secLine0 nameW
  split <;> simp [spaced] <;> omega
theorem secDump_len (s : SecD) : (secDump s).length = 1 + s.fix.length := by
  unfold secDump
  rw [List.length_cons, List.length_map]
  omega
theorem dumpS_len (o : ObjD) (h : objB o = true) : (o.secs.flatMap secDump).length ≤ 56 := by
  have hf := objB_few8 h
  have h1 : ∀ l : List SecD, (∀ s ∈ l, s.fix.length ≤ 6) → (l.flatMap secDump).length ≤ 7 * l.length := by
    intro l
    induction l with
    | nil => intro _; simp
    | cons s r ih =>
      intro hl
      have h2 := hl s (List.mem_cons_self ..)
      have h3 := ih fun x hx => hl x (List.mem_cons_of_mem _ hx)
      rw [List.flatMap_cons, List.length_append, List.length_cons, secDump_len]
      omega
  have h2 := h1 o.secs fun s hs => (objB_sec h hs).fixl
  omega
theorem dumpT_len (o : ObjD) (h : objB o = true) (k : Nat) : ((o.secs.take k).flatMap secDump).length ≤ 56 := by
  have h1 := dumpS_len o h
  have e : o.secs.flatMap secDump = (o.secs.take k).flatMap secDump ++ (o.secs.drop k).flatMap secDump := by rw [← List.flatMap_append, List.take_append_drop]
  rw [e, List.length_append] at h1
  omega
set_option maxHeartbeats 8000000 in
theorem i_DumpObject (w : World) (v : Value) (o : ObjD) (h : ObjAt w v o) (hs : (∀ s ∈ o.secs, s.name.size ≤ maxLen) ∧ ∀ s ∈ o.syms, s.name.size ≤ maxLen) (ht : Tab w) :
    Calls Tryz.prog 11 #[v] w (RetL w (dumpL o)) := by
  obtain ⟨j0, hj0, ja0, ja1, ja2⟩ := info_parts info_str
  have HO := Lib.hid h
  have HN0 := Lib.hid hs
  have HT := Lib.hid ht
  obtain ⟨vs, vy, rfl, h1, h2⟩ := h
  obtain ⟨sa, sc, rfl, hcap, hmax, -, hcell⟩ := h1.form
  obtain ⟨ya, yc, rfl, hcap2, hmax2, -, hcell2⟩ := h2.form
  have HC := Lib.hid hcell
  have HD := Lib.hid hcell2
  clear h1 h2 hcell hcell2 hs ht
  unfold maxLen at hmax hmax2
  obtain ⟨n1, hn1⟩ : ∃ n1, o.secs.length = n1 := ⟨_, rfl⟩
  obtain ⟨n2, hn2⟩ : ∃ n2, o.syms.length = n2 := ⟨_, rfl⟩
  have HN1 := Lib.hid hn1
  have HN2 := Lib.hid hn2
  rw [hn1] at hcap HO ⊢
  rw [hn2] at hcap2 HO ⊢
  clear hn1 hn2
  cases hq : objB o
  · have E : dumpL o = [] := by unfold dumpL; rw [hq]; rfl
    rw [E]
    go_enter Tryz.func11, Tryz.ntmps11
    go_wp2_with fail
    refine (i_ObjectValid _ _ o (HO.out.below (Nat.le_refl _) (((From.start w).alloc _).alloc _).below) HN0.out).mono ?_
    rw [hq]
    rintro e w2 ⟨rfl, k2⟩
    have HF2 := Lib.hid ((((From.start w).alloc (.cells #[.slice sa n1 sc, .slice ya n2 yc] 28)).alloc (.cells #[] 9)).call k2)
    have hl1 : OwnS (w.alloc (.cells #[.slice sa n1 sc, .slice ya n2 yc] 28) |>.alloc (.cells #[] 9)) w.heap.size (.slice (some ⟨w.heap.size + 1, 0, none⟩) 0 0) [] := by
      have h9 := World.ownsRow_lit (w.alloc (.cells #[.slice sa n1 sc, .slice ya n2 yc] 28)) #[] (e := 9) (size := 1) (base := w.heap.size) 0 (by simp) (Nat.zero_le _) rfl
      unfold OwnS
      simpa [svs] using h9
    have HL1 := Lib.hid (owns_call hl1 k2)
    clear k2 hq hl1
    go_wp2_with fail
    go_ret
    exact ⟨_, rfl, HL1.out, HF2.out.below⟩
  have HV := Lib.hid hq
  have hf1 := (objB_few8 hq).1
  have hf2 := (objB_few8 hq).2
  rw [HN1.out] at hf1
  rw [HN2.out] at hf2
  have ED : Hid (dumpL o = o.secs.flatMap secDump ++ o.syms.map symLine) := by show _ = _; unfold dumpL; rw [hq, if_pos rfl]
  have HTL : Hid (∀ k, ((o.secs.take k).flatMap secDump).length ≤ 56) := dumpT_len o hq
  go_enter Tryz.func11, Tryz.ntmps11
  go_wp2_with fail
  refine (i_ObjectValid _ _ o (HO.out.below (Nat.le_refl _) (((From.start w).alloc _).alloc _).below) HN0.out).mono ?_
  rw [hq]
  rintro e w2 ⟨rfl, k2⟩
  have HF2 := Lib.hid ((((From.start w).alloc (.cells #[.slice sa n1 sc, .slice ya n2 yc] 28)).alloc (.cells #[] 9)).call k2)
  have HB2 := Lib.hid (((Blk.new w #[.slice sa n1 sc, .slice ya n2 yc] 28).alloc (.cells #[] 9)).call k2)
  have hl1 : OwnS (w.alloc (.cells #[.slice sa n1 sc, .slice ya n2 yc] 28) |>.alloc (.cells #[] 9)) (w.heap.size + 1) (.slice (some ⟨w.heap.size + 1, 0, none⟩) 0 0) [] := by
    have h9 := World.ownsRow_lit (w.alloc (.cells #[.slice sa n1 sc, .slice ya n2 yc] 28)) #[] (e := 9) (size := 1) (base := w.heap.size + 1) 0 (by simp) (Nat.zero_le _) rfl
    unfold OwnS
    simpa [svs] using h9
  have HL2 := Lib.hid (owns_call hl1 k2)
  clear k2 hq hl1
  have cB := HB2.out.cell
  have zB := HB2.out.lt
  go_wp2_with fail
  clear cB zB
  go_loopw [3, 19] (fun s i wr => ∃ k : Nat, k ≤ n1 ∧ i = .int .i64 (k : Int) ∧ Hid (OwnS wr (w.heap.size + 1) s (((o.secs.take k).flatMap secDump).map txt)) ∧ Hid (Blk wr w.heap.size #[.slice sa n1 sc, .slice ya n2 yc] 28) ∧ Hid (From w.heap.size w wr)) (fun _ i _ => n1 - (intOf i).toNat)
  case atStart => exact ⟨0, Nat.zero_le _, rfl, HL2, HB2, HF2⟩
  case round =>
    clear HL2 HB2 HF2
    obtain ⟨w0, rfl⟩ : ∃ w0, w0 = wr := ⟨_, rfl⟩
    obtain ⟨k, hk, rfl, HL, HB, HF⟩ := hrel
    by_cases hlt : k < n1
    · have i1 : (k : Int) < (n1 : Int) := by omega
      have hlt' : k < o.secs.length := by have := HN1.out; omega
      obtain ⟨b, off, rfl, hc⟩ := HC.out (by omega)
      obtain ⟨vb, vf, hb, hf, c0, c1, c2, c3, c4, c5⟩ := hc k hlt'
      have hbl : b < w.heap.size := World.block_lt_of_cell? w _ c0
      have g0 := (HF.out.below.cell (p := ⟨b, off + k * 6, none⟩) hbl).trans c0
      have g1 := (HF.out.below.cell (p := ⟨b, off + k * 6 + 1, none⟩) hbl).trans c1
      have g2 := (HF.out.below.cell (p := ⟨b, off + k * 6 + 2, none⟩) hbl).trans c2
      have g3 := (HF.out.below.cell (p := ⟨b, off + k * 6 + 3, none⟩) hbl).trans c3
      have g4 := (HF.out.below.cell (p := ⟨b, off + k * 6 + 4, none⟩) hbl).trans c4
      have g5 := (HF.out.below.cell (p := ⟨b, off + k * 6 + 5, none⟩) hbl).trans c5
      obtain ⟨ba, bc, rfl, -⟩ := hb.form
      obtain ⟨fa, fc, rfl, -⟩ := hf.form
      have HBy0 := Lib.hid hb
      have HFi0 := Lib.hid hf
      have HX := Lib.hid (objB_sec HV.out (List.getElem_mem hlt') : SecOk o.secs[k] o.syms.length)
      have HTK : Hid (∀ L, (o.secs.take k).flatMap secDump ++ (secLine o.secs[k] :: L) = (o.secs.take k).flatMap secDump ++ [secLine o.secs[k]] ++ L) := fun L => by simp
      have HTK2 : Hid ((o.secs.take k).flatMap secDump ++ [secLine o.secs[k]] ++ o.secs[k].fix.map fixLine = (o.secs.take (k + 1)).flatMap secDump) := by
        show _ = _
        rw [List.take_succ_eq_append_getElem hlt', List.flatMap_append, List.flatMap_singleton]
        unfold secDump
        simp
      have hdl := HTL.out k
      clear hc c0 c1 c2 c3 c4 c5 hb hf
      generalize (o.secs.take k).flatMap secDump = D0 at *
      generalize o.secs[k] = x at *
      have i3 : (0 : Int) ≤ (k : Int) := by omega
      have hbl1 := HX.out.bytes
      have hfl1 := HX.out.fixl
      obtain ⟨nb, hnb⟩ : ∃ nb, x.bytes.length = nb := ⟨_, rfl⟩
      obtain ⟨nf, hnf⟩ : ∃ nf, x.fix.length = nf := ⟨_, rfl⟩
      rw [hnb] at g3 HBy0 hbl1
      rw [hnf] at g5 HFi0 hfl1
      have HNB := Lib.hid hnb
      have HNF := Lib.hid hnf
      clear hnb hnf
      obtain ⟨X, hX⟩ : ∃ X, w0.heap.size = X := ⟨_, rfl⟩
      go_wp2_with fail

      have HBX := Lib.hid (Blk.newAt w0 #[.string x.name, .int .i64 x.kind, .int .i64 x.align, .slice ba nb bc, .int .i64 x.size, .slice fa nf fc] 52 X hX.symm)
      have HFX := Lib.hid ((From.start w0).alloc (.cells #[.string x.name, .int .i64 x.kind, .int .i64 x.align, .slice ba nb bc, .int .i64 x.size, .slice fa nf fc] 52))
      have HL := Lib.hid (owns_call HL.out HFX.out.below)
      have HB := Lib.hid (HB.out.call HFX.out.below)
      have HF := Lib.hid (HF.out.call HFX.out.below)
      try simp only [hX]
      generalize hwx : w0.alloc (.cells #[.string x.name, .int .i64 x.kind, .int .i64 x.align, .slice ba nb bc, .int .i64 x.size, .slice fa nf fc] 52) = wx at *
      clear hwx HFX g0 g1 g2 g3 g4 g5
      have hXM : X < wx.heap.size := HBX.out.lt
      have HBw : Hid (BytesAt wx (.slice ba nb bc) x.bytes) := HBy0.out.below (Nat.le_refl _) HF.out.below
      have HFw : Hid (FixAt wx (.slice fa nf fc) x.fix) := HFi0.out.below (Nat.le_refl _) HF.out.below
      have HTw : Hid (Tab wx) := HT.out.call HF.out.below
      clear HBy0
      obtain ⟨ssz, hssz⟩ : ∃ z, sectionSize x = z := ⟨_, rfl⟩
      have HSZ := Lib.hid hssz
      have hsx : Hid (∀ u, Below wx.heap.size wx u → SecAt u (.agg #[.string x.name, .int .i64 x.kind, .int .i64 x.align, .slice ba nb bc, .int .i64 x.size, .slice fa nf fc]) x) := fun u hu => ⟨_, _, rfl, HBw.out.below (Nat.le_refl _) hu, HFw.out.below (Nat.le_refl _) hu⟩
      obtain ⟨l0, hl0⟩ : ∃ l0, secLine0 x = l0 := ⟨_, rfl⟩
      have HL0 := Lib.hid hl0
      have hl0l := secLine0_len HX.out
      rw [hl0] at hl0l
      clear hssz hl0
      let f0 : Nat → Value := fun i => match i with
        | 0 => .pointer (some ⟨X, 0, none⟩)
        | 1 => .string x.name
        | 2 => .pointer (some ⟨X, 1, none⟩)
        | 3 => .int .i64 x.kind
        | 4 => .pointer (some ⟨X, 2, none⟩)
        | 5 => .int .i64 x.align
        | 6 => .agg #[.string x.name, .int .i64 x.kind, .int .i64 x.align, .slice ba nb bc, .int .i64 x.size, .slice fa nf fc]
        | 7 => .int .i64 ssz
        | 9 => .string (txt l0)
        | 10 => .string (txt l0)
        | _ => undef
      refine wp_region_get (fun i v u => (i = 8 → IntsAt u v [x.kind, x.align, ssz]) ∧ (i ≠ 8 → v = f0 i)) (fun _ f u => Below wx.heap.size wx u) [[], [0], [], [2], [], [4], [], [6], [3, 5, 7], [1, 8], [9]] [[], [0], [], [2], [], [4], [], [6], [2, 3, 4, 5, 6, 7], [0, 1, 2, 3, 4, 5, 6, 7, 8], [0, 1, 2, 3, 4, 5, 6, 7, 8, 9]] [10] (by kernel_rfl) (by kernel_rfl) (by kernel_rfl) (by kernel_rfl) (by kernel_rfl) ((From.start wx).drew).below ?ho ?hq
      case ho =>
        refine ⟨?_, ?_, ?_, ?_, ?_, ?_, ?_, ?_, ?_, ?_, ?_, trivial⟩
        · intro n f a9 u K' hfr hn hl hS hv hK'
          have eA8 : a9.tmps.getD 5 undef = .pointer (some ⟨X, 0, none⟩) := hfr 5 (no_dst (by kernel_rfl))
          have eB8 : (a9.tmps[5]?).getD undef = .pointer (some ⟨X, 0, none⟩) := by simpa using eA8
          refine owe_run rfl (wp_val (v := .pointer (some ⟨X, 0, none⟩)) ?_ (hK' _ _ hS (fun _ _ _ h => h) (fun _ => ⟨fun e => absurd e (by decide), fun _ => rfl⟩)))
          first
            | (go_simp; done)
            | (go_simp; rfl)
        · intro n f a9 u K' hfr hn hl hS hv hK'
          have eA0 : a9.tmps.getD 23 undef = .pointer (some ⟨X, 0, none⟩) := hv.1.2 (by decide)
          have eB0 : (a9.tmps[23]?).getD undef = .pointer (some ⟨X, 0, none⟩) := by simpa using eA0
          have cu := (HBX.out.call hS).cell
          refine owe_run rfl (wp_val (v := .string x.name) ?_ (hK' _ _ hS (fun _ _ _ h => h) (fun _ => ⟨fun e => absurd e (by decide), fun _ => rfl⟩)))
          first
            | (go_simp; done)
            | (go_simp; rfl)
        · intro n f a9 u K' hfr hn hl hS hv hK'
          have eA8 : a9.tmps.getD 5 undef = .pointer (some ⟨X, 0, none⟩) := hfr 5 (no_dst (by kernel_rfl))
          have eB8 : (a9.tmps[5]?).getD undef = .pointer (some ⟨X, 0, none⟩) := by simpa using eA8
          refine owe_run rfl (wp_val (v := .pointer (some ⟨X, 1, none⟩)) ?_ (hK' _ _ hS (fun _ _ _ h => h) (fun _ => ⟨fun e => absurd e (by decide), fun _ => rfl⟩)))
          first
            | (go_simp; done)
            | (go_simp; rfl)
        · intro n f a9 u K' hfr hn hl hS hv hK'
          have eA0 : a9.tmps.getD 25 undef = .pointer (some ⟨X, 1, none⟩) := hv.1.2 (by decide)
          have eB0 : (a9.tmps[25]?).getD undef = .pointer (some ⟨X, 1, none⟩) := by simpa using eA0
          have cu := (HBX.out.call hS).cell
          refine owe_run rfl (wp_val (v := .int .i64 x.kind) ?_ (hK' _ _ hS (fun _ _ _ h => h) (fun _ => ⟨fun e => absurd e (by decide), fun _ => rfl⟩)))
          first
            | (go_simp; done)
            | (go_simp; rfl)
        · intro n f a9 u K' hfr hn hl hS hv hK'
          have eA8 : a9.tmps.getD 5 undef = .pointer (some ⟨X, 0, none⟩) := hfr 5 (no_dst (by kernel_rfl))
          have eB8 : (a9.tmps[5]?).getD undef = .pointer (some ⟨X, 0, none⟩) := by simpa using eA8
          refine owe_run rfl (wp_val (v := .pointer (some ⟨X, 2, none⟩)) ?_ (hK' _ _ hS (fun _ _ _ h => h) (fun _ => ⟨fun e => absurd e (by decide), fun _ => rfl⟩)))
          first
            | (go_simp; done)
            | (go_simp; rfl)
        · intro n f a9 u K' hfr hn hl hS hv hK'
          have eA0 : a9.tmps.getD 27 undef = .pointer (some ⟨X, 2, none⟩) := hv.1.2 (by decide)
          have eB0 : (a9.tmps[27]?).getD undef = .pointer (some ⟨X, 2, none⟩) := by simpa using eA0
          have cu := (HBX.out.call hS).cell
          refine owe_run rfl (wp_val (v := .int .i64 x.align) ?_ (hK' _ _ hS (fun _ _ _ h => h) (fun _ => ⟨fun e => absurd e (by decide), fun _ => rfl⟩)))
          first
            | (go_simp; done)
            | (go_simp; rfl)
        · intro n f a9 u K' hfr hn hl hS hv hK'
          have eA8 : a9.tmps.getD 5 undef = .pointer (some ⟨X, 0, none⟩) := hfr 5 (no_dst (by kernel_rfl))
          have eB8 : (a9.tmps[5]?).getD undef = .pointer (some ⟨X, 0, none⟩) := by simpa using eA8
          have cu := (HBX.out.call hS).cell
          have zu := (HBX.out.call hS).lt
          refine owe_run rfl (wp_val (v := .agg #[.string x.name, .int .i64 x.kind, .int .i64 x.align, .slice ba nb bc, .int .i64 x.size, .slice fa nf fc]) ?_ (hK' _ _ hS (fun _ _ _ h => h) (fun _ => ⟨fun e => absurd e (by decide), fun _ => rfl⟩)))
          first
            | (go_simp; done)
            | (go_simp; rfl)
        · intro n f a9 u K' hfr hn hl hS hv hK'
          have eA0 : a9.tmps.getD 29 undef = .agg #[.string x.name, .int .i64 x.kind, .int .i64 x.align, .slice ba nb bc, .int .i64 x.size, .slice fa nf fc] := hv.1.2 (by decide)
          refine owe_run rfl (wp_fn rfl (args1 eA0) (enter_fn Tryz.func35 (by kernel_rfl) rfl _ _) ((i_SectionSize u _ x (hsx.out u hS)).mono ?_))
          rw [HSZ.out]
          rintro e u2 ⟨rfl, k5⟩
          exact ⟨_, rfl, hK' _ _ (((⟨hS, hS.size⟩ : From _ wx u).call k5).below) (fun j y hj h => ⟨fun e => Reads.below (h.1 e) (Nat.le_refl _) k5, h.2⟩) (fun _ => ⟨fun e => absurd e (by decide), fun _ => rfl⟩)⟩
        · intro n f a9 u K' hfr hn hl hS hv hK'
          have eA0 : a9.tmps.getD 26 undef = .int .i64 x.kind := hv.1.2 (by decide)
          have eA1 : a9.tmps.getD 28 undef = .int .i64 x.align := hv.2.1.2 (by decide)
          have eA2 : a9.tmps.getD 30 undef = .int .i64 ssz := hv.2.2.1.2 (by decide)
          have eB0 : (a9.tmps[26]?).getD undef = .int .i64 x.kind := by simpa using eA0
          have eB1 : (a9.tmps[28]?).getD undef = .int .i64 x.align := by simpa using eA1
          have eB2 : (a9.tmps[30]?).getD undef = .int .i64 ssz := by simpa using eA2
          have k5 := ((From.start u).alloc (.cells #[.int .i64 x.kind, .int .i64 x.align, .int .i64 ssz] 3)).below
          refine owe_run rfl (wp_val (v := .slice (some ⟨u.heap.size, 0, none⟩) 3 3) (w' := u.alloc (.cells #[.int .i64 x.kind, .int .i64 x.align, .int .i64 ssz] 3)) ?_ (hK' _ _ (((⟨hS, hS.size⟩ : From _ wx u).call k5).below) (fun j y hj h => ⟨fun e => Reads.below (h.1 e) (Nat.le_refl _) k5, h.2⟩) (fun _ => ⟨fun _ => ints_lit u _ [x.kind, x.align, ssz] rfl (by simp), fun e => absurd rfl e⟩)))
          first
            | (go_simp; done)
            | (go_simp; rfl)
        · intro n f a9 u K' hfr hn hl hS hv hK'
          have eA0 : a9.tmps.getD 24 undef = .string x.name := hv.1.2 (by decide)
          have hi8 := hv.2.1.1 rfl
          obtain ⟨v8, hv8⟩ : ∃ v8, a9.tmps.getD 31 undef = v8 := ⟨_, rfl⟩
          rw [hv8] at hi8
          have hX2 := HX.out
          have hk1 := hX2.kind
          have ha1 := (alignB_iff _).1 hX2.align
          have hz1 := secSize_ok hX2
          rw [HSZ.out] at hz1
          refine owe_run rfl (wp_fn rfl (args3 rfl eA0 hv8) (enter_fn Tryz.func34 (by kernel_rfl) rfl _ _) ((i_wordsB u _ _ secT (bytesS x.name) rfl (txt_bytesS _).symm v8 [x.kind, x.align, ssz] hi8 (fun n hn => by
            simp only [List.mem_cons, List.not_mem_nil, or_false] at hn
            rcases hn with rfl | rfl | rfl <;> exact small_range (by omega) (by omega)) (by simp) (by decide) (by have := (nameB_pos hX2.name).2; omega) (HTw.out.call hS)).mono ?_))
          have e9 : secT ++ nameW (bytesS x.name) ++ spaced ([x.kind, x.align, ssz].map Lib.itoa) = l0 := by rw [← HL0.out, ← HSZ.out]; rfl
          rw [e9]
          rintro e u2 ⟨rfl, k5⟩
          exact ⟨_, rfl, hK' _ _ (((⟨hS, hS.size⟩ : From _ wx u).call k5).below) (fun j y hj h => ⟨fun e => Reads.below (h.1 e) (Nat.le_refl _) k5, h.2⟩) (fun _ => ⟨fun e => absurd e (by decide), fun _ => rfl⟩)⟩
        · intro n f a9 u K' hfr hn hl hS hv hK'
          have eA0 : a9.tmps.getD 32 undef = .string (txt l0) := hv.1.2 (by decide)
          have eB0 : (a9.tmps[32]?).getD undef = .string (txt l0) := by simpa using eA0
          refine owe_run rfl (wp_val (v := .string (txt l0)) ?_ (hK' _ _ hS (fun _ _ _ h => h) (fun _ => ⟨fun e => absurd e (by decide), fun _ => rfl⟩)))
          first
            | (go_simp; done)
            | (go_simp; rfl)
      case hq =>
        intro gg9 u hS hv
        have hv10 : gg9 10 = .string (txt l0) := (hv.2.2.2.2.2.2.2.2.2.2.1 (by decide)).2 (by decide)
        clear hv f0
        simp only [List.map, putG, List.setIfInBounds_toArray, List.set_cons_succ, List.set_cons_zero, Nat.zero_add, Nat.reduceAdd, hv10]
        clear hv10
        have HBX := Lib.hid (HBX.out.call hS)
        have HL := Lib.hid (owns_call HL.out hS)
        have HB := Lib.hid (HB.out.call hS)
        have HF := Lib.hid (HF.out.call hS)
        have HBw := Lib.hid (HBw.out.below (Nat.le_refl _) hS)
        have HFw := Lib.hid (HFw.out.below (Nat.le_refl _) hS)
        have HTw := Lib.hid (HTw.out.call hS)
        have zxu : X < u.heap.size := HBX.out.lt
        clear hS hsx hXM
        have cX := HBX.out.cell
        have zX := HBX.out.lt
        have hhx : secLine x = l0 ++ (if x.bytes = [] then [] else 32 :: hexText x.bytes) := by rw [secLine_eq HX.out.name, HL0.out]
        obtain ⟨l1, hl1⟩ : ∃ l1, secLine x = l1 := ⟨_, rfl⟩
        have HL1 := Lib.hid hl1
        rw [hl1] at hhx
        have HHX := Lib.hid hhx
        clear hl1 hhx
        go_upto_if 36 with fail
        go_cut [6] (fun s6 wy => s6 = .string (txt l1) ∧ Hid (Below u.heap.size u wy))
        case first =>
          by_cases hnz : nb = 0
          · have i5 : ¬ (0 : Int) < (nb : Int) := by omega
            have e5 : Hid (l1 = l0) := by
              show _ = _
              rw [HHX.out, if_pos (List.eq_nil_of_length_eq_zero (HNB.out.trans hnz)), List.append_nil]
            clear hnz
            go_wp2_with fail
            go_meet
            case rel => exact ⟨by rw [e5.out], Below.refl _ _⟩
          · have i5 : (0 : Int) < (nb : Int) := by omega
            have hhl := hexText_length x.bytes
            rw [HNB.out] at hhl
            have e5 : Hid (l1 = l0 ++ 32 :: hexText x.bytes) := by
              show _ = _
              rw [HHX.out, if_neg (fun e => hnz (by rw [← HNB.out, e]; rfl))]
            obtain ⟨hx5, hhx5⟩ : ∃ q, hexText x.bytes = q := ⟨_, rfl⟩
            have hq1 : ∀ u' : World, Below u.heap.size u u' → Calls Tryz.prog 36 #[.slice ba nb bc] u' fun e w' => e = .returned (.string (txt hx5)) ∧ Below u'.heap.size u' w' := fun u' hu => by
              rw [← hhx5]
              exact i_HexText u' _ x.bytes (HBw.out.below (Nat.le_refl _) hu) (by rw [HNB.out]; omega)
            rw [hhx5] at hhl e5
            have HQ1 := Lib.hid hq1
            have k3 := txt_cons hx5 (by omega)
            have k4 := txt_sum l0 (32 :: hx5) (by simp only [List.length_cons]; omega)
            clear hnz hhx5 hq1
            go_wp2_with fail
            refine (HQ1.out u (Below.refl _ _)).mono ?_
            rintro e u2 ⟨rfl, k5⟩
            have K5 := Lib.hid k5
            clear k5
            go_wp2_with fail
            go_meet
            case rel => exact ⟨by rw [e5.out], K5.out⟩
        case rest =>
          obtain ⟨rfl, hbw⟩ := hcut
          have HBX := Lib.hid (HBX.out.call hbw.out)
          have HL := Lib.hid (owns_call HL.out hbw.out)
          have HB := Lib.hid (HB.out.call hbw.out)
          have HF := Lib.hid (HF.out.call hbw.out)
          clear hbw cX zX zxu HBw HFw HTw
          obtain ⟨nD, hnD⟩ : ∃ nD, ((D0).map txt).length = nD := ⟨_, rfl⟩
          have hrow := HL.out
          unfold OwnS at hrow
          rw [hnD] at hrow
          obtain ⟨ra, rc, rfl⟩ := owns_form hrow
          have HRW := Lib.hid hrow
          have hnl : nD ≤ 100 := by rw [← hnD, List.length_map]; omega
          have HND := Lib.hid hnD
          clear hrow hnD HL
          go_wp2_with (at_builtin; go_loud (refine wpList_append_own rfl (.tmp 43) (.tmp 45) 23 23 rfl (w.heap.size + 1) 9 j0 (.string ⟨#[]⟩) 1 16 Tryz.underlying23 hj0 ja0 ja1 ja2 rfl (by decide) _ _ _ rfl (World.ownsRow.alloc HRW.out _) _ 1 [_] rfl (src_new Tryz.underlying23 _ [_] 1 1 1 _ rfl ?c0) ?c1 ?c2 ?c3 ?_))
          case c0 => first | rfl | exact ⟨rfl⟩ | (intro u hu; obtain rfl := List.mem_singleton.1 hu; rfl)
          case c1 => unfold maxLen; omega
          case c2 => omega
          case c3 => have h9 := HB.out.lt; first | omega | (simp; omega)
          intro v' w4 hown hgr hpl
          have hL4 : OwnS w4 (w.heap.size + 1) v' ((D0 ++ [l1]).map txt) := by
            rw [List.map_append]
            exact owns_snocS (by rw [HND.out]; exact hown)
          have hgb : ∀ k', (Value.slice ra nD rc).ownBlock = some k' → w.heap.size + 1 ≤ k' := fun k' hk' => (World.ownsRow.lt HRW.out k' hk').1
          have HL := Lib.hid hL4
          have HB := Lib.hid (Blk.grown (HB.out.alloc (.cells #[.string (txt l1)] 9)) hgr (fun e => by have := hgb _ e.symm; omega))
          have HF := Lib.hid (From.grown (HF.out.alloc (.cells #[.string (txt l1)] 9)) hgr (fun k' hk' => by have := hgb k' hk'; omega))
          have HBX := Lib.hid (Blk.grown (HBX.out.alloc (.cells #[.string (txt l1)] 9)) hgr (fun e => blk_apart (HBX.out.alloc (.cells #[.string (txt l1)] 9)) (World.ownsRow.alloc HRW.out (.cells #[.string (txt l1)] 9)) (by decide) e))
          clear hown hgr hpl hL4 hgb HRW HND hnl
          have cX := HBX.out.cell
          have zX := HBX.out.lt
          go_wp2_with fail

          clear cX zX HBX
          go_loopw [3, 50] (fun s i wr => ∃ j : Nat, j ≤ nf ∧ i = .int .i64 (j : Int) ∧ Hid (OwnS wr (w.heap.size + 1) s ((D0 ++ [l1] ++ (x.fix.take j).map fixLine).map txt)) ∧ Hid (Blk wr w.heap.size #[.slice (some ⟨b, off, none⟩) n1 sc, .slice ya n2 yc] 28) ∧ Hid (From w.heap.size w wr)) (fun _ i _ => nf - (intOf i).toNat)
          case atStart => exact ⟨0, Nat.zero_le _, rfl, (by show OwnS _ _ _ _; simpa using HL.out), HB, HF⟩
          case round =>
            clear HL HB HF
            obtain ⟨j, hj, rfl, HL, HB, HF⟩ := hrel
            by_cases hlt2 : j < nf
            · have i5 : (j : Int) < (nf : Int) := by omega
              have i6 : (0 : Int) ≤ (j : Int) := by omega
              have hlt3 : j < x.fix.length := by rw [HNF.out]; exact hlt2
              have hfi := HFi0.out
              rw [← HNF.out] at hfi
              obtain ⟨fa2, fc2, hfv, -, -, -, hfc⟩ := hfi.form
              simp only [Value.slice.injEq] at hfv
              obtain ⟨rfl, -, rfl⟩ := hfv
              obtain ⟨b2, off2, rfl, hc2⟩ := hfc (by omega)
              obtain ⟨c0, c1, c2, c3⟩ := hc2 j hlt3
              have hbl2 : b2 < w.heap.size := World.block_lt_of_cell? w _ c0
              have g0 := (HF.out.below.cell (p := ⟨b2, off2 + j * 4, none⟩) hbl2).trans c0
              have g1 := (HF.out.below.cell (p := ⟨b2, off2 + j * 4 + 1, none⟩) hbl2).trans c1
              have g2 := (HF.out.below.cell (p := ⟨b2, off2 + j * 4 + 2, none⟩) hbl2).trans c2
              have g3 := (HF.out.below.cell (p := ⟨b2, off2 + j * 4 + 3, none⟩) hbl2).trans c3
              have HFO := Lib.hid (HX.out.fix _ (List.getElem_mem hlt3))
              have HTK3 : Hid ((x.fix.take (j + 1)).map fixLine = (x.fix.take j).map fixLine ++ [fixLine x.fix[j]]) := by
                show _ = _
                rw [List.take_succ_eq_append_getElem hlt3, List.map_append]
                rfl
              have hdl2 : ((x.fix.take j).map fixLine).length ≤ 6 := by rw [List.length_map, List.length_take]; omega
              clear hc2 c0 c1 c2 c3 hfc
              generalize (x.fix.take j).map fixLine = D1 at *
              generalize x.fix[j]'hlt3 = y at *
              obtain ⟨Y, hY⟩ : ∃ Y, wr.heap.size = Y := ⟨_, rfl⟩
              have htw : Hid (Tab wr) := HT.out.call HF.out.below
              go_wp2_with fail

              have kA := ((From.start wr).alloc (.cells #[.int .i64 y.1, .int .i64 y.2.1, .int .i64 y.2.2.1, .int .i64 y.2.2.2] 56)).below
              have kB := ((From.start (wr.alloc (.cells #[.int .i64 y.1, .int .i64 y.2.1, .int .i64 y.2.2.1, .int .i64 y.2.2.2] 56))).alloc (.cells #[.int .i64 y.1, .int .i64 y.2.1, .int .i64 y.2.2.1, .int .i64 y.2.2.2] 3)).below
              have HL := Lib.hid (owns_call (owns_call HL.out kA) kB)
              have HB := Lib.hid ((HB.out.call kA).call kB)
              have HF := Lib.hid ((HF.out.call kA).call kB)
              have HTW := Lib.hid ((htw.out.call kA).call kB)
              have HII := Lib.hid (ints_lit (wr.alloc (.cells #[.int .i64 y.1, .int .i64 y.2.1, .int .i64 y.2.2.1, .int .i64 y.2.2.2] 56)) #[.int .i64 y.1, .int .i64 y.2.1, .int .i64 y.2.2.1, .int .i64 y.2.2.2] [y.1, y.2.1, y.2.2.1, y.2.2.2] rfl (by simp))
              have hY1 : (wr.alloc (.cells #[.int .i64 y.1, .int .i64 y.2.1, .int .i64 y.2.2.1, .int .i64 y.2.2.2] 56)).heap.size = Y + 1 := by simp [hY]
              rw [hY1] at HII
              obtain ⟨l2, hl2⟩ : ∃ l2, fixLine y = l2 := ⟨_, rfl⟩
              rw [hl2] at HTK3
              have HL2 := Lib.hid hl2
              clear hl2 kA kB htw g0 g1 g2 g3
              generalize hwz : (wr.alloc (.cells #[.int .i64 y.1, .int .i64 y.2.1, .int .i64 y.2.2.1, .int .i64 y.2.2.2] 56)).alloc (.cells #[.int .i64 y.1, .int .i64 y.2.1, .int .i64 y.2.2.1, .int .i64 y.2.2.2] 3) = wz at *
              clear hwz
              refine (i_wordsB wz _ _ fixT [] rfl rfl _ [y.1, y.2.1, y.2.2.1, y.2.2.2] HII.out (fun n hn => by
                have h1 := HFO.out.kind
                have h2 := HFO.out.to
                have h3 := HFO.out.add
                have h4 := HFO.out.at_
                have h5 := (objB_few8 HV.out).2
                simp only [List.mem_cons, List.not_mem_nil, or_false] at hn
                rcases hn with rfl | rfl | rfl | rfl <;> exact small_range (by omega) (by omega)) (by simp) (by decide) (by decide) HTW.out).mono ?_
              rw [← fixLine_eq, HL2.out]
              rintro e wv ⟨rfl, k5⟩
              have HL := Lib.hid (owns_call HL.out k5)
              have HB := Lib.hid (HB.out.call k5)
              have HF := Lib.hid (HF.out.call k5)
              clear k5 HII HTW hY hY1
              obtain ⟨DD, hDD⟩ : ∃ DD, D0 ++ [l1] ++ D1 = DD := ⟨_, rfl⟩
              have hdd : DD.length ≤ 63 := by rw [← hDD]; simp only [List.length_append, List.length_cons, List.length_nil]; omega
              rw [hDD] at HL
              have HDD := Lib.hid hDD
              clear hDD
              obtain ⟨nD, hnD⟩ : ∃ nD, ((DD).map txt).length = nD := ⟨_, rfl⟩
              have hrow := HL.out
              unfold OwnS at hrow
              rw [hnD] at hrow
              obtain ⟨ra, rc, rfl⟩ := owns_form hrow
              have HRW := Lib.hid hrow
              have hnl : nD ≤ 100 := by rw [← hnD, List.length_map]; omega
              have HND := Lib.hid hnD
              clear hrow hnD HL
              go_wp2_with (at_builtin; go_loud (refine wpList_append_own rfl (.tmp 54) (.tmp 65) 23 23 rfl (w.heap.size + 1) 9 j0 (.string ⟨#[]⟩) 1 16 Tryz.underlying23 hj0 ja0 ja1 ja2 rfl (by decide) _ _ _ rfl (World.ownsRow.alloc HRW.out _) _ 1 [_] rfl (src_new Tryz.underlying23 _ [_] 1 1 1 _ rfl ?c0) ?c1 ?c2 ?c3 ?_))
              case c0 => first | rfl | exact ⟨rfl⟩ | (intro u hu; obtain rfl := List.mem_singleton.1 hu; rfl)
              case c1 => unfold maxLen; omega
              case c2 => omega
              case c3 => have h9 := HB.out.lt; first | omega | (simp; omega)
              intro v' w4 hown hgr hpl
              have hL4 : OwnS w4 (w.heap.size + 1) v' ((DD ++ [l2]).map txt) := by
                rw [List.map_append]
                exact owns_snocS (by rw [HND.out]; exact hown)
              have hgb : ∀ k', (Value.slice ra nD rc).ownBlock = some k' → w.heap.size + 1 ≤ k' := fun k' hk' => (World.ownsRow.lt HRW.out k' hk').1
              have HL := Lib.hid hL4
              have HB := Lib.hid (Blk.grown (HB.out.alloc (.cells #[.string (txt l2)] 9)) hgr (fun e => by have := hgb _ e.symm; omega))
              have HF := Lib.hid (From.grown (HF.out.alloc (.cells #[.string (txt l2)] 9)) hgr (fun k' hk' => by have := hgb k' hk'; omega))
              clear hown hgr hpl hL4 hgb HRW HND hnl
              go_wp2_with fail
              go_roundw
              case rel => exact ⟨j + 1, by omega, by go_num, (by show OwnS _ _ _ _; rw [HTK3.out, ← List.append_assoc, HDD.out]; exact HL.out), HB, HF⟩
              case measure => simp [intOf]; try omega
            · obtain rfl : nf = j := by omega
              have h9 := HL.out
              rw [← HNF.out, List.take_length, ← HL1.out, HTK2.out] at h9
              have HL9 := Lib.hid h9
              clear HL h9
              go_wp2_with fail
              go_roundw
              case rel => exact ⟨k + 1, by omega, by go_num, HL9, HB, HF⟩
              case measure => simp [intOf]; try omega
    · obtain rfl : n1 = k := by omega
      have h9 := HL.out
      rw [← HN1.out, List.take_length] at h9
      have HL := Lib.hid h9
      have hdl := dumpS_len o HV.out
      clear h9 hlt HC hcap hmax
      have cB := HB.out.cell
      have zB := HB.out.lt
      go_wp2_with fail
      clear cB zB
      go_loopw [3, 72] (fun s i wr => ∃ k : Nat, k ≤ n2 ∧ i = .int .i64 (k : Int) ∧ Hid (OwnS wr (w.heap.size + 1) s ((o.secs.flatMap secDump ++ (o.syms.take k).map symLine).map txt)) ∧ Hid (Blk wr w.heap.size #[.slice sa n1 sc, .slice ya n2 yc] 28) ∧ Hid (From w.heap.size w wr)) (fun _ i _ => n2 - (intOf i).toNat)
      case atStart => exact ⟨0, Nat.zero_le _, rfl, (by show OwnS _ _ _ _; simpa using HL.out), HB, HF⟩
      case round =>
        clear HL HB HF
        obtain ⟨j, hj, rfl, HL, HB, HF⟩ := hrel
        by_cases hlt2 : j < n2
        · have i5 : (j : Int) < (n2 : Int) := by omega
          have i6 : (0 : Int) ≤ (j : Int) := by omega
          have hlt3 : j < o.syms.length := by rw [HN2.out]; exact hlt2
          obtain ⟨b2, off2, rfl, hc2⟩ := HD.out (by omega)
          obtain ⟨c0, c1, c2, c3⟩ := hc2 j hlt3
          have hbl2 : b2 < w.heap.size := World.block_lt_of_cell? w _ c0
          have g0 := (HF.out.below.cell (p := ⟨b2, off2 + j * 4, none⟩) hbl2).trans c0
          have g1 := (HF.out.below.cell (p := ⟨b2, off2 + j * 4 + 1, none⟩) hbl2).trans c1
          have g2 := (HF.out.below.cell (p := ⟨b2, off2 + j * 4 + 2, none⟩) hbl2).trans c2
          have g3 := (HF.out.below.cell (p := ⟨b2, off2 + j * 4 + 3, none⟩) hbl2).trans c3
          have HYO := Lib.hid (objB_sym HV.out (List.getElem_mem hlt3))
          have HTK3 : Hid ((o.syms.take (j + 1)).map symLine = (o.syms.take j).map symLine ++ [symLine o.syms[j]]) := by
            show _ = _
            rw [List.take_succ_eq_append_getElem hlt3, List.map_append]
            rfl
          have hdl2 : ((o.syms.take j).map symLine).length ≤ 12 := by rw [List.length_map, List.length_take]; omega
          clear hc2 c0 c1 c2 c3
          obtain ⟨D1, hD1⟩ : ∃ D1, (o.syms.take j).map symLine = D1 := ⟨_, rfl⟩
          rw [hD1] at HTK3 HL hdl2
          generalize o.syms[j]'hlt3 = y at *
          obtain ⟨Y, hY⟩ : ∃ Y, wr.heap.size = Y := ⟨_, rfl⟩
          have htw : Hid (Tab wr) := HT.out.call HF.out.below
          clear hD1
          go_wp2_with fail

          have kA := ((From.start wr).alloc (.cells #[.string y.name, .int .i64 y.bind, .int .i64 y.whr, .int .i64 y.val] 58)).below
          have kB := ((From.start (wr.alloc (.cells #[.string y.name, .int .i64 y.bind, .int .i64 y.whr, .int .i64 y.val] 58))).alloc (.cells #[.int .i64 y.bind, .int .i64 y.whr, .int .i64 y.val] 3)).below
          have HL := Lib.hid (owns_call (owns_call HL.out kA) kB)
          have HB := Lib.hid ((HB.out.call kA).call kB)
          have HF := Lib.hid ((HF.out.call kA).call kB)
          have HTW := Lib.hid ((htw.out.call kA).call kB)
          have HII := Lib.hid (ints_lit (wr.alloc (.cells #[.string y.name, .int .i64 y.bind, .int .i64 y.whr, .int .i64 y.val] 58)) #[.int .i64 y.bind, .int .i64 y.whr, .int .i64 y.val] [y.bind, y.whr, y.val] rfl (by simp))
          have hY1 : (wr.alloc (.cells #[.string y.name, .int .i64 y.bind, .int .i64 y.whr, .int .i64 y.val] 58)).heap.size = Y + 1 := by simp [hY]
          rw [hY1] at HII
          obtain ⟨l2, hl2⟩ : ∃ l2, symLine y = l2 := ⟨_, rfl⟩
          rw [hl2] at HTK3
          have HL2 := Lib.hid hl2
          clear hl2 kA kB htw g0 g1 g2 g3
          generalize hwz : (wr.alloc (.cells #[.string y.name, .int .i64 y.bind, .int .i64 y.whr, .int .i64 y.val] 58)).alloc (.cells #[.int .i64 y.bind, .int .i64 y.whr, .int .i64 y.val] 3) = wz at *
          clear hwz
          refine (i_wordsB wz _ _ symT (bytesS y.name) rfl (txt_bytesS _).symm _ [y.bind, y.whr, y.val] HII.out (fun n hn => by
            have h1 := HYO.out.bind
            have h2 := HYO.out.whr
            have h3 := HYO.out.val
            have h5 := (objB_few8 HV.out).1
            simp only [List.mem_cons, List.not_mem_nil, or_false] at hn
            rcases hn with rfl | rfl | rfl <;> exact small_range (by omega) (by omega)) (by simp) (by decide) (by have := (nameB_pos HYO.out.name).2; omega) HTW.out).mono ?_
          rw [← symLine_eq HYO.out.name, HL2.out]
          rintro e wv ⟨rfl, k5⟩
          have HL := Lib.hid (owns_call HL.out k5)
          have HB := Lib.hid (HB.out.call k5)
          have HF := Lib.hid (HF.out.call k5)
          clear k5 HII HTW hY hY1
          obtain ⟨DD, hDD⟩ : ∃ DD, o.secs.flatMap secDump ++ D1 = DD := ⟨_, rfl⟩
          have hdd : DD.length ≤ 68 := by rw [← hDD]; simp only [List.length_append]; omega
          rw [hDD] at HL
          have HDD := Lib.hid hDD
          clear hDD
          obtain ⟨nD, hnD⟩ : ∃ nD, ((DD).map txt).length = nD := ⟨_, rfl⟩
          have hrow := HL.out
          unfold OwnS at hrow
          rw [hnD] at hrow
          obtain ⟨ra, rc, rfl⟩ := owns_form hrow
          have HRW := Lib.hid hrow
          have hnl : nD ≤ 100 := by rw [← hnD, List.length_map]; omega
          have HND := Lib.hid hnD
          clear hrow hnD HL
          go_wp2_with (at_builtin; go_loud (refine wpList_append_own rfl (.tmp 76) (.tmp 87) 23 23 rfl (w.heap.size + 1) 9 j0 (.string ⟨#[]⟩) 1 16 Tryz.underlying23 hj0 ja0 ja1 ja2 rfl (by decide) _ _ _ rfl (World.ownsRow.alloc HRW.out _) _ 1 [_] rfl (src_new Tryz.underlying23 _ [_] 1 1 1 _ rfl ?c0) ?c1 ?c2 ?c3 ?_))
          case c0 => first | rfl | exact ⟨rfl⟩ | (intro u hu; obtain rfl := List.mem_singleton.1 hu; rfl)
          case c1 => unfold maxLen; omega
          case c2 => omega
          case c3 => have h9 := HB.out.lt; first | omega | (simp; omega)
          intro v' w4 hown hgr hpl
          have hL4 : OwnS w4 (w.heap.size + 1) v' ((DD ++ [l2]).map txt) := by
            rw [List.map_append]
            exact owns_snocS (by rw [HND.out]; exact hown)
          have hgb : ∀ k', (Value.slice ra nD rc).ownBlock = some k' → w.heap.size + 1 ≤ k' := fun k' hk' => (World.ownsRow.lt HRW.out k' hk').1
          have HL := Lib.hid hL4
          have HB := Lib.hid (Blk.grown (HB.out.alloc (.cells #[.string (txt l2)] 9)) hgr (fun e => by have := hgb _ e.symm; omega))
          have HF := Lib.hid (From.grown (HF.out.alloc (.cells #[.string (txt l2)] 9)) hgr (fun k' hk' => by have := hgb k' hk'; omega))
          clear hown hgr hpl hL4 hgb HRW HND hnl
          go_wp2_with fail
          go_roundw
          case rel => exact ⟨j + 1, by omega, by go_num, (by show OwnS _ _ _ _; rw [HTK3.out, ← List.append_assoc, HDD.out]; exact HL.out), HB, HF⟩
          case measure => simp [intOf]; try omega
        · obtain rfl : n2 = j := by omega
          have h9 := HL.out
          rw [← HN2.out, List.take_length, ← ED.out] at h9
          have HL := Lib.hid h9
          clear h9
          go_wp2_with fail
          go_ret
          exact ⟨_, rfl, owns_mono HL.out (Nat.le_succ _), HF.out.below⟩
end Go.Proofs.YtecpdhjangojiaaGreatDoor
