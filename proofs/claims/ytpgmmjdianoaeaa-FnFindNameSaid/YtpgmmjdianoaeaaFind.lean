/- Which symbol a name means. -/
import Derived.Test.YtpgmmjdianoaeaaPlainF
import Derived.Test.YtpgmmjdianoaeaaObjs
namespace Go.Proofs.Ytpgmmjdianoaeaa
open Go.ChangeShapes Go.WideShapes Go.ChangeAt Go.RowKit Go.Joins
set_option linter.unusedSimpArgs false
set_option linter.unusedVariables false
set_option maxRecDepth 100000
theorem ObjAt.syms {w : World} {sa ya : Option Addr} {n1 n2 sc yc : Nat} {o : ObjD} (h : ObjAt w (.agg #[.slice sa n1 sc, .slice ya n2 yc]) o) : SymsAt w (.slice ya n2 yc) o.syms := by
  obtain ⟨vs, vy, e, h1, h2⟩ := h
  simp only [Value.agg.injEq, Array.mk.injEq, List.cons.injEq] at e
  obtain ⟨rfl, rfl, -⟩ := e
  exact h2
set_option maxHeartbeats 2000000 in
theorem i_findBound (w : World) (v : Value) (l : List ObjD) (h : ObjsAt w v l) (nm : ByteArray) (bd : Int) :
    Calls Try.prog 33 #[v, .string nm, .int .i64 bd] w fun e w' => e = .returned (.tuple #[giveV (findIn (giveB nm bd) l 0), .bool (findIn (giveB nm bd) l 0).isSome]) ∧ Below w.heap.size w w' := by
  obtain ⟨a, cap, rfl, hcap, hmax, hnone, hcell⟩ := h.each
  have HC := Lib.hid hcell
  clear h hcell hnone
  unfold maxLen at hmax
  have E0 : Hid (findIn (giveB nm bd) l 0 = findIn (giveB nm bd) (l.drop 0) 0) := by show _ = _; rw [List.drop_zero]
  generalize hR : findIn (giveB nm bd) l 0 = R at *
  clear hR
  go_enter Try.func33, Try.ntmps33
  go_wp2_with fail
  have hb0 : Blk (w.alloc (.cells #[.int .i64 0, .int .i64 0] 35)) w.heap.size #[.int .i64 0, .int .i64 0] 35 := Blk.new w _ _
  have HB0 := Lib.hid hb0
  have HF0 := Lib.hid ((From.start w).alloc (.cells #[.int .i64 0, .int .i64 0] 35))
  clear hb0
  go_loopw [14] (fun i wr => ∃ k : Nat, k ≤ l.length ∧ i = .int .i64 k ∧ Hid (R = findIn (giveB nm bd) (l.drop k) k) ∧ Hid (Blk wr w.heap.size #[.int .i64 0, .int .i64 0] 35) ∧ Hid (From w.heap.size w wr)) (fun i _ => l.length - (intOf i).toNat)
  case atStart => exact ⟨0, Nat.zero_le _, rfl, E0, HB0, HF0⟩
  case round =>
    clear HB0 HF0 E0
    obtain ⟨k, hk, rfl, HE, HB, HF⟩ := hrel
    have cb := HB.out.cell
    have fb := HB.out.frozen
    have zb := HB.out.lt
    by_cases hlt : k < l.length
    · obtain ⟨b, off, rfl, hc⟩ := HC.out (by omega)
      obtain ⟨sa, sc, ya, yc, ho, c0, c1⟩ := hc k hlt
      have hbl : b < w.heap.size := World.block_lt_of_cell? w _ c0
      have g0 := (HF.out.below.cell (p := ⟨b, off + k * 2, none⟩) hbl).trans c0
      have g1 := (HF.out.below.cell (p := ⟨b, off + k * 2 + 1, none⟩) hbl).trans c1
      have i1 : (k : Int) < (l.length : Int) := by omega
      have hy := ho.syms
      have HE2 : Hid (R = match l[k].syms.findIdx? (giveB nm bd) with | some j => some (k, j) | none => findIn (giveB nm bd) (l.drop (k + 1)) (k + 1)) := by
        show _ = _; rw [HE.out, List.drop_eq_getElem_cons hlt]; rfl
      clear hc c0 c1 ho HE
      generalize l[k] = x at *
      obtain ⟨n1, hn1⟩ : ∃ n1, x.secs.length = n1 := ⟨_, rfl⟩
      rw [hn1] at g0
      clear hn1
      obtain ⟨ya', yc', e', hcy, hmy, hny, hcc⟩ := hy.form
      simp only [Value.slice.injEq] at e'
      obtain ⟨rfl, -, rfl⟩ := e'
      have HCC := Lib.hid hcc
      unfold maxLen at hmy
      clear hcc hy hny
      go_wp2_with fail
      have HB1 := Lib.hid (HB.out.alloc (.cells #[.slice sa n1 sc, .slice ya x.syms.length yc] 29))
      have HF1 := Lib.hid (HF.out.alloc (.cells #[.slice sa n1 sc, .slice ya x.syms.length yc] 29))
      generalize hw1 : wr.alloc (.cells #[.slice sa n1 sc, .slice ya x.syms.length yc] 29) = w1 at HB1 HF1 ⊢
      clear hw1 cb fb zb HB HF g0 g1
      generalize wr.heap.size = z at *
      go_loopw [22] (fun i wz => ∃ j : Nat, j ≤ x.syms.length ∧ i = .int .i64 j ∧ Hid (∀ y ∈ x.syms.take j, giveB nm bd y = false) ∧ Hid (Blk wz w.heap.size #[.int .i64 0, .int .i64 0] 35) ∧ Hid (From w.heap.size w wz)) (fun i _ => x.syms.length - (intOf i).toNat)
      case atStart => exact ⟨0, Nat.zero_le _, rfl, (fun y hy => by simp at hy), HB1, HF1⟩
      case round =>
        clear HB1 HF1
        obtain ⟨j, hj, rfl, HT, HB, HF⟩ := hrel
        have cb := HB.out.cell
        have fb := HB.out.frozen
        have zb := HB.out.lt
        by_cases hlj : j < x.syms.length
        · obtain ⟨b2, off2, rfl, hc⟩ := HCC.out (by omega)
          obtain ⟨g0, g1, g2, g3⟩ := sym_cells HF.out.below hc j hlj
          have i2 : (j : Int) < (x.syms.length : Int) := by omega
          have HT2 := Lib.hid (take_bad hlj HT.out)
          have HH : Hid (giveB nm bd x.syms[j] = true → R = some (k, j)) := fun h => by
            have : x.syms.findIdx? (giveB nm bd) = some j := by
              rw [List.findIdx?_eq_some_iff_getElem]
              refine ⟨hlj, h, fun i hi => ?_⟩
              have := HT.out x.syms[i] (by rw [List.mem_take_iff_getElem]; exact ⟨i, by omega, rfl⟩)
              rw [this]; simp
            rw [HE2.out, this]
          clear hc HT
          have HL := Lib.hid (rfl : x.syms.length = x.syms.length)
          generalize x.syms[j] = y at *
          obtain ⟨n2, hn2⟩ : ∃ n2, x.syms.length = n2 := ⟨_, rfl⟩
          rw [hn2] at i2 ⊢
          have HN2 := Lib.hid hn2
          clear hn2
          by_cases n1' : bytesS y.name = bytesS nm
          case neg =>
            have e1 := str_ne n1'
            have HT3 := Lib.hid (HT2.out (by have : y.name ≠ nm := fun e => n1' (by rw [e]); simp [giveB, this]))
            clear n1' HT2 HH
            go_wp2_with fail
            go_roundw
            case rel => exact ⟨j + 1, by omega, by go_num, HT3, HB.out.alloc _, HF.out.alloc _⟩
            case measure => simp [intOf]; try omega
          have e1 := str_eq n1'
          by_cases n2' : y.bind = bd
          case neg =>
            have e2 : (y.bind == bd) = false := by simpa using n2'
            have HT3 := Lib.hid (HT2.out (by simp [giveB, n2']))
            clear n1' n2' HT2 HH
            go_wp2_with fail
            go_roundw
            case rel => exact ⟨j + 1, by omega, by go_num, HT3, HB.out.alloc _, HF.out.alloc _⟩
            case measure => simp [intOf]; try omega
          have e2 : (y.bind == bd) = true := by simpa using n2'
          by_cases n3' : y.whr = -1
          · have e3 : (y.whr != -1) = false := by simpa using n3'
            have HT3 := Lib.hid (HT2.out (by simp [giveB, n3']))
            clear n1' n2' n3' HT2 HH
            go_wp2_with fail
            go_roundw
            case rel => exact ⟨j + 1, by omega, by go_num, HT3, HB.out.alloc _, HF.out.alloc _⟩
            case measure => simp [intOf]; try omega
          have e3 : (y.whr != -1) = true := by simpa using n3'
          have E := Lib.hid (HH.out (by simp [giveB, n2', n3', bytesS_inj n1']))
          clear n1' n2' n3' HT2 HH
          go_wp2_with fail
          refine bodyPost_ret (v := .tuple #[.agg #[.int .i64 k, .int .i64 j], .bool true]) (by simp [results, Try.results33, go_sem, cb, fb, zb]) rfl ⟨by rw [E.out]; rfl, ?_⟩
          first
            | exact (((HF.out.alloc _).setCell (Nat.le_refl _) _).setCell (Nat.le_refl _) _).below
            | exact (((HF.out.setCell (Nat.le_refl _) _).setCell (Nat.le_refl _) _).alloc _).below
        · obtain rfl : j = x.syms.length := by omega
          have HE3 : Hid (R = findIn (giveB nm bd) (l.drop (k + 1)) (k + 1)) := by
            have : x.syms.findIdx? (giveB nm bd) = none := by
              rw [List.findIdx?_eq_none_iff]
              have := HT.out
              rwa [List.take_length] at this
            show _ = _; rw [HE2.out, this]
          clear HT HE2
          go_wp2_with fail
          go_roundw
          case rel => exact ⟨k + 1, by omega, by go_num, HE3, HB, HF⟩
          case measure => simp [intOf]; try omega
    · obtain rfl : k = l.length := by omega
      have E : Hid (R = none) := by show _ = _; rw [HE.out, List.drop_length]; rfl
      go_wp2_with fail
      refine bodyPost_ret (v := .tuple #[.agg #[.int .i64 0, .int .i64 0], .bool false]) (by simp [results, Try.results33, go_sem, cb, fb, zb]) rfl ⟨by rw [E.out]; rfl, ?_⟩
      exact ((HF.out.setCell (Nat.le_refl _) _).setCell (Nat.le_refl _) _).below
set_option maxHeartbeats 1000000 in
theorem i_findName (w : World) (v : Value) (l : List ObjD) (h : ObjsAt w v l) (nm : ByteArray) :
    Calls Try.prog 19 #[v, .string nm] w fun e w' => e = .returned (.tuple #[giveV (findNm l nm), .bool (findNm l nm).isSome]) ∧ Below w.heap.size w w' := by
  have H := Lib.hid h
  obtain ⟨a, cap, rfl, -⟩ := h.each
  clear h
  obtain ⟨R0, hR0⟩ : ∃ R0, findNm l nm = R0 := ⟨_, rfl⟩
  rw [hR0]
  have HR : Hid ((findIn (giveB nm 1) l 0).or (findIn (giveB nm 2) l 0) = R0) := hR0
  clear hR0
  go_enter Try.func19, Try.ntmps19
  go_wp2_with fail
  have hb0 : Blk (w.alloc (.cells #[.int .i64 0, .int .i64 0] 35)) w.heap.size #[.int .i64 0, .int .i64 0] 35 := Blk.new w _ _
  have HB0 := Lib.hid hb0
  have HF0 := Lib.hid ((From.start w).alloc (.cells #[.int .i64 0, .int .i64 0] 35))
  clear hb0
  refine (i_findBound _ _ l (H.out.below (Nat.le_refl _) HF0.out.below) nm 1).mono ?_
  rintro e w1 ⟨rfl, h1⟩
  have HF := Lib.hid (HF0.out.call h1)
  have HB := Lib.hid (HB0.out.call h1)
  have cb := HB.out.cell
  have fb := HB.out.frozen
  have zb := HB.out.lt
  clear h1 HF0 HB0
  generalize findIn (giveB nm 1) l 0 = R1 at *
  cases R1 with
  | some p =>
    obtain ⟨p1, p2⟩ := p
    have E : Hid (R0 = some (p1, p2)) := HR.out.symm
    clear HR
    simp only [giveV, Option.getD_some, Option.isSome_some]
    go_wp2_with fail
    refine bodyPost_ret (v := .tuple #[.agg #[.int .i64 p1, .int .i64 p2], .bool true]) (by simp [results, Try.results19, go_sem, cb, fb, zb]) rfl ⟨by rw [E.out]; rfl, ?_⟩
    first
      | exact (((HF.out.alloc _).setCell (Nat.le_refl _) _).setCell (Nat.le_refl _) _).below
      | exact (((HF.out.setCell (Nat.le_refl _) _).setCell (Nat.le_refl _) _).alloc _).below
  | none =>
    simp only [giveV, Option.getD_none, Option.isSome_none]
    go_wp2_with fail
    have HF1 := Lib.hid (HF.out.alloc (.cells #[.int .i64 0, .int .i64 0] 35))
    have HB1 := Lib.hid (HB.out.alloc (.cells #[.int .i64 0, .int .i64 0] 35))
    refine (i_findBound _ _ l (H.out.below (Nat.le_refl _) HF1.out.below) nm 2).mono ?_
    rintro e w2 ⟨rfl, h2⟩
    have HF2 := Lib.hid (HF1.out.call h2)
    have HB2 := Lib.hid (HB1.out.call h2)
    clear cb fb zb h2 HF1 HB1 HF HB
    have cb := HB2.out.cell
    have fb := HB2.out.frozen
    have zb := HB2.out.lt
    generalize findIn (giveB nm 2) l 0 = R at *
    have E : Hid (R0 = R) := by
      have h9 := HR.out
      rw [Option.none_or] at h9
      exact h9.symm
    clear HR
    unfold giveV
    obtain ⟨p, hp⟩ : ∃ p, R.getD (0, 0) = p := ⟨_, rfl⟩
    obtain ⟨f, hf⟩ : ∃ f, R.isSome = f := ⟨_, rfl⟩
    obtain ⟨p1, p2⟩ := p
    rw [hp, hf]
    have E2 : Hid (giveV R0 = .agg #[.int .i64 p1, .int .i64 p2] ∧ R0.isSome = f) := by show _ ∧ _; rw [E.out]; unfold giveV; rw [hp, hf]; exact ⟨rfl, rfl⟩
    clear hp hf E
    go_wp2_with fail
    refine bodyPost_ret (v := .tuple #[.agg #[.int .i64 p1, .int .i64 p2], .bool f]) (by simp [results, Try.results19, go_sem, cb, fb, zb]) rfl ⟨by rw [E2.out.1, E2.out.2], ?_⟩
    exact ((HF2.out.setCell (Nat.le_refl _) _).setCell (Nat.le_refl _) _).below
def findV (l : List ObjD) (nm : ByteArray) : Option (Nat × Nat) := if objsB l = true then findNm l nm else none
set_option maxHeartbeats 1000000 in
theorem i_FindName (w : World) (v : Value) (l : List ObjD) (h : ObjsAt w v l) (hs : ObjsLen l) (nm : ByteArray) :
    Calls Try.prog 10 #[v, .string nm] w fun e w' => e = .returned (.tuple #[giveV (findV l nm), .bool (findV l nm).isSome]) ∧ Below w.heap.size w w' := by
  have H := Lib.hid h
  have HS := Lib.hid hs
  obtain ⟨a, cap, rfl, -⟩ := h.each
  clear h hs
  obtain ⟨R0, hR0⟩ : ∃ R0, findV l nm = R0 := ⟨_, rfl⟩
  rw [hR0]
  have HR : Hid ((if objsB l = true then findNm l nm else none) = R0) := hR0
  clear hR0
  go_enter Try.func10, Try.ntmps10
  go_wp2_with fail
  have hb0 : Blk (w.alloc (.cells #[.int .i64 0, .int .i64 0] 35)) w.heap.size #[.int .i64 0, .int .i64 0] 35 := Blk.new w _ _
  have HB0 := Lib.hid hb0
  have HF0 := Lib.hid ((From.start w).alloc (.cells #[.int .i64 0, .int .i64 0] 35))
  clear hb0
  refine (i_ObjectsValid _ _ l (H.out.below (Nat.le_refl _) HF0.out.below) HS.out).mono ?_
  rintro e w1 ⟨rfl, h1⟩
  have HF := Lib.hid (HF0.out.call h1)
  have HB := Lib.hid (HB0.out.call h1)
  have cb := HB.out.cell
  have fb := HB.out.frozen
  have zb := HB.out.lt
  clear h1 HF0 HB0
  generalize objsB l = q at *
  cases q
  · have E : Hid (R0 = none) := HR.out.symm
    clear HR
    go_wp2_with fail
    refine bodyPost_ret (v := .tuple #[.agg #[.int .i64 0, .int .i64 0], .bool false]) (by simp [results, Try.results10, go_sem, cb, fb, zb]) rfl ⟨by rw [E.out]; rfl, ?_⟩
    exact ((HF.out.setCell (Nat.le_refl _) _).setCell (Nat.le_refl _) _).below
  · have E : Hid (R0 = findNm l nm) := HR.out.symm
    clear HR
    go_wp2_with fail
    refine (i_findName _ _ l (H.out.below (Nat.le_refl _) HF.out.below) nm).mono ?_
    rintro e w2 ⟨rfl, h2⟩
    have HF2 := Lib.hid (HF.out.call h2)
    have HB2 := Lib.hid (HB.out.call h2)
    clear cb fb zb h2 HF HB
    have cb := HB2.out.cell
    have fb := HB2.out.frozen
    have zb := HB2.out.lt
    generalize findNm l nm = R at *
    unfold giveV
    obtain ⟨p, hp⟩ : ∃ p, R.getD (0, 0) = p := ⟨_, rfl⟩
    obtain ⟨f, hf⟩ : ∃ f, R.isSome = f := ⟨_, rfl⟩
    obtain ⟨p1, p2⟩ := p
    rw [hp, hf]
    have E2 : Hid (giveV R0 = .agg #[.int .i64 p1, .int .i64 p2] ∧ R0.isSome = f) := by show _ ∧ _; rw [E.out]; unfold giveV; rw [hp, hf]; exact ⟨rfl, rfl⟩
    clear hp hf E
    go_wp2_with fail
    refine bodyPost_ret (v := .tuple #[.agg #[.int .i64 p1, .int .i64 p2], .bool f]) (by simp [results, Try.results10, go_sem, cb, fb, zb]) rfl ⟨by rw [E2.out.1, E2.out.2], ?_⟩
    exact ((HF2.out.setCell (Nat.le_refl _) _).setCell (Nat.le_refl _) _).below
/-- What the reference's search ends in. -/
def RetGiven (w : World) (R : Option (Nat × Nat)) (e : Ending) (w' : World) : Prop := ∃ n : Int, e = .returned (.tuple #[giveV R, .int .i64 n, .bool R.isSome]) ∧ Below w.heap.size w w'
set_option maxHeartbeats 4000000 in
theorem s_l11Given (w : World) (v : Value) (l : List ObjD) (h : ObjsAt w v l) (hv : objsB l = true) (nm : ByteArray) :
    Calls Try.prog 20 #[v, .string nm] w (RetGiven w (findNm l nm)) := by
  obtain ⟨a, cap, rfl, hcap, hmax, hnone, hcell⟩ := h.each
  obtain ⟨same1, same2⟩ := Giv.same (nm := nm) (bind_of hv)
  obtain ⟨few1, few2⟩ := few_of hv
  have HC := Lib.hid hcell
  have HF12 := Lib.hid few2
  have HS1 := Lib.hid same1
  have HS2 := Lib.hid same2
  clear h hcell hnone hv few2 same1 same2
  unfold maxLen at hmax
  go_enter Try.func20, Try.ntmps20
  go_wp2_with fail
  have hb0 : Blk ((w.alloc (.cells #[.int .i64 0, .int .i64 0] 35)).alloc (.cells #[.int .i64 0, .int .i64 0] 35)) w.heap.size #[.int .i64 0, .int .i64 0] 35 := (Blk.new w _ _).alloc _
  have hb1 : Blk ((w.alloc (.cells #[.int .i64 0, .int .i64 0] 35)).alloc (.cells #[.int .i64 0, .int .i64 0] 35)) (w.heap.size + 1) #[.int .i64 0, .int .i64 0] 35 := Blk.newAt _ _ _ _ (by simp)
  have HB0 := Lib.hid hb0
  have HB1 := Lib.hid hb1
  have HF0 := Lib.hid (((From.start w).alloc (.cells #[.int .i64 0, .int .i64 0] 35)).alloc (.cells #[.int .i64 0, .int .i64 0] 35))
  clear hb0 hb1
  go_loopw [8, 9, 10] (fun sv fv i wr => ∃ (k c d : Nat) (n : Int) (f : Bool), k ≤ l.length ∧ i = .int .i64 k ∧ sv = .int .i64 n ∧ fv = .bool f ∧ Hid (Giv (findIn (giveB nm 1) (l.take k) 0) (findIn (gateB nm) (l.take k) 0) c d n f (k * 12)) ∧
      Hid (Blk wr w.heap.size #[.int .i64 0, .int .i64 0] 35) ∧ Hid (Blk wr (w.heap.size + 1) #[.int .i64 c, .int .i64 d] 35) ∧ Hid (From w.heap.size w wr)) (fun _ _ i _ => l.length - (intOf i).toNat)
  case atStart => exact ⟨0, 0, 0, 0, false, Nat.zero_le _, rfl, rfl, rfl, Giv.start, HB0, HB1, HF0⟩
  case round =>
    clear HB0 HB1 HF0
    obtain ⟨k, c, d, n, f, hk, rfl, rfl, rfl, HG, HB, HT, HF⟩ := hrel
    by_cases hlt : k < l.length
    · obtain ⟨b, off, rfl, hc⟩ := HC.out (by omega)
      obtain ⟨sa, sc, ya, yc, ho, c0, c1⟩ := hc k hlt
      have hbl : b < w.heap.size := World.block_lt_of_cell? w _ c0
      have i1 : (k : Int) < (l.length : Int) := by omega
      have hy := ho.syms
      have f12 := HF12.out l[k] (List.getElem_mem hlt)
      have HX : Hid (findIn (giveB nm 1) (preL l l[k] k l[k].syms.length) 0 = findIn (giveB nm 1) (l.take (k + 1)) 0 ∧ findIn (gateB nm) (preL l l[k] k l[k].syms.length) 0 = findIn (gateB nm) (l.take (k + 1)) 0) := ⟨pre_full _ l k hlt, pre_full _ l k hlt⟩
      have HG0 : Hid (Giv (findIn (giveB nm 1) (preL l l[k] k 0) 0) (findIn (gateB nm) (preL l l[k] k 0) 0) c d n f (k * 12 + 0)) := by show Giv _ _ _ _ _ _ _; rw [pre_zero, pre_zero]; exact HG.out
      have HC0 := Lib.hid c0
      have HC1 := Lib.hid c1
      clear hc c0 c1 ho HG
      generalize l[k] = x at *
      obtain ⟨n1, hn1⟩ : ∃ n1, x.secs.length = n1 := ⟨_, rfl⟩
      rw [hn1] at HC0
      clear hn1
      obtain ⟨ya', yc', e', hcy, hmy, hny, hcc⟩ := hy.form
      simp only [Value.slice.injEq] at e'
      obtain ⟨rfl, -, rfl⟩ := e'
      have HCC := Lib.hid hcc
      unfold maxLen at hmy
      clear hcc hy hny
      go_wp2_with fail
      go_loopw [8, 9, 11] (fun sv fv i wz => ∃ (j c d : Nat) (n : Int) (f : Bool), j ≤ x.syms.length ∧ i = .int .i64 j ∧ sv = .int .i64 n ∧ fv = .bool f ∧ Hid (Giv (findIn (giveB nm 1) (preL l x k j) 0) (findIn (gateB nm) (preL l x k j) 0) c d n f (k * 12 + j)) ∧
          Hid (Blk wz w.heap.size #[.int .i64 0, .int .i64 0] 35) ∧ Hid (Blk wz (w.heap.size + 1) #[.int .i64 c, .int .i64 d] 35) ∧ Hid (From w.heap.size w wz)) (fun _ _ i _ => x.syms.length - (intOf i).toNat)
      case atStart => exact ⟨0, c, d, n, f, Nat.zero_le _, rfl, rfl, rfl, HG0, HB, HT, HF⟩
      case round =>
        clear HB HT HF HG0
        obtain ⟨j, c, d, n, f, hj, rfl, rfl, rfl, HG, HB, HT, HF⟩ := hrel
        have g0 := (HF.out.below.cell (p := ⟨b, off + k * 2, none⟩) hbl).trans HC0.out
        have g1 := (HF.out.below.cell (p := ⟨b, off + k * 2 + 1, none⟩) hbl).trans HC1.out
        have cb := HT.out.cell
        have fb := HT.out.frozen
        have zb := HT.out.lt
        by_cases hlj : j < x.syms.length
        · obtain ⟨b2, off2, rfl, hc⟩ := HCC.out (by omega)
          obtain ⟨d0, d1, d2, d3⟩ := sym_cells HF.out.below hc j hlj
          have i2 : (j : Int) < (x.syms.length : Int) := by omega
          have n0 := HG.out.lo
          have nh : n ≤ 100 := by have := HG.out.hi; omega
          have hp1 := pre_step (giveB nm 1) l x k j hk hlj
          have hp2 := pre_step (gateB nm) l x k j hk hlj
          generalize x.syms[j] = y at *
          have HSkip : Hid (gateB nm y = false → Giv (findIn (giveB nm 1) (preL l x k (j + 1)) 0) (findIn (gateB nm) (preL l x k (j + 1)) 0) c d n f (k * 12 + (j + 1))) := fun h => by
            rw [hp1, hp2, gate_no h, h]; exact HG.out.skip
          have HPut : Hid (gateB nm y = true → y.bind = 1 → n = 0 → Giv (findIn (giveB nm 1) (preL l x k (j + 1)) 0) (findIn (gateB nm) (preL l x k (j + 1)) 0) k j (n + 1) true (k * 12 + (j + 1))) := fun h h2 h3 => by
            rw [hp1, hp2, gate_give h h2, h]; exact HG.out.put h3 k j
          have HMore : Hid (gateB nm y = true → y.bind = 1 → n ≠ 0 → Giv (findIn (giveB nm 1) (preL l x k (j + 1)) 0) (findIn (gateB nm) (preL l x k (j + 1)) 0) c d (n + 1) true (k * 12 + (j + 1)) ∧ f = true) := fun h h2 h3 => by
            rw [hp1, hp2, gate_give h h2, h]; exact HG.out.more h3 k j
          have HNew : Hid (gateB nm y = true → y.bind ≠ 1 → f = false → Giv (findIn (giveB nm 1) (preL l x k (j + 1)) 0) (findIn (gateB nm) (preL l x k (j + 1)) 0) k j n true (k * 12 + (j + 1))) := fun h h2 h3 => by
            subst h3
            rw [hp1, hp2, give_no h2, h]; exact HG.out.weakNew k j
          have HOld : Hid (gateB nm y = true → y.bind ≠ 1 → f = true → Giv (findIn (giveB nm 1) (preL l x k (j + 1)) 0) (findIn (gateB nm) (preL l x k (j + 1)) 0) c d n true (k * 12 + (j + 1))) := fun h h2 h3 => by
            subst h3
            rw [hp1, hp2, give_no h2, h]; exact HG.out.weak k j
          obtain ⟨n2, hn2⟩ : ∃ n2, x.syms.length = n2 := ⟨_, rfl⟩
          rw [hn2] at i2 g1 ⊢
          have HN2 := Lib.hid hn2
          clear hn2 hp1 hp2 hc HG
          by_cases m1 : bytesS y.name = bytesS nm
          case neg =>
            have e1 := str_ne m1
            have HG := Lib.hid (HSkip.out (by have : y.name ≠ nm := fun e => m1 (by rw [e]); simp [gateB, this]))
            clear m1
            clear HSkip HPut HMore HNew HOld
            go_wp2_with fail
            go_roundw
            case rel => exact ⟨j + 1, c, d, n, f, by omega, by go_num, rfl, rfl, HG, HB.out.alloc _, HT.out.alloc _, HF.out.alloc _⟩
            case measure => simp [intOf]; try omega
          have e1 := str_eq m1
          by_cases m2 : y.bind = 0
          · have e2 : (y.bind == 0) = true := by simpa using m2
            have HG := Lib.hid (HSkip.out (by simp [gateB, m2]))
            clear m1 m2
            clear HSkip HPut HMore HNew HOld
            go_wp2_with fail
            go_roundw
            case rel => exact ⟨j + 1, c, d, n, f, by omega, by go_num, rfl, rfl, HG, HB.out.alloc _, HT.out.alloc _, HF.out.alloc _⟩
            case measure => simp [intOf]; try omega
          have e2 : (y.bind == 0) = false := by simpa using m2
          by_cases m3 : y.whr = -1
          · have e3 : (y.whr == -1) = true := by simpa using m3
            have HG := Lib.hid (HSkip.out (by simp [gateB, m3]))
            clear m1 m2 m3
            clear HSkip HPut HMore HNew HOld
            go_wp2_with fail
            go_roundw
            case rel => exact ⟨j + 1, c, d, n, f, by omega, by go_num, rfl, rfl, HG, HB.out.alloc _, HT.out.alloc _, HF.out.alloc _⟩
            case measure => simp [intOf]; try omega
          have e3 : (y.whr == -1) = false := by simpa using m3
          have hg : gateB nm y = true := by simp [gateB, m2, m3, bytesS_inj m1]
          by_cases m4 : y.bind = 1
          · have e4 : (y.bind == 1) = true := by simpa using m4
            by_cases m5 : n = 0
            · have e5 : (n == 0) = true := by simpa using m5
              have HG := Lib.hid (HPut.out hg m4 m5)
              clear m1 m2 m3 m4 m5 hg
              clear HSkip HPut HMore HNew HOld
              go_wp2_with fail
              go_roundw
              case rel => exact ⟨j + 1, k, j, n + 1, true, by omega, by go_num, by go_num, rfl, HG, (by first | exact ((HB.out.alloc _).other (p := ⟨w.heap.size + 1, 0, none⟩) (by simp) _).other (p := ⟨w.heap.size + 1, 1, none⟩) (by simp) _ | exact ((HB.out.other (p := ⟨w.heap.size + 1, 0, none⟩) (by simp) _).other (p := ⟨w.heap.size + 1, 1, none⟩) (by simp) _).alloc _), (by first | exact ((HT.out.alloc _).set (o := 0) (.int .i64 k)).set (o := 1) (.int .i64 j) | exact ((HT.out.set (o := 0) (.int .i64 k)).set (o := 1) (.int .i64 j)).alloc _), (by first | exact ((HF.out.alloc _).setCell (by simp) _).setCell (by simp) _ | exact ((HF.out.setCell (by simp) _).setCell (by simp) _).alloc _)⟩
              case measure => simp [intOf]; try omega
            · have e5 : (n == 0) = false := by simpa using m5
              obtain ⟨hG, hf⟩ := HMore.out hg m4 m5
              have HG := Lib.hid hG
              clear m1 m2 m3 m4 m5 hg hG
              clear HSkip HPut HMore HNew HOld
              subst hf
              go_wp2_with fail
              go_roundw
              case rel => exact ⟨j + 1, c, d, n + 1, true, by omega, by go_num, by go_num, rfl, HG, HB.out.alloc _, HT.out.alloc _, HF.out.alloc _⟩
              case measure => simp [intOf]; try omega
          · have e4 : (y.bind == 1) = false := by simpa using m4
            cases hf : f
            · have HG := Lib.hid (HNew.out hg m4 hf)
              clear m1 m2 m3 m4 hg
              clear HSkip HPut HMore HNew HOld
              subst hf
              go_wp2_with fail
              go_roundw
              case rel => exact ⟨j + 1, k, j, n, true, by omega, by go_num, rfl, rfl, HG, (by first | exact ((HB.out.alloc _).other (p := ⟨w.heap.size + 1, 0, none⟩) (by simp) _).other (p := ⟨w.heap.size + 1, 1, none⟩) (by simp) _ | exact ((HB.out.other (p := ⟨w.heap.size + 1, 0, none⟩) (by simp) _).other (p := ⟨w.heap.size + 1, 1, none⟩) (by simp) _).alloc _), (by first | exact ((HT.out.alloc _).set (o := 0) (.int .i64 k)).set (o := 1) (.int .i64 j) | exact ((HT.out.set (o := 0) (.int .i64 k)).set (o := 1) (.int .i64 j)).alloc _), (by first | exact ((HF.out.alloc _).setCell (by simp) _).setCell (by simp) _ | exact ((HF.out.setCell (by simp) _).setCell (by simp) _).alloc _)⟩
              case measure => simp [intOf]; try omega
            · have HG := Lib.hid (HOld.out hg m4 hf)
              clear m1 m2 m3 m4 hg
              clear HSkip HPut HMore HNew HOld
              subst hf
              go_wp2_with fail
              go_roundw
              case rel => exact ⟨j + 1, c, d, n, true, by omega, by go_num, rfl, rfl, HG, HB.out.alloc _, HT.out.alloc _, HF.out.alloc _⟩
              case measure => simp [intOf]; try omega
        · obtain rfl : j = x.syms.length := by omega
          have HG2 : Hid (Giv (findIn (giveB nm 1) (l.take (k + 1)) 0) (findIn (gateB nm) (l.take (k + 1)) 0) c d n f ((k + 1) * 12)) := by
            show Giv _ _ _ _ _ _ _
            rw [← HX.out.1, ← HX.out.2]
            exact HG.out.up (by omega)
          clear HG
          go_wp2_with fail
          go_roundw
          case rel => exact ⟨k + 1, c, d, n, f, by omega, by go_num, rfl, rfl, HG2, HB, HT, HF⟩
          case measure => simp [intOf]; try omega
    · obtain rfl : k = l.length := by omega
      have E : Hid (giveV (findNm l nm) = .agg #[.int .i64 c, .int .i64 d] ∧ (findNm l nm).isSome = f) := by
        have h1 := HG.out
        rw [List.take_length] at h1
        have h2 := h1.out
        have h3 := h1.fnd
        rw [HS1.out] at h2
        rw [HS2.out] at h3
        show _ ∧ _
        unfold giveV
        rw [h2]
        exact ⟨rfl, h3.symm⟩
      have cb := HB.out.cell
      have fb := HB.out.frozen
      have zb := HB.out.lt
      have ct := HT.out.cell
      clear HG
      go_wp2_with fail
      refine bodyPost_ret (v := .tuple #[.agg #[.int .i64 c, .int .i64 d], .int .i64 n, .bool f]) (by simp [results, Try.results20, go_sem, cb, fb, zb, ct]) rfl ⟨n, by rw [E.out.1, E.out.2], ?_⟩
      exact ((HF.out.setCell (Nat.le_refl _) _).setCell (Nat.le_refl _) _).below
end Go.Proofs.Ytpgmmjdianoaeaa
