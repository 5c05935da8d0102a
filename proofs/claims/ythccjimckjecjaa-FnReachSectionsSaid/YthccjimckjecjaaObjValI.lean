/- Whether an object is valid: the program's answer. -/
import Derived.Test.YthccjimckjecjaaObjVal
namespace Go.Proofs.Ythccjimckjecjaa
open Go.ChangeShapes Go.WideShapes Go.ChangeAt Go.RowKit Go.Joins
set_option linter.unusedSimpArgs false
set_option linter.unusedVariables false
set_option maxRecDepth 100000
set_option maxHeartbeats 2000000 in
theorem i_ObjectValid (w : World) (v : Value) (o : ObjD) (h : ObjAt w v o) (hs : (∀ s ∈ o.secs, s.name.size ≤ maxLen) ∧ ∀ s ∈ o.syms, s.name.size ≤ maxLen) :
    Calls Try.prog 28 #[v] w fun e w' => e = .returned (.bool (objB o)) ∧ Below w.heap.size w w' := by
  obtain ⟨vs, vy, rfl, h1, h2⟩ := h
  have HS0 := Lib.hid h1
  have HY0 := Lib.hid h2
  obtain ⟨a1, cap1, rfl, hcap1, hmax1, hnone1, hc1⟩ := h1.form
  obtain ⟨a2, cap2, rfl, hcap2, hmax2, hnone2, hc2⟩ := h2.form
  have HC1 := Lib.hid hc1
  have HC2 := Lib.hid hc2
  have HN := Lib.hid hs
  clear h1 h2 hc1 hc2 hnone1 hnone2 hs
  unfold maxLen at hmax1 hmax2
  by_cases q1 : o.secs.length ≤ 8
  case neg =>
    have e1 : (8 : Int) < (o.secs.length : Int) := by omega
    have E : Hid (objB o = false) := objB_not fun h => q1 h.few
    clear q1
    go_enter Try.func28, Try.ntmps28
    go_wp2_with fail
    go_ret
    exact ⟨by rw [E.out]; try rfl, ((From.start w).alloc _).below⟩
  have e1 : ¬ (8 : Int) < (o.secs.length : Int) := by omega
  by_cases q2 : o.syms.length ≤ 12
  case neg =>
    have e2 : (12 : Int) < (o.syms.length : Int) := by omega
    have E : Hid (objB o = false) := objB_not fun h => q2 h.few2
    clear q2 q1
    go_enter Try.func28, Try.ntmps28
    go_wp2_with fail
    go_ret
    exact ⟨by rw [E.out]; try rfl, ((From.start w).alloc _).below⟩
  have e2 : ¬ (12 : Int) < (o.syms.length : Int) := by omega
  go_enter Try.func28, Try.ntmps28
  go_wp2_with fail
  have HB0 := Lib.hid (Blk.new w #[.slice a1 o.secs.length cap1, .slice a2 o.syms.length cap2] 26)
  go_loopw [20] (fun i wr => ∃ k : Nat, k ≤ o.secs.length ∧ i = .int .i64 k ∧ Hid (∀ s ∈ o.secs.take k, secB s o.syms.length = true) ∧ Hid (Blk wr w.heap.size #[.slice a1 o.secs.length cap1, .slice a2 o.syms.length cap2] 26) ∧ Hid (From w.heap.size w wr)) (fun i _ => o.secs.length - (intOf i).toNat)
  case atStart => exact ⟨0, Nat.zero_le _, rfl, (fun s hs => by simp at hs), HB0, (From.start w).alloc _⟩
  case round =>
    clear HB0
    obtain ⟨k, hk, rfl, HV, HB, HF⟩ := hrel
    have cb := HB.out.cell
    have zb := HB.out.lt
    by_cases hlt : k < o.secs.length
    · obtain ⟨b, off, rfl, hc⟩ := HC1.out (by omega)
      obtain ⟨vb, vf, hb, hf, c0, c1, c2, c3, c4, c5⟩ := hc k hlt
      obtain ⟨ba, bc, rfl, -⟩ := hb.form
      obtain ⟨fa, fc, rfl, -⟩ := hf.form
      have hbl : b < w.heap.size := World.block_lt_of_cell? w _ c0
      have g0 := (HF.out.below.cell (p := ⟨b, off + k * 6, none⟩) hbl).trans c0
      have g1 := (HF.out.below.cell (p := ⟨b, off + k * 6 + 1, none⟩) hbl).trans c1
      have g2 := (HF.out.below.cell (p := ⟨b, off + k * 6 + 2, none⟩) hbl).trans c2
      have g3 := (HF.out.below.cell (p := ⟨b, off + k * 6 + 3, none⟩) hbl).trans c3
      have g4 := (HF.out.below.cell (p := ⟨b, off + k * 6 + 4, none⟩) hbl).trans c4
      have g5 := (HF.out.below.cell (p := ⟨b, off + k * 6 + 5, none⟩) hbl).trans c5
      have i1 : (k : Int) < (o.secs.length : Int) := by omega
      have HX : Hid (SecAt w (secV o.secs[k] (.slice ba o.secs[k].bytes.length bc) (.slice fa o.secs[k].fix.length fc)) o.secs[k]) := ⟨_, _, rfl, hb, hf⟩
      have HNk := Lib.hid (HN.out.1 o.secs[k] (List.getElem_mem hlt))
      have HG := Lib.hid (take_good hlt HV.out)
      have HBad := Lib.hid (fun h => objB_not (fun ok => by have := ok.secs _ (List.getElem_mem hlt); rw [h] at this; cases this) : secB o.secs[k] o.syms.length = false → objB o = false)
      clear hc c0 c1 c2 c3 c4 c5 hb hf
      generalize o.secs[k] = x at *
      cases hq : secB x o.syms.length
      · have E := Lib.hid (HBad.out hq)
        clear HG HBad
        go_wp2_with fail
        refine (i_SectionValid _ (secV x (.slice ba x.bytes.length bc) (.slice fa x.fix.length fc)) x (HX.out.below (Nat.le_refl _) (HF.out.alloc _).below) HNk.out _).mono ?_
        rw [hq]
        rintro e w2 ⟨rfl, h2⟩
        have HF2 := Lib.hid ((HF.out.alloc _).call h2)
        clear h2 HF HB cb zb g0 g1 g2 g3 g4 g5
        go_wp2_with fail
        go_ret
        exact ⟨by rw [E.out]; try rfl, HF2.out.below⟩
      · have HG2 := Lib.hid (HG.out hq)
        clear HG HBad
        go_wp2_with fail
        refine (i_SectionValid _ (secV x (.slice ba x.bytes.length bc) (.slice fa x.fix.length fc)) x (HX.out.below (Nat.le_refl _) (HF.out.alloc _).below) HNk.out _).mono ?_
        rw [hq]
        rintro e w2 ⟨rfl, h2⟩
        have HF2 := Lib.hid ((HF.out.alloc _).call h2)
        have HB2 := Lib.hid ((HB.out.alloc _).call h2)
        clear h2 HF HB cb zb g0 g1 g2 g3 g4 g5 hq
        go_wp2_with fail
        go_roundw
        case rel => exact ⟨k + 1, by omega, by go_num, HG2, HB2, HF2⟩
        case measure => simp [intOf]; try omega
    · obtain rfl : k = o.secs.length := by omega
      have HV2 : Hid (∀ s ∈ o.secs, secB s o.syms.length = true) := by have := HV.out; rwa [List.take_length] at this
      clear HV
      go_wp2_with fail
      go_loopw [34] (fun i wr => ∃ k : Nat, k ≤ o.syms.length ∧ i = .int .i64 k ∧ Hid (∀ s ∈ o.syms.take k, symB s o.secs = true) ∧ Hid (∀ (j : Nat) (h : j < o.syms.length), j < k → dupB (o.syms.take j) o.syms[j] = false) ∧ Hid (Blk wr w.heap.size #[.slice a1 o.secs.length cap1, .slice a2 o.syms.length cap2] 26) ∧ Hid (From w.heap.size w wr)) (fun i _ => o.syms.length - (intOf i).toNat)
      case atStart => exact ⟨0, Nat.zero_le _, rfl, (fun s hs => by simp at hs), (fun j h hj => by omega), HB, HF⟩
      case round =>
        clear HB HF cb zb
        obtain ⟨k, hk, rfl, HV, HD, HB, HF⟩ := hrel
        have cb := HB.out.cell
        have zb := HB.out.lt
        by_cases hlt : k < o.syms.length
        · obtain ⟨b, off, rfl, hc⟩ := HC2.out (by omega)
          obtain ⟨c0, c1, c2, c3⟩ := hc k hlt
          have hbl : b < w.heap.size := World.block_lt_of_cell? w _ c0
          have g0 := (HF.out.below.cell (p := ⟨b, off + k * 4, none⟩) hbl).trans c0
          have g1 := (HF.out.below.cell (p := ⟨b, off + k * 4 + 1, none⟩) hbl).trans c1
          have g2 := (HF.out.below.cell (p := ⟨b, off + k * 4 + 2, none⟩) hbl).trans c2
          have g3 := (HF.out.below.cell (p := ⟨b, off + k * 4 + 3, none⟩) hbl).trans c3
          have i1 : (k : Int) < (o.syms.length : Int) := by omega
          have i2 : (k : Int) ≤ (o.syms.length : Int) := by omega
          have i3 : (k : Int) ≤ (cap2 : Int) := by omega
          have HNk := Lib.hid (HN.out.2 o.syms[k] (List.getElem_mem hlt))
          have HG := Lib.hid (take_good hlt HV.out)
          have HBad := Lib.hid (fun h => objB_not (fun ok => by have := ok.syms _ (List.getElem_mem hlt); rw [h] at this; cases this) : symB o.syms[k] o.secs = false → objB o = false)
          have HBad2 := Lib.hid (fun h => objB_not (fun ok => by have := ok.once _ hlt; rw [h] at this; cases this) : dupB (o.syms.take k) o.syms[k] = true → objB o = false)
          have HG3 : Hid (dupB (o.syms.take k) o.syms[k] = false → ∀ (j : Nat) (h : j < o.syms.length), j < k + 1 → dupB (o.syms.take j) o.syms[j] = false) := fun h j hj hjk => by
            by_cases hjk' : j < k
            · exact HD.out j hj hjk'
            · obtain rfl : j = k := by omega
              exact h
          have HPre : Hid (SymsAt w (.slice (some ⟨b, off, none⟩) k cap2) (o.syms.take k)) := by
            have h1 : (o.syms.take k).length = k := by rw [List.length_take]; omega
            have := (show Reads w 4 _ _ _ from HY0.out).take k (by omega) cap2 (by omega) (Nat.le_refl _) (fun h => by cases h)
            show SymsAt _ _ _
            unfold SymsAt
            rw [h1]
            have e : (o.syms.take k).flatMap symL = (o.syms.flatMap symL).take (k * 4) := by
              conv => rhs; rw [← List.take_append_drop k o.syms, List.flatMap_append]
              rw [List.take_left' (by rw [flat_length _ _ symL_length, h1])]
            rw [e]
            exact this
          clear hc c0 c1 c2 c3
          generalize o.syms[k] = x at *
          go_wp2_with fail
          have HB6 := Lib.hid (Blk.new wr #[.string x.name, .int .i64 x.bind, .int .i64 x.whr, .int .i64 x.val] 78)
          have HB1 := Lib.hid (HB.out.alloc (.cells #[.string x.name, .int .i64 x.bind, .int .i64 x.whr, .int .i64 x.val] 78))
          have HF1 := Lib.hid (HF.out.alloc (.cells #[.string x.name, .int .i64 x.bind, .int .i64 x.whr, .int .i64 x.val] 78))
          have ne : wr.heap.size ≠ w.heap.size := by omega
          generalize hw1 : wr.alloc (.cells #[.string x.name, .int .i64 x.bind, .int .i64 x.whr, .int .i64 x.val] 78) = w1 at HB6 HB1 HF1 ⊢
          clear hw1
          have p0 : ∀ p : Grew w1, p.w.cell? ⟨w.heap.size, 0, none⟩ = some (.slice a1 o.secs.length cap1) := fun p => p.cell (HB1.out.cell 0)
          have p1 : ∀ p : Grew w1, p.w.cell? ⟨w.heap.size, 1, none⟩ = some (.slice (some ⟨b, off, none⟩) o.syms.length cap2) := fun p => p.cell (HB1.out.cell 1)
          have r0 : ∀ p : Grew w1, p.w.cell? ⟨wr.heap.size, 0, none⟩ = some (.string x.name) := fun p => p.cell (HB6.out.cell 0)
          have r1 : ∀ p : Grew w1, p.w.cell? ⟨wr.heap.size, 1, none⟩ = some (.int .i64 x.bind) := fun p => p.cell (HB6.out.cell 1)
          have r2 : ∀ p : Grew w1, p.w.cell? ⟨wr.heap.size, 2, none⟩ = some (.int .i64 x.whr) := fun p => p.cell (HB6.out.cell 2)
          have r3 : ∀ p : Grew w1, p.w.cell? ⟨wr.heap.size, 3, none⟩ = some (.int .i64 x.val) := fun p => p.cell (HB6.out.cell 3)
          have k1 : ∀ p : Grew w1, Calls Try.prog 82 #[symV x, .slice a1 o.secs.length cap1] p.w fun e w' => e = .returned (.bool (symB x o.secs)) ∧ Below p.w.heap.size p.w w' := fun p =>
            i_SymbolValid p.w x _ _ (HS0.out.below (Nat.le_refl _) (HF1.out.call p.h).below) HNk.out
          have k2 : ∀ p : Grew w1, Calls Try.prog 83 #[.slice (some ⟨b, off, none⟩) k cap2, .string x.name] p.w fun e w' => e = .returned (.int .i64 (findI (globNm x.name) (o.syms.take k))) ∧ Below p.w.heap.size p.w w' := fun p =>
            globalOf_any p.w _ _ (HPre.out.below (Nat.le_refl _) (HF1.out.call p.h).below) x.name
          have K1 := Lib.hid k1
          have K2 := Lib.hid k2
          clear k1 k2 cb zb g0 g1 g2 g3 HB6 HB HF
          cases hq : symB x o.secs
          · have E := Lib.hid (HBad.out hq)
            rw [hq] at K1
            clear HG HBad HBad2 HG3 hq
            refine wp_region_grew (by kernel_rfl) (by kernel_rfl) ?_
            repeat (go_big_quiet_step ((with_reducible exact grew_call (K1.out _))))
            refine wpQuiet_nil ?_
            rintro _ ⟨p, rfl⟩
            have HFL := Lib.hid (HF1.out.call p.h)
            clear p0 p1 r0 r1 r2 r3
            go_wp2_with fail
            go_ret
            exact ⟨by rw [E.out]; try rfl, HFL.out.below⟩
          have HG2 := Lib.hid (HG.out hq)
          rw [hq] at K1
          clear HG HBad hq
          by_cases hb : x.bind = 0
          · have e0 : (x.bind != 0) = false := by simpa using hb
            have HD2 := Lib.hid (HG3.out (by simp [dupB, globB, hb]))
            clear hb HBad2 HG3
            refine wp_region_grew (by kernel_rfl) (by kernel_rfl) ?_
            repeat (go_big_quiet_step ((with_reducible exact grew_call (K1.out _))))
            refine wpQuiet_nil ?_
            rintro _ ⟨p, rfl⟩
            have HFL := Lib.hid (HF1.out.call p.h)
            have HBL := Lib.hid (HB1.out.call p.h)
            clear p0 p1 r0 r1 r2 r3
            go_wp2_with fail
            go_roundw
            case rel => exact ⟨k + 1, by omega, by go_num, HG2, HD2, HBL, HFL⟩
            case measure => simp [intOf]; try omega
          have e0 : (x.bind != 0) = true := by simpa using hb
          have hg : globB x = true := by simp [globB, hb]
          cases hd : (o.syms.take k).any (globNm x.name)
          · have HD2 := Lib.hid (HG3.out (by rw [dupB_glob, hg, hd]; rfl))
            have hf : ¬ 0 ≤ findI (globNm x.name) (o.syms.take k) := by rw [findI_nonneg, hd]; simp
            clear hb hg hd HBad2 HG3
            generalize findI (globNm x.name) (o.syms.take k) = q at *
            refine wp_region_grew (by kernel_rfl) (by kernel_rfl) ?_
            repeat (go_big_quiet_step (first | (with_reducible exact grew_call (K1.out _)) | (with_reducible exact grew_call (K2.out _))))
            refine wpQuiet_nil ?_
            rintro _ ⟨p, rfl⟩
            have HFL := Lib.hid (HF1.out.call p.h)
            have HBL := Lib.hid (HB1.out.call p.h)
            clear p0 p1 r0 r1 r2 r3
            go_wp2_with fail
            go_roundw
            case rel => exact ⟨k + 1, by omega, by go_num, HG2, HD2, HBL, HFL⟩
            case measure => simp [intOf]; try omega
          · have E := Lib.hid (HBad2.out (by rw [dupB_glob, hg, hd]; rfl))
            have hf : 0 ≤ findI (globNm x.name) (o.syms.take k) := by rw [findI_nonneg, hd]
            clear hb hg hd HBad2 HG3
            generalize findI (globNm x.name) (o.syms.take k) = q at *
            refine wp_region_grew (by kernel_rfl) (by kernel_rfl) ?_
            repeat (go_big_quiet_step (first | (with_reducible exact grew_call (K1.out _)) | (with_reducible exact grew_call (K2.out _))))
            refine wpQuiet_nil ?_
            rintro _ ⟨p, rfl⟩
            have HFL := Lib.hid (HF1.out.call p.h)
            clear p0 p1 r0 r1 r2 r3
            go_wp2_with fail
            go_ret
            exact ⟨by rw [E.out]; try rfl, HFL.out.below⟩
        · obtain rfl : k = o.syms.length := by omega
          have E : Hid (objB o = true) := (objB_iff o).2 ⟨q1, q2, HV2.out, by have := HV.out; rwa [List.take_length] at this, fun i h => HD.out i h h⟩
          clear q1 q2
          go_wp2_with fail
          go_ret
          exact ⟨by rw [E.out]; try rfl, HF.out.below⟩
end Go.Proofs.Ythccjimckjecjaa
