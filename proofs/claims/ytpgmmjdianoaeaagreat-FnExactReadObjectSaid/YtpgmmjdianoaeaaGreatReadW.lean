/- Objects read: the reference's small functions. -/
import Derived.Test.YtpgmmjdianoaeaaGreatReadK
import Derived.Test.YtpgmmjdianoaeaaGreatWrS
namespace Go.Proofs.YtpgmmjdianoaeaaGreat
open Go.ChangeShapes Go.WideShapes Go.ChangeAt Go.RowKit Go.Joins
set_option linter.unusedSimpArgs false
set_option linter.unusedVariables false
set_option maxRecDepth 100000
set_option maxHeartbeats 1000000 in
theorem s_l7Byte (w : World) (v : Value) (l : List UInt8) (h : BytesAt w v l) (p : Nat) (x : Int) (hx : x = (p : Int)) :
    Calls Tryz.prog 32 #[v, .int .i64 x] w fun e w' => e = .returned (.int .i64 (byS l p)) ∧ w = w' := by
  subst hx
  have H := Lib.hid h
  obtain ⟨a, cap, rfl, -⟩ := h.form
  clear h
  go_enter Tryz.func32, Tryz.ntmps32
  go_wp2_with fail
  refine (s_GetNumber w _ l H.out (p : Int) 1).mono ?_
  rintro e w1 ⟨rfl, rfl⟩
  go_wp2_with fail
  go_ret
  exact ⟨rfl, rfl⟩
theorem byS_range (l : List UInt8) (p : Nat) : 0 ≤ byS l p ∧ byS l p ≤ 4294967295 := by
  have := getNum_range l (p : Int) 1
  unfold byS
  omega
theorem bytes_take {w : World} {a : Option Addr} {cap : Nat} {l : List UInt8} (n : Nat) (hn : n ≤ l.length) (h : BytesAt w (.slice a l.length cap) l) : BytesAt w (.slice a n cap) (l.take n) := by
  obtain ⟨a', cap', hv, hcap, hmax, hnone, hcell⟩ := h.form
  injection hv with e1 e2 e3
  subst e1 e3
  have hlen : (l.take n).length = n := by rw [List.length_take]; omega
  unfold BytesAt
  rw [hlen]
  refine ⟨by rw [bvs_length, hlen]; simp, a, cap, rfl, by omega, hmax, fun e => by have := hnone e; omega, fun h0 => ?_⟩
  obtain ⟨b, off, rfl, hc⟩ := hcell (by omega)
  refine ⟨b, off, rfl, fun j u hu => ?_⟩
  have hj : j < n := by have := (List.getElem?_eq_some_iff.1 hu).1; rw [bvs_length, hlen] at this; exact this
  rw [hc j (by omega)]
  have hg : (l.take n)[j]? = some l[j] := by rw [List.getElem?_take_of_lt hj, List.getElem?_eq_getElem (by omega)]
  simp only [bvs, List.getElem?_map, hg, Option.map_some] at hu
  exact hu
/-- A part of bytes, as a slice expression takes it. -/
theorem bytes_part {w : World} {a : Option Addr} {cap : Nat} {l : List UInt8} (lo n : Nat) (x y : Int) (hx : x = (lo : Int)) (hy : y = (lo : Int) + (n : Int)) (hn : lo + n ≤ l.length) (h : BytesAt w (.slice a l.length cap) l) :
    ∃ sa, (∀ u, (Instr.slice 22 (.slice a l.length cap) (some (.int .i64 x)) (some (.int .i64 y)) none).run Tryz.prog u = .ok (.slice sa n (cap - lo)) u) ∧ BytesAt w (.slice sa n (cap - lo)) ((l.drop lo).take n) := by
  obtain ⟨a', cap', hv, hcap, hmax, hnone, hcell⟩ := h.form
  injection hv with e1 e2 e3
  subst e1 e3
  have i1 : x ≤ (l.length : Int) := by omega
  have i2 : y ≤ (cap : Int) := by omega
  have i3 : x ≤ y := by omega
  have i4 : 0 ≤ x := by omega
  have i5 : x ≤ (cap : Int) := by omega
  have i6 : 0 ≤ y := by omega
  have e8 : x.toNat = lo := by omega
  have e9 : y.toNat - lo = n := by omega
  refine ⟨if cap = lo then a else a.map (fun x => x.add lo), fun u => ?_, ?_⟩
  · clear hx hy
    go_simp
    all_goals (try simp only [e8, e9])
  · obtain ⟨h1, -⟩ := bytes_drop (sa := if cap = lo then a else a.map (fun x => x.add lo)) lo (by omega) h (fun e => by rw [if_pos e]) (fun e => by rw [if_neg e])
    have e : (l.drop lo).length = l.length - lo := by rw [List.length_drop]
    rw [← e] at h1
    exact bytes_take n (by omega) h1
set_option maxHeartbeats 8000000 in
theorem s_ReadObject (w : World) (v : Value) (l : List UInt8) (h : BytesAt w v l) :
    Calls Tryz.prog 7 #[v] w (RetRd w (readS l)) := by
  obtain ⟨i0, hi0, ia0, ia1, ia2⟩ := info_parts info_fix
  obtain ⟨j0, hj0, ja0, ja1, ja2⟩ := info_parts info_sec
  obtain ⟨y0, hy0, ya0, ya1, ya2⟩ := info_parts info_sym
  obtain ⟨u0, hu0, ua0, ua1, ua2⟩ := info_parts info_u8
  have H := Lib.hid h
  obtain ⟨va, vc, rfl, hcap, hmax, -, -⟩ := h.form
  clear h
  unfold maxLen at hmax
  have HF0 := Lib.hid ((From.start w).alloc (.cells #[.slice none 0 0, .slice none 0 0] 27))
  have HR0 := Lib.hid (Blk.new w #[.slice none 0 0, .slice none 0 0] 27)
  go_enter Tryz.func7, Tryz.ntmps7
  go_wp2_with fail
  have q1 := s_GetHeader_all (w.alloc (.cells #[.slice none 0 0, .slice none 0 0] 27)) (.slice va l.length vc) l (H.out.below (Nat.le_refl _) HF0.out.below)
  unfold RetHead at q1
  cases hh : getHead l with
  | none =>
    have E : Hid (readS l = none) := by show _ = _; unfold readS; rw [hh]
    rw [hh] at q1
    simp only [headOpt, headerV, Option.isSome] at q1
    refine q1.mono ?_
    rintro e w1 ⟨rfl, k1⟩
    have HF1 := Lib.hid (HF0.out.call k1)
    have HR1 := Lib.hid (HR0.out.call k1)
    have cR := HR1.out.cell
    have fR := HR1.out.frozen
    have zR := HR1.out.lt
    clear q1 hh k1
    go_wp2_with fail
    refine bodyPost_ret (v := .tuple #[.agg #[.slice none 0 0, .slice none 0 0], .bool false]) (by simp [results, Tryz.results7, go_sem, cR, zR]) rfl ⟨_, by rw [E.out]; rfl, by rw [E.out]; exact ownObj_zero _ _, ?_⟩
    have HX := ((HF1.out.setCell (p := ⟨w.heap.size, 0, none⟩) (Nat.le_refl _) (.slice none 0 0)).setCell (p := ⟨w.heap.size, 1, none⟩) (Nat.le_refl _) (.slice none 0 0))
    exact (HX.alloc _).below
  | some q =>
    obtain ⟨a, b, c, d⟩ := q
    rw [hh] at q1
    simp only [headOpt, headerV, Option.isSome] at q1
    have hB := (getHead_some hh).2.1
    have h10 := (getHead_some hh).1
    unfold headerB at hB
    simp only [Bool.and_eq_true, withinB_iff] at hB
    obtain ⟨⟨⟨⟨ha0, ha1⟩, hb0, hb1⟩, hc0, hc1⟩, hd0, hd1⟩ := hB
    obtain ⟨A, rfl⟩ := Int.eq_ofNat_of_zero_le ha0
    obtain ⟨C, rfl⟩ := Int.eq_ofNat_of_zero_le hb0
    obtain ⟨F, rfl⟩ := Int.eq_ofNat_of_zero_le hc0
    obtain ⟨D, rfl⟩ : ∃ D : Nat, d = (D : Int) := ⟨d.toNat, by omega⟩
    have hA8 : A ≤ 8 := by omega
    have hC12 : C ≤ 12 := by omega
    have hF48 : F ≤ 48 := by omega
    have hD400 : D ≤ 400 := by omega
    have ER : Hid (readS l = match objS l A C F D with | none => none | some o => if objB o = true ∧ writeL o = l then some o else none) := by
      show _ = _
      unfold readS
      rw [hh]
      simp only [Int.toNat_natCast]
      cases objS l A C F D <;> rfl
    clear ha0 ha1 hb0 hb1 hc0 hc1 hd0 hd1 hh
    refine q1.mono ?_
    rintro e w1 ⟨rfl, k1⟩
    have HF1 := Lib.hid (HF0.out.call k1)
    have HR1 := Lib.hid (HR0.out.call k1)
    have hqw : w.heap.size < w1.heap.size := HR1.out.lt
    clear q1 k1 HF0 HR0
    by_cases hlen : l.length < 10 + 6 * A + 6 * C + 5 * F + D
    · have E : Hid (readS l = none) := by
        show _ = _
        rw [ER.out]
        unfold objS
        rw [if_pos hlen]
      have i1 : (l.length : Int) < 10 + 6 * (A : Int) + 6 * (C : Int) + 5 * (F : Int) + (D : Int) := by omega
      clear ER hlen
      have cR := HR1.out.cell
      have fR := HR1.out.frozen
      have zR := HR1.out.lt
      go_wp2_with fail
      refine bodyPost_ret (v := .tuple #[.agg #[.slice none 0 0, .slice none 0 0], .bool false]) (by simp [results, Tryz.results7, go_sem, cR, zR]) rfl ⟨_, by rw [E.out]; rfl, by rw [E.out]; exact ownObj_zero _ _, ?_⟩
      have HX := ((HF1.out.setCell (p := ⟨w.heap.size, 0, none⟩) (Nat.le_refl _) (.slice none 0 0)).setCell (p := ⟨w.heap.size, 1, none⟩) (Nat.le_refl _) (.slice none 0 0))
      exact (HX.alloc _).below
    · obtain ⟨ta, htl, hT⟩ := bytes_part (10 + 6 * A + 6 * C + 5 * F) D (10 + 6 * (A : Int) + 6 * (C : Int) + 5 * (F : Int)) (10 + 6 * (A : Int) + 6 * (C : Int) + 5 * (F : Int) + (D : Int)) (by omega) (by omega) (by omega) H.out
      have HT := Lib.hid hT
      have i1 : ¬ (l.length : Int) < 10 + 6 * (A : Int) + 6 * (C : Int) + 5 * (F : Int) + (D : Int) := by omega
      have hlenN : 10 + 6 * A + 6 * C + 5 * F + D ≤ l.length := by omega
      clear hlen hT
      go_wp2_with fail
      obtain ⟨q, hq⟩ : ∃ q, w1.heap.size = q := ⟨_, rfl⟩
      have HFL := Lib.hid ((HF1.out.alloc (.cells #[.int .i64 (A : Int), .int .i64 (C : Int), .int .i64 (F : Int), .int .i64 (D : Int)] 44)).alloc (.cells #[.slice none 0 0, .slice none 0 0] 27))
      have HRL := Lib.hid ((HR1.out.alloc (.cells #[.int .i64 (A : Int), .int .i64 (C : Int), .int .i64 (F : Int), .int .i64 (D : Int)] 44)).alloc (.cells #[.slice none 0 0, .slice none 0 0] 27))
      have HHL := Lib.hid ((Blk.newAt w1 #[.int .i64 (A : Int), .int .i64 (C : Int), .int .i64 (F : Int), .int .i64 (D : Int)] 44 q hq.symm).alloc (.cells #[.slice none 0 0, .slice none 0 0] 27))
      have HOL := Lib.hid (Blk.newAt (w1.alloc (.cells #[.int .i64 (A : Int), .int .i64 (C : Int), .int .i64 (F : Int), .int .i64 (D : Int)] 44)) #[.slice none 0 0, .slice none 0 0] 27 (q + 1) (by simp [hq]))
      rw [hq] at hqw
      simp only [hq]
      generalize hwL : ((w1.alloc (.cells #[.int .i64 (A : Int), .int .i64 (C : Int), .int .i64 (F : Int), .int .i64 (D : Int)] 44)).alloc (.cells #[.slice none 0 0, .slice none 0 0] 27)) = wL at *
      clear hwL HF1 HR1 hq htl
      have HTB : Hid (BytesAt w (.slice ta (tabS l A C F D).length (vc - (10 + 6 * A + 6 * C + 5 * F))) (tabS l A C F D)) := by
        have e : (tabS l A C F D).length = D := by unfold tabS; rw [List.length_take, List.length_drop]; omega
        rw [e]
        exact HT.out
      have HTL : Hid ((tabS l A C F D).length = D) := by show _ = _; unfold tabS; rw [List.length_take, List.length_drop]; omega
      rw [HTL.out] at HTB
      clear HT
      generalize hTT : tabS l A C F D = TT at *
      have EO : Hid (objS l A C F D = match secsS l TT (10 + 6 * A + 6 * C + 5 * F) ((10 + 6 * A + 6 * C + 5 * F) + D) (10 + 6 * A + 6 * C) A with | none => none | some (S, _, _) => some ⟨S, symsS l TT (10 + 6 * A) C⟩) := by
        show _ = _
        unfold objS
        rw [if_neg (by omega), hTT]
        cases secsS l TT (10 + 6 * A + 6 * C + 5 * F) ((10 + 6 * A + 6 * C + 5 * F) + D) (10 + 6 * A + 6 * C) A <;> rfl
      clear hTT
      go_loopw [8, 9, 11] (fun a8 a9 i wr => ∃ (k at' fx : Nat) (LS : List (SecD × Value × Value)) (so : Option Addr) (sc : Nat), k ≤ A ∧ a8 = .int .i64 (at' : Int) ∧ a9 = .int .i64 (fx : Int) ∧ i = .int .i64 (k : Int) ∧ at' ≤ l.length ∧ fx ≤ (10 + 6 * A + 6 * C + 5 * F) ∧ LS.length = k ∧ Hid (secsS l TT (10 + 6 * A + 6 * C + 5 * F) ((10 + 6 * A + 6 * C + 5 * F) + D) (10 + 6 * A + 6 * C) k = some (LS.map (·.1), at', fx)) ∧ Hid (∀ x ∈ LS, x.1.name.size ≤ D) ∧ Hid (OwnSecs wr (q + 2) (.slice so k sc) LS) ∧ Hid (Blk wr (q + 1) #[.slice so k sc, .slice none 0 0] 27) ∧ Hid (Blk wr q #[.int .i64 (A : Int), .int .i64 (C : Int), .int .i64 (F : Int), .int .i64 (D : Int)] 44) ∧ Hid (Blk wr w.heap.size #[.slice none 0 0, .slice none 0 0] 27) ∧ Hid (From w.heap.size w wr)) (fun _ _ i _ => A - (intOf i).toNat)
      case atStart => exact ⟨0, (10 + 6 * A + 6 * C + 5 * F) + D, 10 + 6 * A + 6 * C, [], none, 0, Nat.zero_le _, by simp, by simp, rfl, hlenN, by omega, rfl, rfl, (fun x hx => by cases hx), ⟨World.ownsRow_nil _ _ _ _, (fun x hx => by cases hx), by simp [blksOf, Value.ownBlock]⟩, HOL, HHL, HRL, HFL⟩
      case round =>
        clear HFL HRL HHL HOL
        obtain ⟨wo, rfl⟩ : ∃ wo, wo = wr := ⟨_, rfl⟩
        obtain ⟨k, at', fx, LS, so, sc, hk, rfl, rfl, rfl, hat, hfx, hLk, HSS, HNMS, HS, HO, HH, HR, HF⟩ := hrel
        have cH := HH.out.cell
        have zH := HH.out.lt
        by_cases hlt : k < A
        · have i2 : (k : Int) < (A : Int) := by omega
          have hAt := H.out.below (Nat.le_refl _) HF.out.below
          have HBW := Lib.hid hAt
          have HTW := Lib.hid (show BytesAt wo (.slice ta D (vc - (10 + 6 * A + 6 * C + 5 * F))) TT from by have h9 := HTB.out.below (w' := wo) (B := w.heap.size) (Nat.le_refl _) HF.out.below; exact h9)
          clear hAt
          
          go_wp2_with fail
          refine (s_GetNumber wo _ l HBW.out (10 + 6 * (k : Int)) 2).mono ?_
          rintro e w' ⟨rfl, rfl⟩
          obtain ⟨pl, hpl⟩ : ∃ x, getNum l (10 + 6 * (k : Int)) 2 = x := ⟨_, rfl⟩
          rw [hpl]
          have Hpl := Lib.hid hpl
          clear hpl
          go_wp2_with fail
          refine (s_NameAt wo _ TT HTW.out pl).mono ?_
          rintro e w' ⟨rfl, rfl⟩
          unfold optV
          obtain ⟨nm, hnm⟩ : ∃ s : ByteArray, (⟨((nameAtL TT pl).getD []).toArray⟩ : ByteArray) = s := ⟨_, rfl⟩
          obtain ⟨okb, hokb⟩ : ∃ s : Bool, (nameAtL TT pl).isSome = s := ⟨_, rfl⟩
          rw [hnm, hokb]
          have HNM : Hid (nameOf TT pl = nm) := hnm
          clear hnm hokb
          go_wp2_with fail
          refine (s_l7Byte wo _ l HBW.out (10 + 6 * k + 2) _ (by push_cast; rfl)).mono ?_
          rintro e w' ⟨rfl, rfl⟩
          obtain ⟨kd, hkd⟩ : ∃ x, byS l (10 + 6 * k + 2) = x := ⟨_, rfl⟩
          rw [hkd]
          have Hkd := Lib.hid hkd
          clear hkd
          go_wp2_with fail
          refine (s_l7Byte wo _ l HBW.out (10 + 6 * k + 3) _ (by push_cast; rfl)).mono ?_
          rintro e w' ⟨rfl, rfl⟩
          obtain ⟨al, hal⟩ : ∃ x, byS l (10 + 6 * k + 3) = x := ⟨_, rfl⟩
          rw [hal]
          have Hal := Lib.hid hal
          clear hal
          go_wp2_with fail
          
          obtain ⟨X, hX⟩ : ∃ X, wo.heap.size = X := ⟨_, rfl⟩
          have hqX : q + 1 < X := by rw [← hX]; exact HO.out.lt
          have HX0 := Lib.hid (Blk.newAt wo #[.string nm, .int .i64 kd, .int .i64 al, .slice none 0 0, .int .i64 0, .slice none 0 0] 53 X hX.symm)
          have HFX0 : Hid (From X wo (wo.alloc (.cells #[.string nm, .int .i64 kd, .int .i64 al, .slice none 0 0, .int .i64 0, .slice none 0 0] 53))) := by rw [← hX]; exact (From.start wo).alloc _
          simp only [hX]
          generalize hwx : wo.alloc (.cells #[.string nm, .int .i64 kd, .int .i64 al, .slice none 0 0, .int .i64 0, .slice none 0 0] 53) = wx at *
          clear hwx
          have HBX := Lib.hid (HBW.out.below (Nat.le_of_eq hX) HFX0.out.below)
          refine (s_l7Byte wx _ l HBX.out (10 + 6 * k + 4) _ (by push_cast; rfl)).mono ?_
          rintro e w' ⟨rfl, rfl⟩
          obtain ⟨sz, hsz⟩ : ∃ x, byS l (10 + 6 * k + 4) = x := ⟨_, rfl⟩
          have hs0 := byS_range l (10 + 6 * k + 4)
          rw [hsz] at hs0 ⊢
          have Hsz := Lib.hid hsz
          clear hsz
          obtain ⟨Z, rfl⟩ := Int.eq_ofNat_of_zero_le hs0.1
          have cX := HX0.out.cell
          have fX := HX0.out.frozen
          have zX := HX0.out.lt
          go_upto_if 104 with fail
          go_cut [8] (fun a8 wr => ∃ (at2 : Nat) (bs : List UInt8) (sz2 : Int) (vb : Value), a8 = .int .i64 (at2 : Int) ∧ at2 ≤ l.length ∧ Hid ((kd = 3 → bs = [] ∧ sz2 = (Z : Int) ∧ at2 = at') ∧ (kd ≠ 3 → ¬ l.length < at' + Z ∧ bs = (l.drop at').take Z ∧ sz2 = 0 ∧ at2 = at' + Z)) ∧ Hid (OwnB wr (X + 1) vb bs) ∧ Hid (Blk wr X #[.string nm, .int .i64 kd, .int .i64 al, vb, .int .i64 sz2, .slice none 0 0] 53) ∧ Hid (From X wo wr))
          case first =>
            by_cases hkd : kd = 3
            · have i3 : (kd == 3) = true := by rw [beq_iff_eq]; exact hkd
              have HK := Lib.hid hkd
              clear hkd
              go_wp2_with fail
              go_meet
              case rel => exact ⟨at', [], (Z : Int), .slice none 0 0, rfl, hat, ⟨fun _ => ⟨rfl, rfl, rfl⟩, fun e => absurd HK.out e⟩, World.ownsRow_nil _ _ _ _, (by show Blk _ _ _ _; have := HX0.out.set (o := 4) (.int .i64 (Z : Int)); simpa using this), HFX0.out.setCell (p := ⟨X, 4, none⟩) (Nat.le_refl _) _⟩
            · have i3 : (kd == 3) = false := by rw [beq_eq_false_iff_ne]; exact hkd
              by_cases hbig : l.length < at' + Z
              · have i4 : (l.length : Int) - (at' : Int) < (Z : Int) := by omega
                have E : Hid (readS l = none) := by
                  show _ = _
                  have hn : secsS l TT (10 + 6 * A + 6 * C + 5 * F) ((10 + 6 * A + 6 * C + 5 * F) + D) (10 + 6 * A + 6 * C) (k + 1) = none := by
                    unfold secsS
                    rw [HSS.out]
                    simp only
                    unfold secS
                    rw [Hkd.out, if_neg hkd, Hsz.out, Int.toNat_natCast, if_pos hbig]
                  rw [ER.out, EO.out, secsS_none hn A (by omega)]
                have HR9 := Lib.hid (HR.out.call (w1 := wx) (by rw [hX]; exact HFX0.out.below))
                have HF9 := Lib.hid (HF.out.call (w1 := wx) (by rw [hX]; exact HFX0.out.below))
                have cR := HR9.out.cell
                have fR := HR9.out.frozen
                have zR := HR9.out.lt
                go_wp2_with fail
                refine bodyPost_ret (v := .tuple #[.agg #[.slice none 0 0, .slice none 0 0], .bool false]) (by simp [results, Tryz.results7, go_sem, cR, zR]) rfl ⟨_, by rw [E.out]; rfl, by rw [E.out]; exact ownObj_zero _ _, ?_⟩
                have HX := ((HF9.out.setCell (p := ⟨w.heap.size, 0, none⟩) (Nat.le_refl _) (.slice none 0 0)).setCell (p := ⟨w.heap.size, 1, none⟩) (Nat.le_refl _) (.slice none 0 0))
                exact HX.below
              · have i4 : ¬ (l.length : Int) - (at' : Int) < (Z : Int) := by omega
                obtain ⟨sb, hsl, hS2⟩ := bytes_part at' Z (at' : Int) ((at' : Int) + (Z : Int)) rfl rfl (by omega) HBX.out
                obtain ⟨BS, hBS⟩ : ∃ BS, (l.drop at').take Z = BS := ⟨_, rfl⟩
                have hBSl : BS.length = Z := by rw [← hBS, List.length_take, List.length_drop]; omega
                rw [hBS] at hS2
                have HSB : Hid (Reads (wx.alloc (.cells #[] 5)) 1 (.slice sb Z (vc - at')) Z (bvs BS)) := by
                  have h9 : BytesAt _ _ BS := hS2.below (Nat.le_refl _) ((From.start wx).alloc (.cells #[] 5)).below
                  unfold BytesAt at h9
                  rw [hBSl] at h9
                  exact h9
                have HBE := Lib.hid hBS
                have HBL := Lib.hid hBSl
                have HKN := Lib.hid hkd
                clear hBS hBSl hS2 hkd
                go_wp2_with (at_builtin; refine wpList_append_own rfl (.tmp 114) (.tmp 120) 22 22 rfl (X + 1) 5 u0 (.int .u8 0) 1 1 Tryz.underlying22 hu0 ua0 ua1 ua2 rfl (by decide) _ _ _ rfl (World.ownsRow_lit wx #[] (e := 5) (size := 1) (base := X + 1) 0 zX (Nat.zero_le _) rfl) _ Z (bvs BS) rfl (src_reads Tryz.underlying22 HSB.out (bvs_one BS)) ?c1 ?c2 ?c3 ?_)
                case c1 => unfold maxLen; omega
                case c2 => omega
                case c3 => first | omega | (simp; omega)
                intro v' w4 hown hgr hpl
                have hB4 : OwnB w4 (X + 1) v' BS := by
                  unfold OwnB
                  rw [HBL.out]
                  simpa using hown
                have hne : ∀ k, (Value.slice (some ⟨wx.heap.size, 0, none⟩) 0 0).ownBlock = some k → k = wx.heap.size := fun k hk => by simpa [Value.ownBlock, eq_comm] using hk
                have HX4 := Lib.hid (Blk.grown (HX0.out.alloc (.cells #[] 5)) hgr (fun e => by have := hne X e.symm; omega))
                have HF4 := Lib.hid (From.grown (HFX0.out.alloc (.cells #[] 5)) hgr (fun k hk => by have := hne k hk; omega))
                obtain ⟨ba, bc, rfl⟩ := owns_form hB4
                have HB4 := Lib.hid hB4
                have cX4 := HX4.out.cell
                have fX4 := HX4.out.frozen
                have zX4 := HX4.out.lt
                clear hown hgr hpl hB4 hne hsl cX fX zX
                go_wp2_with fail
                go_meet
                case rel => exact ⟨at' + Z, BS, 0, _, by simp, by omega, ⟨fun e => absurd e HKN.out, fun _ => ⟨hbig, HBE.out.symm, rfl, rfl⟩⟩, ownsRow_setCell_below HB4.out (a := ⟨X, 3, none⟩) (Nat.lt_succ_self X) _, (by show Blk _ _ _ _; have := HX4.out.set (o := 3) (.slice ba BS.length bc); simpa using this), HF4.out.setCell (p := ⟨X, 3, none⟩) (Nat.le_refl _) _⟩
          case rest =>
            clear HX0 HFX0 cX fX zX HBX
            obtain ⟨at2, bs, sz2, vb, rfl, hat2, HC, HB, HX, HFX⟩ := hcut
            have hbx := HBW.out.below (w' := wc) (Nat.le_of_eq hX) HFX.out.below
            have HBX := Lib.hid hbx
            clear hbx
            go_wp2_with fail
            refine (s_l7Byte wc _ l HBX.out (10 + 6 * k + 5) _ (by push_cast; rfl)).mono ?_
            rintro e w' ⟨rfl, rfl⟩
            obtain ⟨jj, hjj⟩ : ∃ x, byS l (10 + 6 * k + 5) = x := ⟨_, rfl⟩
            have hJr := byS_range l (10 + 6 * k + 5)
            rw [hjj] at hJr ⊢
            have Hjj := Lib.hid hjj
            clear hjj
            obtain ⟨J, rfl⟩ := Int.eq_ofNat_of_zero_le hJr.1
            go_wp2_with fail
            
            go_loopw [9, 17] (fun a9 j wr => ∃ (m p : Nat) (FX : List FixD) (vf : Value), a9 = .int .i64 (p : Int) ∧ j = .int .i64 (m : Int) ∧ m ≤ J ∧ p ≤ (10 + 6 * A + 6 * C + 5 * F) ∧ 5 * FX.length ≤ p ∧ Hid (fixS l (10 + 6 * A + 6 * C + 5 * F) J fx = (FX ++ (fixS l (10 + 6 * A + 6 * C + 5 * F) m p).1, (fixS l (10 + 6 * A + 6 * C + 5 * F) m p).2)) ∧ Hid (OwnB wr (X + 1) vb bs) ∧ Hid (OwnF wr (X + 1) vf FX) ∧ Hid (∀ k, vb.ownBlock = some k → vf.ownBlock ≠ some k) ∧ Hid (Blk wr X #[.string nm, .int .i64 kd, .int .i64 al, vb, .int .i64 sz2, vf] 53) ∧ Hid (From X wo wr)) (fun _ j _ => (intOf j).toNat)
            case atStart => exact ⟨J, fx, [], .slice none 0 0, rfl, rfl, Nat.le_refl _, hfx, by simp, by show _ = _; simp, HB, World.ownsRow_nil _ _ _ _, (fun k _ => by simp [Value.ownBlock]), HX, HFX⟩
            case round =>
              clear HB HX HFX HBX
              obtain ⟨m, p, FX, vf, rfl, rfl, hmJ, hpN, hFX5, HFS, HB, HFo, HNE, HX, HFX⟩ := hrel
              by_cases hgo : 0 < m ∧ p + 5 ≤ (10 + 6 * A + 6 * C + 5 * F)
              · obtain ⟨hm0, hp5⟩ := hgo
                have i5 : (0 : Int) < (m : Int) := by omega
                have i6 : (p : Int) + 5 ≤ 10 + 6 * (A : Int) + 6 * (C : Int) + 5 * (F : Int) := by omega
                have hby := HBW.out.below (w' := wr) (Nat.le_of_eq hX) HFX.out.below
                have HBY := Lib.hid hby
                obtain ⟨nF, hnF⟩ : ∃ nF, FX.length = nF := ⟨_, rfl⟩
                have HNF := Lib.hid hnF
                have hof := HFo.out
                unfold OwnF at hof
                rw [hnF] at hof hFX5
                have HMF := Lib.hid hof
                clear hby hof hnF
                obtain ⟨fa, fc, rfl⟩ := owns_form HMF.out
                obtain ⟨f1, h1⟩ : ∃ x, byS l p = x := ⟨_, rfl⟩
                obtain ⟨f2, h2⟩ : ∃ x, byS l (p + 1) = x := ⟨_, rfl⟩
                obtain ⟨f3, h3⟩ : ∃ x, byS l (p + 2) = x := ⟨_, rfl⟩
                obtain ⟨f4, h4⟩ : ∃ x, getNum l ((p : Int) + 3) 2 = x := ⟨_, rfl⟩
                have hr4 := getNum_range l ((p : Int) + 3) 2
                rw [h4] at hr4
                have hw1 := IntWalk.i64_in ((p : Int) + 1) (by omega)
                have hw2 := IntWalk.i64_in ((p : Int) + 2) (by omega)
                have hw3 := IntWalk.i64_in ((p : Int) + 3) (by omega)
                have hwm : IntKind.i64.wrap (f4 - 1000) = f4 - 1000 := IntWalk.i64_in _ (by omega)
                have Hf1 := Lib.hid h1
                have Hf2 := Lib.hid h2
                have Hf3 := Lib.hid h3
                have Hf4 := Lib.hid h4
                clear h1 h2 h3 h4
                have zX := HX.out.lt
                go_wp2_with fail
                
                let f0 : Nat → Value := fun i => match i with
                  | 0 => .pointer (some ⟨X, 5, none⟩)
                  | 1 => .slice fa nF fc
                  | 2 => .slice va l.length vc
                  | 3 => .int .i64 (p : Int)
                  | 4 => .int .i64 f1
                  | 5 => .slice va l.length vc
                  | 6 => .int .i64 (p : Int)
                  | 7 => .int .i64 ((p : Int) + 1)
                  | 8 => .int .i64 f2
                  | 9 => .slice va l.length vc
                  | 10 => .int .i64 (p : Int)
                  | 11 => .int .i64 ((p : Int) + 2)
                  | 12 => .int .i64 f3
                  | 13 => .slice va l.length vc
                  | 14 => .int .i64 (p : Int)
                  | 15 => .int .i64 ((p : Int) + 3)
                  | 16 => .int .i64 f4
                  | 17 => .int .i64 (f4 - 1000)
                  | 18 => .agg #[.int .i64 f1, .int .i64 f2, .int .i64 f3, .int .i64 (f4 - 1000)]
                  | 21 => .pointer (some ⟨X, 5, none⟩)
                  | _ => undef
                let Mid : World → Value → Prop := fun u v' => Other (Value.slice fa nF fc).ownBlock.toList wr u ∧ OwnF u (X + 1) v' (FX ++ [(f1, f2, f3, f4 - 1000)]) ∧ ∀ k', v'.ownBlock = some k' → (Value.slice fa nF fc).ownBlock = some k' ∨ wr.heap.size ≤ k'
                have hvb : ∀ k' ∈ (Value.slice fa nF fc).ownBlock.toList, X + 1 ≤ k' := fun k' hk' => (World.ownsRow.lt HMF.out k' (by simpa using hk')).1
                have hX2 : X ∉ (Value.slice fa nF fc).ownBlock.toList := fun h9 => by have := hvb _ h9; omega
                refine wp_region_get (fun i v u => (i = 19 → ∃ z', v = .slice (some ⟨z', 0, none⟩) 1 1 ∧ Blk u z' #[.int .i64 f1, .int .i64 f2, .int .i64 f3, .int .i64 (f4 - 1000)] 57) ∧ (i = 20 → Mid u v) ∧ (i ≠ 19 → i ≠ 20 → v = f0 i))
                  (fun _ f u => (f 20 = false → Below wr.heap.size wr u) ∧ (f 22 = false → Other (Value.slice fa nF fc).ownBlock.toList wr u) ∧ (f 22 = true → ∃ v' u1, u = u1.setCell ⟨X, 5, none⟩ v' ∧ Mid u1 v'))
                  [[], [0], [], [], [2, 3], [], [], [6], [5, 7], [], [], [10], [9, 11], [], [], [14], [13, 15], [16], [4, 8, 12, 17], [18], [1, 19], [], [20, 21]] [[], [0], [], [], [2, 3], [], [], [6], [2, 3, 4, 5, 6, 7], [], [], [10], [2, 3, 4, 5, 6, 7, 8, 9, 10, 11], [], [], [14], [2, 3, 4, 5, 6, 7, 8, 9, 10, 11, 12, 13, 14, 15], [2, 3, 4, 5, 6, 7, 8, 9, 10, 11, 12, 13, 14, 15, 16], [2, 3, 4, 5, 6, 7, 8, 9, 10, 11, 12, 13, 14, 15, 16, 17], [2, 3, 4, 5, 6, 7, 8, 9, 10, 11, 12, 13, 14, 15, 16, 17, 18], [0, 1, 2, 3, 4, 5, 6, 7, 8, 9, 10, 11, 12, 13, 14, 15, 16, 17, 18, 19], [0, 1, 2, 3, 4, 5, 6, 7, 8, 9, 10, 11, 12, 13, 14, 15, 16, 17, 18, 19, 20], [0, 1, 2, 3, 4, 5, 6, 7, 8, 9, 10, 11, 12, 13, 14, 15, 16, 17, 18, 19, 20, 21]] [] (by kernel_rfl) (by kernel_rfl) (by kernel_rfl) (by kernel_rfl) (by kernel_rfl)
                  ⟨fun _ => ((From.start wr).drew).below, fun _ => Other.below ((From.start wr).drew).below, fun h => by cases h⟩ ?ho ?hq
                case ho =>
                  refine ⟨?_, ?_, ?_, ?_, ?_, ?_, ?_, ?_, ?_, ?_, ?_, ?_, ?_, ?_, ?_, ?_, ?_, ?_, ?_, ?_, ?_, ?_, ?_, trivial⟩
                  · intro n f a9 u K' hfr hn hl hS hv hK'
                    have eA8 : a9.tmps.getD 15 undef = .pointer (some ⟨X, 0, none⟩) := hfr 15 (no_dst (by kernel_rfl))
                    have eB8 : (a9.tmps[15]?).getD undef = .pointer (some ⟨X, 0, none⟩) := by simpa using eA8
                    refine owe_run rfl (wp_val (v := .pointer (some ⟨X, 5, none⟩)) ?_ (hK' _ _ ⟨fun h => hS.1 (setl_off h), fun h => hS.2.1 (setl_off h), fun h => hS.2.2 (by rwa [setl_ne (by decide)] at h)⟩ (fun _ _ _ h => h) (fun _ => ⟨fun e => absurd e (by decide), fun e => absurd e (by decide), fun _ _ => rfl⟩)))
                    first
                      | (go_simp; done)
                      | (go_simp; rfl)
                  · intro n f a9 u K' hfr hn hl hS hv hK'
                    have eA0 : a9.tmps.getD 140 undef = .pointer (some ⟨X, 5, none⟩) := hv.1.2.2 (by decide) (by decide)
                    have eB0 : (a9.tmps[140]?).getD undef = .pointer (some ⟨X, 5, none⟩) := by simpa using eA0
                    have cu := (HX.out.call (hS.1 (hl.2.2 20 (by decide)))).cell
                    refine owe_run rfl (wp_val (v := .slice fa nF fc) ?_ (hK' _ _ ⟨fun h => hS.1 (setl_off h), fun h => hS.2.1 (setl_off h), fun h => hS.2.2 (by rwa [setl_ne (by decide)] at h)⟩ (fun _ _ _ h => h) (fun _ => ⟨fun e => absurd e (by decide), fun e => absurd e (by decide), fun _ _ => rfl⟩)))
                    first
                      | (go_simp; done)
                      | (go_simp; rfl)
                  · intro n f a9 u K' hfr hn hl hS hv hK'
                    have eA8 : a9.tmps.getD 0 undef = .slice va l.length vc := hfr 0 (no_dst (by kernel_rfl))
                    have eB8 : (a9.tmps[0]?).getD undef = .slice va l.length vc := by simpa using eA8
                    refine owe_run rfl (wp_val (v := .slice va l.length vc) ?_ (hK' _ _ ⟨fun h => hS.1 (setl_off h), fun h => hS.2.1 (setl_off h), fun h => hS.2.2 (by rwa [setl_ne (by decide)] at h)⟩ (fun _ _ _ h => h) (fun _ => ⟨fun e => absurd e (by decide), fun e => absurd e (by decide), fun _ _ => rfl⟩)))
                    first
                      | (go_simp; done)
                      | (go_simp; rfl)
                  · intro n f a9 u K' hfr hn hl hS hv hK'
                    have eA8 : a9.tmps.getD 9 undef = .int .i64 (p : Int) := hfr 9 (no_dst (by kernel_rfl))
                    have eB8 : (a9.tmps[9]?).getD undef = .int .i64 (p : Int) := by simpa using eA8
                    refine owe_run rfl (wp_val (v := .int .i64 (p : Int)) ?_ (hK' _ _ ⟨fun h => hS.1 (setl_off h), fun h => hS.2.1 (setl_off h), fun h => hS.2.2 (by rwa [setl_ne (by decide)] at h)⟩ (fun _ _ _ h => h) (fun _ => ⟨fun e => absurd e (by decide), fun e => absurd e (by decide), fun _ _ => rfl⟩)))
                    first
                      | (go_simp; done)
                      | (go_simp; rfl)
                  · intro n f a9 u K' hfr hn hl hS hv hK'
                    have eA0 : a9.tmps.getD 142 undef = .slice va l.length vc := hv.1.2.2 (by decide) (by decide)
                    have eB0 : (a9.tmps[142]?).getD undef = .slice va l.length vc := by simpa using eA0
                    have eA1 : a9.tmps.getD 143 undef = .int .i64 (p : Int) := hv.2.1.2.2 (by decide) (by decide)
                    have eB1 : (a9.tmps[143]?).getD undef = .int .i64 (p : Int) := by simpa using eA1
                    have hb9 := hS.1 (hl.2.2 20 (by decide))
                    have hr9 := HBY.out.below (w' := u) (Nat.le_refl _) hb9
                    refine owe_run rfl (wp_fn rfl (args2 eA0 eA1) (enter_fn Tryz.func32 (by kernel_rfl) rfl _ _) ((s_l7Byte u _ l hr9 p _ (by push_cast; rfl)).mono ?_))
                    rw [Hf1.out]
                    rintro e u2 ⟨rfl, rfl⟩
                    exact ⟨_, rfl, hK' _ _ ⟨fun h => hS.1 (setl_off h), fun h => hS.2.1 (setl_off h), fun h => hS.2.2 (by rwa [setl_ne (by decide)] at h)⟩ (fun _ _ _ h => h) (fun _ => ⟨fun e => absurd e (by decide), fun e => absurd e (by decide), fun _ _ => rfl⟩)⟩
                  · intro n f a9 u K' hfr hn hl hS hv hK'
                    have eA8 : a9.tmps.getD 0 undef = .slice va l.length vc := hfr 0 (no_dst (by kernel_rfl))
                    have eB8 : (a9.tmps[0]?).getD undef = .slice va l.length vc := by simpa using eA8
                    refine owe_run rfl (wp_val (v := .slice va l.length vc) ?_ (hK' _ _ ⟨fun h => hS.1 (setl_off h), fun h => hS.2.1 (setl_off h), fun h => hS.2.2 (by rwa [setl_ne (by decide)] at h)⟩ (fun _ _ _ h => h) (fun _ => ⟨fun e => absurd e (by decide), fun e => absurd e (by decide), fun _ _ => rfl⟩)))
                    first
                      | (go_simp; done)
                      | (go_simp; rfl)
                  · intro n f a9 u K' hfr hn hl hS hv hK'
                    have eA8 : a9.tmps.getD 9 undef = .int .i64 (p : Int) := hfr 9 (no_dst (by kernel_rfl))
                    have eB8 : (a9.tmps[9]?).getD undef = .int .i64 (p : Int) := by simpa using eA8
                    refine owe_run rfl (wp_val (v := .int .i64 (p : Int)) ?_ (hK' _ _ ⟨fun h => hS.1 (setl_off h), fun h => hS.2.1 (setl_off h), fun h => hS.2.2 (by rwa [setl_ne (by decide)] at h)⟩ (fun _ _ _ h => h) (fun _ => ⟨fun e => absurd e (by decide), fun e => absurd e (by decide), fun _ _ => rfl⟩)))
                    first
                      | (go_simp; done)
                      | (go_simp; rfl)
                  · intro n f a9 u K' hfr hn hl hS hv hK'
                    have eA0 : a9.tmps.getD 146 undef = .int .i64 (p : Int) := hv.1.2.2 (by decide) (by decide)
                    have eB0 : (a9.tmps[146]?).getD undef = .int .i64 (p : Int) := by simpa using eA0
                    refine owe_run rfl (wp_val (v := .int .i64 ((p : Int) + 1)) ?_ (hK' _ _ ⟨fun h => hS.1 (setl_off h), fun h => hS.2.1 (setl_off h), fun h => hS.2.2 (by rwa [setl_ne (by decide)] at h)⟩ (fun _ _ _ h => h) (fun _ => ⟨fun e => absurd e (by decide), fun e => absurd e (by decide), fun _ _ => rfl⟩)))
                    first
                      | (go_simp; done)
                      | (go_simp; rfl)
                  · intro n f a9 u K' hfr hn hl hS hv hK'
                    have eA0 : a9.tmps.getD 145 undef = .slice va l.length vc := hv.1.2.2 (by decide) (by decide)
                    have eB0 : (a9.tmps[145]?).getD undef = .slice va l.length vc := by simpa using eA0
                    have eA1 : a9.tmps.getD 147 undef = .int .i64 ((p : Int) + 1) := hv.2.1.2.2 (by decide) (by decide)
                    have eB1 : (a9.tmps[147]?).getD undef = .int .i64 ((p : Int) + 1) := by simpa using eA1
                    have hb9 := hS.1 (hl.2.2 20 (by decide))
                    have hr9 := HBY.out.below (w' := u) (Nat.le_refl _) hb9
                    refine owe_run rfl (wp_fn rfl (args2 eA0 eA1) (enter_fn Tryz.func32 (by kernel_rfl) rfl _ _) ((s_l7Byte u _ l hr9 (p + 1) _ (by push_cast; rfl)).mono ?_))
                    rw [Hf2.out]
                    rintro e u2 ⟨rfl, rfl⟩
                    exact ⟨_, rfl, hK' _ _ ⟨fun h => hS.1 (setl_off h), fun h => hS.2.1 (setl_off h), fun h => hS.2.2 (by rwa [setl_ne (by decide)] at h)⟩ (fun _ _ _ h => h) (fun _ => ⟨fun e => absurd e (by decide), fun e => absurd e (by decide), fun _ _ => rfl⟩)⟩
                  · intro n f a9 u K' hfr hn hl hS hv hK'
                    have eA8 : a9.tmps.getD 0 undef = .slice va l.length vc := hfr 0 (no_dst (by kernel_rfl))
                    have eB8 : (a9.tmps[0]?).getD undef = .slice va l.length vc := by simpa using eA8
                    refine owe_run rfl (wp_val (v := .slice va l.length vc) ?_ (hK' _ _ ⟨fun h => hS.1 (setl_off h), fun h => hS.2.1 (setl_off h), fun h => hS.2.2 (by rwa [setl_ne (by decide)] at h)⟩ (fun _ _ _ h => h) (fun _ => ⟨fun e => absurd e (by decide), fun e => absurd e (by decide), fun _ _ => rfl⟩)))
                    first
                      | (go_simp; done)
                      | (go_simp; rfl)
                  · intro n f a9 u K' hfr hn hl hS hv hK'
                    have eA8 : a9.tmps.getD 9 undef = .int .i64 (p : Int) := hfr 9 (no_dst (by kernel_rfl))
                    have eB8 : (a9.tmps[9]?).getD undef = .int .i64 (p : Int) := by simpa using eA8
                    refine owe_run rfl (wp_val (v := .int .i64 (p : Int)) ?_ (hK' _ _ ⟨fun h => hS.1 (setl_off h), fun h => hS.2.1 (setl_off h), fun h => hS.2.2 (by rwa [setl_ne (by decide)] at h)⟩ (fun _ _ _ h => h) (fun _ => ⟨fun e => absurd e (by decide), fun e => absurd e (by decide), fun _ _ => rfl⟩)))
                    first
                      | (go_simp; done)
                      | (go_simp; rfl)
                  · intro n f a9 u K' hfr hn hl hS hv hK'
                    have eA0 : a9.tmps.getD 150 undef = .int .i64 (p : Int) := hv.1.2.2 (by decide) (by decide)
                    have eB0 : (a9.tmps[150]?).getD undef = .int .i64 (p : Int) := by simpa using eA0
                    refine owe_run rfl (wp_val (v := .int .i64 ((p : Int) + 2)) ?_ (hK' _ _ ⟨fun h => hS.1 (setl_off h), fun h => hS.2.1 (setl_off h), fun h => hS.2.2 (by rwa [setl_ne (by decide)] at h)⟩ (fun _ _ _ h => h) (fun _ => ⟨fun e => absurd e (by decide), fun e => absurd e (by decide), fun _ _ => rfl⟩)))
                    first
                      | (go_simp; done)
                      | (go_simp; rfl)
                  · intro n f a9 u K' hfr hn hl hS hv hK'
                    have eA0 : a9.tmps.getD 149 undef = .slice va l.length vc := hv.1.2.2 (by decide) (by decide)
                    have eB0 : (a9.tmps[149]?).getD undef = .slice va l.length vc := by simpa using eA0
                    have eA1 : a9.tmps.getD 151 undef = .int .i64 ((p : Int) + 2) := hv.2.1.2.2 (by decide) (by decide)
                    have eB1 : (a9.tmps[151]?).getD undef = .int .i64 ((p : Int) + 2) := by simpa using eA1
                    have hb9 := hS.1 (hl.2.2 20 (by decide))
                    have hr9 := HBY.out.below (w' := u) (Nat.le_refl _) hb9
                    refine owe_run rfl (wp_fn rfl (args2 eA0 eA1) (enter_fn Tryz.func32 (by kernel_rfl) rfl _ _) ((s_l7Byte u _ l hr9 (p + 2) _ (by push_cast; rfl)).mono ?_))
                    rw [Hf3.out]
                    rintro e u2 ⟨rfl, rfl⟩
                    exact ⟨_, rfl, hK' _ _ ⟨fun h => hS.1 (setl_off h), fun h => hS.2.1 (setl_off h), fun h => hS.2.2 (by rwa [setl_ne (by decide)] at h)⟩ (fun _ _ _ h => h) (fun _ => ⟨fun e => absurd e (by decide), fun e => absurd e (by decide), fun _ _ => rfl⟩)⟩
                  · intro n f a9 u K' hfr hn hl hS hv hK'
                    have eA8 : a9.tmps.getD 0 undef = .slice va l.length vc := hfr 0 (no_dst (by kernel_rfl))
                    have eB8 : (a9.tmps[0]?).getD undef = .slice va l.length vc := by simpa using eA8
                    refine owe_run rfl (wp_val (v := .slice va l.length vc) ?_ (hK' _ _ ⟨fun h => hS.1 (setl_off h), fun h => hS.2.1 (setl_off h), fun h => hS.2.2 (by rwa [setl_ne (by decide)] at h)⟩ (fun _ _ _ h => h) (fun _ => ⟨fun e => absurd e (by decide), fun e => absurd e (by decide), fun _ _ => rfl⟩)))
                    first
                      | (go_simp; done)
                      | (go_simp; rfl)
                  · intro n f a9 u K' hfr hn hl hS hv hK'
                    have eA8 : a9.tmps.getD 9 undef = .int .i64 (p : Int) := hfr 9 (no_dst (by kernel_rfl))
                    have eB8 : (a9.tmps[9]?).getD undef = .int .i64 (p : Int) := by simpa using eA8
                    refine owe_run rfl (wp_val (v := .int .i64 (p : Int)) ?_ (hK' _ _ ⟨fun h => hS.1 (setl_off h), fun h => hS.2.1 (setl_off h), fun h => hS.2.2 (by rwa [setl_ne (by decide)] at h)⟩ (fun _ _ _ h => h) (fun _ => ⟨fun e => absurd e (by decide), fun e => absurd e (by decide), fun _ _ => rfl⟩)))
                    first
                      | (go_simp; done)
                      | (go_simp; rfl)
                  · intro n f a9 u K' hfr hn hl hS hv hK'
                    have eA0 : a9.tmps.getD 154 undef = .int .i64 (p : Int) := hv.1.2.2 (by decide) (by decide)
                    have eB0 : (a9.tmps[154]?).getD undef = .int .i64 (p : Int) := by simpa using eA0
                    refine owe_run rfl (wp_val (v := .int .i64 ((p : Int) + 3)) ?_ (hK' _ _ ⟨fun h => hS.1 (setl_off h), fun h => hS.2.1 (setl_off h), fun h => hS.2.2 (by rwa [setl_ne (by decide)] at h)⟩ (fun _ _ _ h => h) (fun _ => ⟨fun e => absurd e (by decide), fun e => absurd e (by decide), fun _ _ => rfl⟩)))
                    first
                      | (go_simp; done)
                      | (go_simp; rfl)
                  · intro n f a9 u K' hfr hn hl hS hv hK'
                    have eA0 : a9.tmps.getD 153 undef = .slice va l.length vc := hv.1.2.2 (by decide) (by decide)
                    have eB0 : (a9.tmps[153]?).getD undef = .slice va l.length vc := by simpa using eA0
                    have eA1 : a9.tmps.getD 155 undef = .int .i64 ((p : Int) + 3) := hv.2.1.2.2 (by decide) (by decide)
                    have eB1 : (a9.tmps[155]?).getD undef = .int .i64 ((p : Int) + 3) := by simpa using eA1
                    have hb9 := hS.1 (hl.2.2 20 (by decide))
                    have hr9 := HBY.out.below (w' := u) (Nat.le_refl _) hb9
                    refine owe_run rfl (wp_fn rfl (args3 eA0 eA1 rfl) (enter_fn Tryz.func31 (by kernel_rfl) rfl _ _) ((s_GetNumber u _ l hr9 ((p : Int) + 3) 2).mono ?_))
                    rw [Hf4.out]
                    rintro e u2 ⟨rfl, rfl⟩
                    exact ⟨_, rfl, hK' _ _ ⟨fun h => hS.1 (setl_off h), fun h => hS.2.1 (setl_off h), fun h => hS.2.2 (by rwa [setl_ne (by decide)] at h)⟩ (fun _ _ _ h => h) (fun _ => ⟨fun e => absurd e (by decide), fun e => absurd e (by decide), fun _ _ => rfl⟩)⟩
                  · intro n f a9 u K' hfr hn hl hS hv hK'
                    have eA0 : a9.tmps.getD 156 undef = .int .i64 f4 := hv.1.2.2 (by decide) (by decide)
                    have eB0 : (a9.tmps[156]?).getD undef = .int .i64 f4 := by simpa using eA0
                    refine owe_run rfl (wp_val (v := .int .i64 (f4 - 1000)) ?_ (hK' _ _ ⟨fun h => hS.1 (setl_off h), fun h => hS.2.1 (setl_off h), fun h => hS.2.2 (by rwa [setl_ne (by decide)] at h)⟩ (fun _ _ _ h => h) (fun _ => ⟨fun e => absurd e (by decide), fun e => absurd e (by decide), fun _ _ => rfl⟩)))
                    first
                      | (go_simp; done)
                      | (go_simp; rfl)
                  · intro n f a9 u K' hfr hn hl hS hv hK'
                    have eA0 : a9.tmps.getD 144 undef = .int .i64 f1 := hv.1.2.2 (by decide) (by decide)
                    have eB0 : (a9.tmps[144]?).getD undef = .int .i64 f1 := by simpa using eA0
                    have eA1 : a9.tmps.getD 148 undef = .int .i64 f2 := hv.2.1.2.2 (by decide) (by decide)
                    have eB1 : (a9.tmps[148]?).getD undef = .int .i64 f2 := by simpa using eA1
                    have eA2 : a9.tmps.getD 152 undef = .int .i64 f3 := hv.2.2.1.2.2 (by decide) (by decide)
                    have eB2 : (a9.tmps[152]?).getD undef = .int .i64 f3 := by simpa using eA2
                    have eA3 : a9.tmps.getD 157 undef = .int .i64 (f4 - 1000) := hv.2.2.2.1.2.2 (by decide) (by decide)
                    have eB3 : (a9.tmps[157]?).getD undef = .int .i64 (f4 - 1000) := by simpa using eA3
                    refine owe_run rfl (wp_val (v := .agg #[.int .i64 f1, .int .i64 f2, .int .i64 f3, .int .i64 (f4 - 1000)]) ?_ (hK' _ _ ⟨fun h => hS.1 (setl_off h), fun h => hS.2.1 (setl_off h), fun h => hS.2.2 (by rwa [setl_ne (by decide)] at h)⟩ (fun _ _ _ h => h) (fun _ => ⟨fun e => absurd e (by decide), fun e => absurd e (by decide), fun _ _ => rfl⟩)))
                    first
                      | (go_simp; done)
                      | (go_simp; rfl)
                  · intro n f a9 u K' hfr hn hl hS hv hK'
                    have eA0 : a9.tmps.getD 158 undef = .agg #[.int .i64 f1, .int .i64 f2, .int .i64 f3, .int .i64 (f4 - 1000)] := hv.1.2.2 (by decide) (by decide)
                    have eB0 : (a9.tmps[158]?).getD undef = .agg #[.int .i64 f1, .int .i64 f2, .int .i64 f3, .int .i64 (f4 - 1000)] := by simpa using eA0
                    have k1 : Below u.heap.size u (u.alloc (.cells #[.int .i64 f1, .int .i64 f2, .int .i64 f3, .int .i64 (f4 - 1000)] 57)) := ((From.start u).alloc _).below
                    refine owe_run rfl (wp_val (v := .slice (some ⟨u.heap.size, 0, none⟩) 1 1) (w' := u.alloc (.cells #[.int .i64 f1, .int .i64 f2, .int .i64 f3, .int .i64 (f4 - 1000)] 57)) ?_ (hK' _ _ ⟨fun h => (have hb := hS.1 (setl_off h); ((⟨hb, hb.size⟩ : From _ wr u).alloc _).below), fun h => (hS.2.1 (setl_off h)).trans (Other.below k1), fun h => (by rw [setl_ne (by decide), hl.2.2 22 (by decide)] at h; cases h)⟩ (fun j y hj h => ⟨fun e => (have ⟨z, e1, e2⟩ := h.1 e; ⟨z, e1, e2.call k1⟩), fun e => by subst e; exact absurd hj (by decide), h.2.2⟩) (fun _ => ⟨fun _ => ⟨_, rfl, Blk.new u _ _⟩, fun e => absurd e (by decide), fun e _ => absurd rfl e⟩)))
                    first
                      | (go_simp; done)
                      | (go_simp; rfl)
                  · intro n f a9 u K' hfr hn hl hS hv hK'
                    have eA0 : a9.tmps.getD 141 undef = .slice fa nF fc := hv.1.2.2 (by decide) (by decide)
                    obtain ⟨z', e8, hz8⟩ := hv.2.1.1 rfl
                    have hb9 := hS.1 hl.1
                    have hown := owns_call HMF.out hb9
                    have ho9 := hS.2.1 (hl.2.2 22 (by decide))
                    have hsz := hb9.size
                    refine step_append_new rfl (.tmp 141) (.tmp 159) 51 51 rfl (X + 1) 57 i0 _ 4 32 Tryz.underlying51 hi0 ia0 ia1 ia2 rfl (by decide) _ _ _ eA0 hown _ 1 (fixL (f1, f2, f3, f4 - 1000)) e8 (src_blk Tryz.underlying51 u z' (fixL (f1, f2, f3, f4 - 1000)) 4 1 1 57 hz8 rfl (by intro u hu; simp only [fixL, List.mem_cons, List.not_mem_nil, or_false] at hu; rcases hu with rfl | rfl | rfl | rfl <;> rfl)) (by unfold maxLen; omega) (by omega) (by omega) ?_
                    intro v' w1 hown1 hgr1 hpl
                    have hmid : Mid w1 v' := ⟨ho9.trans (Other.grown hgr1 (fun k' hk' => by simpa using hk')), fix_snoc (by rw [HNF.out]; exact hown1), fun k' hk' => by
                      rcases hpl with e | e
                      · exact .inl (e ▸ hk')
                      · rw [e] at hk'; simp only [Option.some.injEq] at hk'; right; omega⟩
                    exact hK' _ _ ⟨fun h => (by rw [setl_at] at h; cases h), fun _ => hmid.1, fun h => (by rw [setl_ne (by decide), hl.2.2 22 (by decide)] at h; cases h)⟩ (fun j y hj h => ⟨fun e => by subst e; exact absurd hj (by decide), fun e => by subst e; exact absurd hj (by decide), h.2.2⟩) (fun _ => ⟨fun e => absurd e (by decide), fun _ => hmid, fun _ e => absurd rfl e⟩)
                  · intro n f a9 u K' hfr hn hl hS hv hK'
                    have eA8 : a9.tmps.getD 15 undef = .pointer (some ⟨X, 0, none⟩) := hfr 15 (no_dst (by kernel_rfl))
                    have eB8 : (a9.tmps[15]?).getD undef = .pointer (some ⟨X, 0, none⟩) := by simpa using eA8
                    refine owe_run rfl (wp_val (v := .pointer (some ⟨X, 5, none⟩)) ?_ (hK' _ _ ⟨fun h => hS.1 (setl_off h), fun h => hS.2.1 (setl_off h), fun h => hS.2.2 (by rwa [setl_ne (by decide)] at h)⟩ (fun _ _ _ h => h) (fun _ => ⟨fun e => absurd e (by decide), fun e => absurd e (by decide), fun _ _ => rfl⟩)))
                    first
                      | (go_simp; done)
                      | (go_simp; rfl)
                  · intro n f a9 u K' hfr hn hl hS hv hK'
                    have hmid := hv.1.2.1 rfl
                    have eA1 : a9.tmps.getD 161 undef = .pointer (some ⟨X, 5, none⟩) := hv.2.1.2.2 (by decide) (by decide)
                    have eB1 : (a9.tmps[161]?).getD undef = .pointer (some ⟨X, 5, none⟩) := by simpa using eA1
                    obtain ⟨v', hv'⟩ : ∃ v', (a9.tmps[160]?).getD undef = v' := ⟨_, rfl⟩
                    have e9 : a9.tmps.getD 160 undef = v' := by rw [← hv']; simp
                    rw [e9] at hmid
                    obtain ⟨va9, vc9, e10⟩ : ∃ va9 vc9, v' = .slice va9 (FX ++ [((f1, f2, f3, f4 - 1000) : FixD)]).length vc9 := owns_form hmid.2.1
                    subst e10
                    have hX9 := HX.out.otherB hmid.1 hX2
                    have cq := hX9.cell
                    have fq := hX9.frozen
                    refine owe_run rfl (wp_skp (w' := u.setCell ⟨X, 5, none⟩ (.slice va9 (FX ++ [((f1, f2, f3, f4 - 1000) : FixD)]).length vc9)) ?_ (hK' undef _ ⟨fun h => (by rw [setl_ne (by decide), hl.2.1 20 (by decide)] at h; cases h), fun h => (by rw [setl_at] at h; cases h), fun _ => ⟨_, u, rfl, hmid⟩⟩ (fun j y hj h => ⟨fun e => by subst e; exact absurd hj (by decide), fun e => by subst e; exact absurd hj (by decide), h.2.2⟩) (fun h => absurd rfl h)))
                    first
                      | (go_simp; done)
                      | (go_simp; rfl)
                case hq =>
                  intro gg9 u hS hv
                  clear hv f0
                  obtain ⟨v', u1, rfl, ho9, hf9, hp9⟩ := hS.2.2 (by decide)
                  clear hS Mid
                  have HX9 := Lib.hid (HX.out.otherB ho9 hX2)
                  have hX10 := HX9.out.set (o := 5) v'
                  have HX10 : Hid (Blk (u1.setCell ⟨X, 5, none⟩ v') X #[.string nm, .int .i64 kd, .int .i64 al, vb, .int .i64 sz2, v'] 53) := by show Blk _ _ _ _; simpa using hX10
                  have HB10 : Hid (OwnB (u1.setCell ⟨X, 5, none⟩ v') (X + 1) vb bs) := ownsRow_setCell_below (owns_other HB.out ho9 (fun k' hk' hm => HNE.out k' hk' (by simpa using hm))) (a := ⟨X, 5, none⟩) (Nat.lt_succ_self X) _
                  have HF10 : Hid (OwnF (u1.setCell ⟨X, 5, none⟩ v') (X + 1) v' (FX ++ [(f1, f2, f3, f4 - 1000)])) := ownsRow_setCell_below hf9 (a := ⟨X, 5, none⟩) (Nat.lt_succ_self X) _
                  have HNE10 : Hid (∀ k, vb.ownBlock = some k → v'.ownBlock ≠ some k) := fun k hk hk' => by
                    rcases hp9 k hk' with e | e
                    · exact HNE.out k hk e
                    · have := (World.ownsRow.lt HB.out k hk).2; omega
                  have HFX10 : Hid (From X wo (u1.setCell ⟨X, 5, none⟩ v')) := (HFX.out.other ho9 (fun k' hk' => by have := hvb k' hk'; omega)).setCell (p := ⟨X, 5, none⟩) (Nat.le_refl _) _
                  have HFS10 : Hid (fixS l (10 + 6 * A + 6 * C + 5 * F) J fx = (FX ++ [((f1, f2, f3, f4 - 1000) : FixD)] ++ (fixS l (10 + 6 * A + 6 * C + 5 * F) (m - 1) (p + 5)).1, (fixS l (10 + 6 * A + 6 * C + 5 * F) (m - 1) (p + 5)).2)) := by
                    show _ = _
                    rw [HFS.out]
                    obtain ⟨m', rfl⟩ : ∃ m', m = m' + 1 := ⟨m - 1, by omega⟩
                    have e : fixS l (10 + 6 * A + 6 * C + 5 * F) (m' + 1) p = (fixOne l p :: (fixS l (10 + 6 * A + 6 * C + 5 * F) m' (p + 5)).1, (fixS l (10 + 6 * A + 6 * C + 5 * F) m' (p + 5)).2) := by
                      rw [fixS, if_pos hp5]
                    have e2 : fixOne l p = (f1, f2, f3, f4 - 1000) := by
                      unfold fixOne
                      rw [Hf1.out, Hf2.out, Hf3.out, show ((p + 3 : Nat) : Int) = (p : Int) + 3 by push_cast; rfl, Hf4.out]
                    rw [e, e2, Nat.add_sub_cancel, List.append_assoc, List.singleton_append]
                  have hL10 : 5 * (FX ++ [((f1, f2, f3, f4 - 1000) : FixD)]).length ≤ p + 5 := by rw [List.length_append, HNF.out]; simp only [List.length_cons, List.length_nil]; omega
                  obtain ⟨FY, hFY⟩ : ∃ FY, FX ++ [((f1, f2, f3, f4 - 1000) : FixD)] = FY := ⟨_, rfl⟩
                  rw [hFY] at HF10 HFS10 hL10
                  clear hFY hX10 HX9 hp9 hf9 ho9 HX HB HFo HFX HNE HFS HMF hvb hX2 hp5 hwm hw1 hw2 hw3
                  simp only [List.map, putG, List.setIfInBounds_toArray, List.set_cons_succ, List.set_cons_zero]
                  go_wp2_with fail
                  go_roundw
                  case rel => exact ⟨m - 1, p + 5, FY, v', by go_num, by go_num, by omega, by omega, hL10, HFS10, HB10, HF10, HNE10, HX10, HFX10⟩
                  case measure => simp [intOf]; try omega
              · by_cases hm0 : 0 < m
                · have i5 : (0 : Int) < (m : Int) := by omega
                  have i6 : ¬ ((p : Int) + 5 ≤ 10 + 6 * (A : Int) + 6 * (C : Int) + 5 * (F : Int)) := by omega
                  have HFE : Hid (fixS l (10 + 6 * A + 6 * C + 5 * F) J fx = (FX, p)) := by
                    show _ = _
                    rw [HFS.out]
                    have e : fixS l (10 + 6 * A + 6 * C + 5 * F) m p = ([], p) := by
                      cases m with
                      | zero => rfl
                      | succ m => unfold fixS; rw [if_neg (by omega)]
                    rw [e, List.append_nil]
                  have hbl : Below wo.heap.size wo wr := by rw [hX]; exact HFX.out.below
                  have HS2 := Lib.hid (HS.out.call hbl)
                  have HO2 := Lib.hid (HO.out.call hbl)
                  have HH2 := Lib.hid (HH.out.call hbl)
                  have HR2 := Lib.hid (HR.out.call hbl)
                  have HF2 := Lib.hid (HF.out.call hbl)
                  have HLT : Hid (∀ k' ∈ (Value.slice so k sc).ownBlock.toList ++ blksOf LS, k' < X) := fun k' hk' => by have := (HS.out.lt k' hk').2; omega
                  have HSEC : Hid (secsS l TT (10 + 6 * A + 6 * C + 5 * F) ((10 + 6 * A + 6 * C + 5 * F) + D) (10 + 6 * A + 6 * C) (k + 1) = some (LS.map (·.1) ++ [(⟨nm, kd, al, bs, sz2, FX⟩ : SecD)], at2, p)) := by
                    show _ = _
                    have e : secS l TT (10 + 6 * A + 6 * C + 5 * F) at' fx (10 + 6 * k) = some ((⟨nm, kd, al, bs, sz2, FX⟩ : SecD), at2, p) := by
                      unfold secS
                      rw [show ((10 + 6 * k : Nat) : Int) = 10 + 6 * (k : Int) by push_cast; rfl, Hpl.out, HNM.out, Hkd.out, Hal.out, Hsz.out, Hjj.out, Int.toNat_natCast, Int.toNat_natCast, HFE.out]
                      by_cases hk3 : kd = 3
                      · obtain ⟨rfl, rfl, rfl⟩ := HC.out.1 hk3
                        rw [if_pos hk3]
                      · obtain ⟨h1, rfl, rfl, rfl⟩ := HC.out.2 hk3
                        rw [if_neg hk3, if_neg h1]
                    unfold secsS
                    rw [HSS.out]
                    simp only
                    rw [e]
                  have HNS2 : Hid (∀ x ∈ LS ++ [((⟨nm, kd, al, bs, sz2, FX⟩ : SecD), vb, vf)], x.1.name.size ≤ D) := fun x hx => by
                    rcases List.mem_append.1 hx with hx | hx
                    · exact HNMS.out x hx
                    · obtain rfl := List.mem_singleton.1 hx
                      have h9 := nameOf_size TT pl
                      rw [HNM.out, HTL.out] at h9
                      exact h9
                  have HLK := Lib.hid hLk
                  have hLb : LS.length ≤ 8 := by omega
                  clear hbl hLk HS HO HH HR HF HSS HNMS HFS HFE HC
                  obtain ⟨ba, bc, rfl⟩ := owns_form HB.out
                  obtain ⟨fa, fc, rfl⟩ := owns_form HFo.out
                  have cO := HO2.out.cell
                  have fO := HO2.out.frozen
                  have zO := HO2.out.lt
                  have cX := HX.out.cell
                  have zX := HX.out.lt
                  go_wp2_with (at_builtin; go_loud (refine wpList_append_own rfl (.tmp 165) (.tmp 167) 24 24 rfl (q + 2) 53 j0 _ 6 88 Tryz.underlying24 hj0 ja0 ja1 ja2 rfl (by decide) _ _ _ rfl (World.ownsRow.alloc HS2.out.row _) _ 1 [_, _, _, _, _, _] rfl (src_new Tryz.underlying24 _ [_, _, _, _, _, _] 6 1 1 _ rfl ?c0) ?c1 ?c2 ?c3 ?_))
                  case c0 => exact ⟨rfl, rfl, rfl, rfl, rfl, rfl⟩
                  case c1 => unfold maxLen; omega
                  case c2 => omega
                  case c3 => first | omega | (simp; omega)
                  intro v' w4 hown hgr hpl
                  have hsn := (HS2.out.alloc (.cells #[.string nm, .int .i64 kd, .int .i64 al, .slice ba bs.length bc, .int .i64 sz2, .slice fa FX.length fc] 53)).snoc (m := X + 1) (x := ((⟨nm, kd, al, bs, sz2, FX⟩ : SecD), .slice ba bs.length bc, .slice fa FX.length fc)) (fun k' hk' => by have := HLT.out k' hk'; omega) (by omega) (World.ownsRow.alloc HB.out _) (World.ownsRow.alloc HFo.out _) HNE.out hgr hown (by simpa using hpl)
                  obtain ⟨LS2, hLS2⟩ : ∃ LS2, LS ++ [((⟨nm, kd, al, bs, sz2, FX⟩ : SecD), Value.slice ba bs.length bc, Value.slice fa FX.length fc)] = LS2 := ⟨_, rfl⟩
                  have hlen2 : LS2.length = k + 1 := by rw [← hLS2, List.length_append, HLK.out]; rfl
                  have HSEC2 : Hid (secsS l TT (10 + 6 * A + 6 * C + 5 * F) ((10 + 6 * A + 6 * C + 5 * F) + D) (10 + 6 * A + 6 * C) (k + 1) = some (LS2.map (·.1), at2, p)) := by
                    show _ = _
                    rw [HSEC.out, ← hLS2, List.map_append]
                    rfl
                  rw [hLS2] at hsn HNS2
                  have hrow := hsn.row
                  rw [hlen2] at hrow
                  obtain ⟨so2, sc2, rfl⟩ := owns_form hrow
                  have hgb : ∀ k', (Value.slice so k sc).ownBlock = some k' → q + 2 ≤ k' := fun k' hk' => (HS2.out.lt k' (List.mem_append_left _ (by simp [hk']))).1
                  have HSN := Lib.hid hsn
                  have HO4 := Lib.hid (Blk.grown (HO2.out.alloc (.cells #[.string nm, .int .i64 kd, .int .i64 al, .slice ba bs.length bc, .int .i64 sz2, .slice fa FX.length fc] 53)) hgr (fun e => by have := hgb _ e.symm; omega))
                  have HH4 := Lib.hid (Blk.grown (HH2.out.alloc (.cells #[.string nm, .int .i64 kd, .int .i64 al, .slice ba bs.length bc, .int .i64 sz2, .slice fa FX.length fc] 53)) hgr (fun e => by have := hgb _ e.symm; omega))
                  have HR4 := Lib.hid (Blk.grown (HR2.out.alloc (.cells #[.string nm, .int .i64 kd, .int .i64 al, .slice ba bs.length bc, .int .i64 sz2, .slice fa FX.length fc] 53)) hgr (fun e => by have := hgb _ e.symm; omega))
                  have HF4 := Lib.hid (From.grown (HF2.out.alloc (.cells #[.string nm, .int .i64 kd, .int .i64 al, .slice ba bs.length bc, .int .i64 sz2, .slice fa FX.length fc] 53)) hgr (fun k' hk' => by have := hgb k' hk'; omega))
                  have HS5 : Hid (OwnSecs (w4.setCell ⟨q + 1, 0, none⟩ (.slice so2 (k + 1) sc2)) (q + 2) (.slice so2 (k + 1) sc2) LS2) := HSN.out.setBelow (a := ⟨q + 1, 0, none⟩) (by show q + 1 < q + 2; omega) _
                  have HO5 : Hid (Blk (w4.setCell ⟨q + 1, 0, none⟩ (.slice so2 (k + 1) sc2)) (q + 1) #[.slice so2 (k + 1) sc2, .slice none 0 0] 27) := by
                    show Blk _ _ _ _
                    have h9 := HO4.out.set (o := 0) (.slice so2 (k + 1) sc2)
                    simpa using h9
                  have HH5 := Lib.hid (HH4.out.other (p := ⟨q + 1, 0, none⟩) (by show q + 1 ≠ q; omega) (.slice so2 (k + 1) sc2))
                  have HR5 := Lib.hid (HR4.out.other (p := ⟨q + 1, 0, none⟩) (by show q + 1 ≠ _; omega) (.slice so2 (k + 1) sc2))
                  have HF5 := Lib.hid (HF4.out.setCell (p := ⟨q + 1, 0, none⟩) (by show _ ≤ q + 1; omega) (.slice so2 (k + 1) sc2))
                  have cO4 := HO4.out.cell
                  have fO4 := HO4.out.frozen
                  have zO4 := HO4.out.lt
                  clear hown hgr hpl hsn hLS2 hrow hgb cO fO cX zX HS2 HO2 HH2 HR2 HF2 HX HB HFo HNE HFX HLT HSEC HSN
                  go_wp2_with fail
                  go_roundw
                  case rel => exact ⟨k + 1, at2, p, LS2, so2, sc2, by omega, rfl, rfl, by go_num, hat2, hpN, hlen2, HSEC2, HNS2, HS5, HO5, HH5, HR5, HF5⟩
                  case measure => simp [intOf]; try omega
                · have i5 : ¬ (0 : Int) < (m : Int) := by omega
                  have HFE : Hid (fixS l (10 + 6 * A + 6 * C + 5 * F) J fx = (FX, p)) := by
                    show _ = _
                    rw [HFS.out]
                    have e : fixS l (10 + 6 * A + 6 * C + 5 * F) m p = ([], p) := by
                      cases m with
                      | zero => rfl
                      | succ m => unfold fixS; rw [if_neg (by omega)]
                    rw [e, List.append_nil]
                  have hbl : Below wo.heap.size wo wr := by rw [hX]; exact HFX.out.below
                  have HS2 := Lib.hid (HS.out.call hbl)
                  have HO2 := Lib.hid (HO.out.call hbl)
                  have HH2 := Lib.hid (HH.out.call hbl)
                  have HR2 := Lib.hid (HR.out.call hbl)
                  have HF2 := Lib.hid (HF.out.call hbl)
                  have HLT : Hid (∀ k' ∈ (Value.slice so k sc).ownBlock.toList ++ blksOf LS, k' < X) := fun k' hk' => by have := (HS.out.lt k' hk').2; omega
                  have HSEC : Hid (secsS l TT (10 + 6 * A + 6 * C + 5 * F) ((10 + 6 * A + 6 * C + 5 * F) + D) (10 + 6 * A + 6 * C) (k + 1) = some (LS.map (·.1) ++ [(⟨nm, kd, al, bs, sz2, FX⟩ : SecD)], at2, p)) := by
                    show _ = _
                    have e : secS l TT (10 + 6 * A + 6 * C + 5 * F) at' fx (10 + 6 * k) = some ((⟨nm, kd, al, bs, sz2, FX⟩ : SecD), at2, p) := by
                      unfold secS
                      rw [show ((10 + 6 * k : Nat) : Int) = 10 + 6 * (k : Int) by push_cast; rfl, Hpl.out, HNM.out, Hkd.out, Hal.out, Hsz.out, Hjj.out, Int.toNat_natCast, Int.toNat_natCast, HFE.out]
                      by_cases hk3 : kd = 3
                      · obtain ⟨rfl, rfl, rfl⟩ := HC.out.1 hk3
                        rw [if_pos hk3]
                      · obtain ⟨h1, rfl, rfl, rfl⟩ := HC.out.2 hk3
                        rw [if_neg hk3, if_neg h1]
                    unfold secsS
                    rw [HSS.out]
                    simp only
                    rw [e]
                  have HNS2 : Hid (∀ x ∈ LS ++ [((⟨nm, kd, al, bs, sz2, FX⟩ : SecD), vb, vf)], x.1.name.size ≤ D) := fun x hx => by
                    rcases List.mem_append.1 hx with hx | hx
                    · exact HNMS.out x hx
                    · obtain rfl := List.mem_singleton.1 hx
                      have h9 := nameOf_size TT pl
                      rw [HNM.out, HTL.out] at h9
                      exact h9
                  have HLK := Lib.hid hLk
                  have hLb : LS.length ≤ 8 := by omega
                  clear hbl hLk HS HO HH HR HF HSS HNMS HFS HFE HC
                  obtain ⟨ba, bc, rfl⟩ := owns_form HB.out
                  obtain ⟨fa, fc, rfl⟩ := owns_form HFo.out
                  have cO := HO2.out.cell
                  have fO := HO2.out.frozen
                  have zO := HO2.out.lt
                  have cX := HX.out.cell
                  have zX := HX.out.lt
                  go_wp2_with (at_builtin; go_loud (refine wpList_append_own rfl (.tmp 165) (.tmp 167) 24 24 rfl (q + 2) 53 j0 _ 6 88 Tryz.underlying24 hj0 ja0 ja1 ja2 rfl (by decide) _ _ _ rfl (World.ownsRow.alloc HS2.out.row _) _ 1 [_, _, _, _, _, _] rfl (src_new Tryz.underlying24 _ [_, _, _, _, _, _] 6 1 1 _ rfl ?c0) ?c1 ?c2 ?c3 ?_))
                  case c0 => exact ⟨rfl, rfl, rfl, rfl, rfl, rfl⟩
                  case c1 => unfold maxLen; omega
                  case c2 => omega
                  case c3 => first | omega | (simp; omega)
                  intro v' w4 hown hgr hpl
                  have hsn := (HS2.out.alloc (.cells #[.string nm, .int .i64 kd, .int .i64 al, .slice ba bs.length bc, .int .i64 sz2, .slice fa FX.length fc] 53)).snoc (m := X + 1) (x := ((⟨nm, kd, al, bs, sz2, FX⟩ : SecD), .slice ba bs.length bc, .slice fa FX.length fc)) (fun k' hk' => by have := HLT.out k' hk'; omega) (by omega) (World.ownsRow.alloc HB.out _) (World.ownsRow.alloc HFo.out _) HNE.out hgr hown (by simpa using hpl)
                  obtain ⟨LS2, hLS2⟩ : ∃ LS2, LS ++ [((⟨nm, kd, al, bs, sz2, FX⟩ : SecD), Value.slice ba bs.length bc, Value.slice fa FX.length fc)] = LS2 := ⟨_, rfl⟩
                  have hlen2 : LS2.length = k + 1 := by rw [← hLS2, List.length_append, HLK.out]; rfl
                  have HSEC2 : Hid (secsS l TT (10 + 6 * A + 6 * C + 5 * F) ((10 + 6 * A + 6 * C + 5 * F) + D) (10 + 6 * A + 6 * C) (k + 1) = some (LS2.map (·.1), at2, p)) := by
                    show _ = _
                    rw [HSEC.out, ← hLS2, List.map_append]
                    rfl
                  rw [hLS2] at hsn HNS2
                  have hrow := hsn.row
                  rw [hlen2] at hrow
                  obtain ⟨so2, sc2, rfl⟩ := owns_form hrow
                  have hgb : ∀ k', (Value.slice so k sc).ownBlock = some k' → q + 2 ≤ k' := fun k' hk' => (HS2.out.lt k' (List.mem_append_left _ (by simp [hk']))).1
                  have HSN := Lib.hid hsn
                  have HO4 := Lib.hid (Blk.grown (HO2.out.alloc (.cells #[.string nm, .int .i64 kd, .int .i64 al, .slice ba bs.length bc, .int .i64 sz2, .slice fa FX.length fc] 53)) hgr (fun e => by have := hgb _ e.symm; omega))
                  have HH4 := Lib.hid (Blk.grown (HH2.out.alloc (.cells #[.string nm, .int .i64 kd, .int .i64 al, .slice ba bs.length bc, .int .i64 sz2, .slice fa FX.length fc] 53)) hgr (fun e => by have := hgb _ e.symm; omega))
                  have HR4 := Lib.hid (Blk.grown (HR2.out.alloc (.cells #[.string nm, .int .i64 kd, .int .i64 al, .slice ba bs.length bc, .int .i64 sz2, .slice fa FX.length fc] 53)) hgr (fun e => by have := hgb _ e.symm; omega))
                  have HF4 := Lib.hid (From.grown (HF2.out.alloc (.cells #[.string nm, .int .i64 kd, .int .i64 al, .slice ba bs.length bc, .int .i64 sz2, .slice fa FX.length fc] 53)) hgr (fun k' hk' => by have := hgb k' hk'; omega))
                  have HS5 : Hid (OwnSecs (w4.setCell ⟨q + 1, 0, none⟩ (.slice so2 (k + 1) sc2)) (q + 2) (.slice so2 (k + 1) sc2) LS2) := HSN.out.setBelow (a := ⟨q + 1, 0, none⟩) (by show q + 1 < q + 2; omega) _
                  have HO5 : Hid (Blk (w4.setCell ⟨q + 1, 0, none⟩ (.slice so2 (k + 1) sc2)) (q + 1) #[.slice so2 (k + 1) sc2, .slice none 0 0] 27) := by
                    show Blk _ _ _ _
                    have h9 := HO4.out.set (o := 0) (.slice so2 (k + 1) sc2)
                    simpa using h9
                  have HH5 := Lib.hid (HH4.out.other (p := ⟨q + 1, 0, none⟩) (by show q + 1 ≠ q; omega) (.slice so2 (k + 1) sc2))
                  have HR5 := Lib.hid (HR4.out.other (p := ⟨q + 1, 0, none⟩) (by show q + 1 ≠ _; omega) (.slice so2 (k + 1) sc2))
                  have HF5 := Lib.hid (HF4.out.setCell (p := ⟨q + 1, 0, none⟩) (by show _ ≤ q + 1; omega) (.slice so2 (k + 1) sc2))
                  have cO4 := HO4.out.cell
                  have fO4 := HO4.out.frozen
                  have zO4 := HO4.out.lt
                  clear hown hgr hpl hsn hLS2 hrow hgb cO fO cX zX HS2 HO2 HH2 HR2 HF2 HX HB HFo HNE HFX HLT HSEC HSN
                  go_wp2_with fail
                  go_roundw
                  case rel => exact ⟨k + 1, at2, p, LS2, so2, sc2, by omega, rfl, rfl, by go_num, hat2, hpN, hlen2, HSEC2, HNS2, HS5, HO5, HH5, HR5, HF5⟩
                  case measure => simp [intOf]; try omega
        · obtain rfl : A = k := by omega
          clear hlt cH zH
          have EO2 : Hid (objS l A C F D = some ⟨LS.map (·.1), symsS l TT (10 + 6 * A) C⟩) := by
            show _ = _
            rw [EO.out, HSS.out]
          clear EO HSS
          have cH := HH.out.cell
          have zH := HH.out.lt
          go_wp2_with fail
          go_loopw [18] (fun i wr => ∃ (k : Nat) (YS : List SymD) (ya : Option Addr) (yc : Nat), k ≤ C ∧ i = .int .i64 (k : Int) ∧ YS.length = k ∧ Hid (symsS l TT (10 + 6 * A) k = YS) ∧ Hid (∀ x ∈ YS, x.name.size ≤ D) ∧ Hid (OwnSecs wr (q + 2) (.slice so A sc) LS) ∧ Hid (wr.ownsRow (q + 2) 55 4 (.slice ya k yc) k (YS.flatMap symL)) ∧ Hid (Blk wr (q + 1) #[.slice so A sc, .slice ya k yc] 27) ∧ Hid (Blk wr q #[.int .i64 (A : Int), .int .i64 (C : Int), .int .i64 (F : Int), .int .i64 (D : Int)] 44) ∧ Hid (Blk wr w.heap.size #[.slice none 0 0, .slice none 0 0] 27) ∧ Hid (From w.heap.size w wr)) (fun i _ => C - (intOf i).toNat)
          case atStart => exact ⟨0, [], none, 0, Nat.zero_le _, rfl, rfl, rfl, (fun x hx => by cases hx), HS, World.ownsRow_nil _ _ _ _, HO, HH, HR, HF⟩
          case round =>
            clear HS HO HH HR HF cH zH
            obtain ⟨k, YS, ya, yc, hk2, rfl, hYk, HYS, HYN, HS, HY, HO, HH, HR, HF⟩ := hrel
            have cH := HH.out.cell
            have zH := HH.out.lt
            by_cases hlt : k < C
            · have i2 : (k : Int) < (C : Int) := by omega
              have hAt := H.out.below (Nat.le_refl _) HF.out.below
              have HBW := Lib.hid hAt
              have HTW := Lib.hid (show BytesAt wr (.slice ta D (vc - (10 + 6 * A + 6 * C + 5 * F))) TT from by have h9 := HTB.out.below (w' := wr) (B := w.heap.size) (Nat.le_refl _) HF.out.below; exact h9)
              clear hAt
              obtain ⟨fr, hfr⟩ : ∃ fr : Nat, 10 + 6 * A + 6 * k = fr := ⟨_, rfl⟩
              have hfrI : 10 + 6 * (A : Int) + 6 * (k : Int) = (fr : Int) := by omega
              have HFR := Lib.hid hfr
              have hfr9 : fr ≤ 200 := by omega
              clear hfr
              go_wp2_with fail
              refine (s_GetNumber wr _ l HBW.out (fr : Int) 2).mono ?_
              rintro e w' ⟨rfl, rfl⟩
              obtain ⟨pl, hpl⟩ : ∃ x, getNum l (fr : Int) 2 = x := ⟨_, rfl⟩
              rw [hpl]
              have Hpl := Lib.hid hpl
              clear hpl
              go_wp2_with fail
              refine (s_NameAt wr _ TT HTW.out pl).mono ?_
              rintro e w' ⟨rfl, rfl⟩
              unfold optV
              obtain ⟨nm, hnm⟩ : ∃ s : ByteArray, (⟨((nameAtL TT pl).getD []).toArray⟩ : ByteArray) = s := ⟨_, rfl⟩
              obtain ⟨okb, hokb⟩ : ∃ s : Bool, (nameAtL TT pl).isSome = s := ⟨_, rfl⟩
              rw [hnm, hokb]
              have HNM : Hid (nameOf TT pl = nm) := hnm
              clear hnm hokb
              obtain ⟨g1, h1⟩ : ∃ x, byS l (fr + 2) = x := ⟨_, rfl⟩
              obtain ⟨g2, h2⟩ : ∃ x, byS l (fr + 3) = x := ⟨_, rfl⟩
              obtain ⟨g3, h3⟩ : ∃ x, getNum l ((fr : Int) + 4) 2 = x := ⟨_, rfl⟩
              have hr2 := byS_range l (fr + 3)
              rw [h2] at hr2
              have hwm : IntKind.i64.wrap (g2 - 2) = g2 - 2 := IntWalk.i64_in _ (by omega)
              have hw1 := IntWalk.i64_in ((fr : Int) + 2) (by omega)
              have hw2 := IntWalk.i64_in ((fr : Int) + 3) (by omega)
              have hw3 := IntWalk.i64_in ((fr : Int) + 4) (by omega)
              have Hg1 := Lib.hid h1
              have Hg2 := Lib.hid h2
              have Hg3 := Lib.hid h3
              have HYK := Lib.hid hYk
              clear h1 h2 h3 hYk hfrI
              have zO := HO.out.lt
              go_wp2_with fail
              
              let f0 : Nat → Value := fun i => match i with
                | 0 => .pointer (some ⟨q + 1, 1, none⟩)
                | 1 => .slice ya k yc
                | 2 => .string nm
                | 3 => .slice va l.length vc
                | 4 => .int .i64 (fr : Int)
                | 5 => .int .i64 ((fr : Int) + 2)
                | 6 => .int .i64 g1
                | 7 => .slice va l.length vc
                | 8 => .int .i64 (fr : Int)
                | 9 => .int .i64 ((fr : Int) + 3)
                | 10 => .int .i64 g2
                | 11 => .int .i64 (g2 - 2)
                | 12 => .slice va l.length vc
                | 13 => .int .i64 (fr : Int)
                | 14 => .int .i64 ((fr : Int) + 4)
                | 15 => .int .i64 g3
                | 16 => .agg #[.string nm, .int .i64 g1, .int .i64 (g2 - 2), .int .i64 g3]
                | 19 => .pointer (some ⟨q + 1, 1, none⟩)
                | _ => undef
              have HBY := Lib.hid HBW.out
              let Mid : World → Value → Prop := fun u v' => Other (Value.slice ya k yc).ownBlock.toList wr u ∧ u.ownsRow (q + 2) 55 4 v' (k + 1) (YS.flatMap symL ++ symL (⟨nm, g1, g2 - 2, g3⟩ : SymD)) ∧ ∀ k', v'.ownBlock = some k' → (Value.slice ya k yc).ownBlock = some k' ∨ wr.heap.size ≤ k'
              have hvb : ∀ k' ∈ (Value.slice ya k yc).ownBlock.toList, q + 2 ≤ k' := fun k' hk' => (World.ownsRow.lt HY.out k' (by simpa using hk')).1
              have hq2 : q + 1 ∉ (Value.slice ya k yc).ownBlock.toList := fun h9 => by have := hvb _ h9; omega
              refine wp_region_get (fun i v u => (i = 17 → ∃ z', v = .slice (some ⟨z', 0, none⟩) 1 1 ∧ Blk u z' #[.string nm, .int .i64 g1, .int .i64 (g2 - 2), .int .i64 g3] 55) ∧ (i = 18 → Mid u v) ∧ (i ≠ 17 → i ≠ 18 → v = f0 i))
                (fun _ f u => (f 18 = false → Below wr.heap.size wr u) ∧ (f 20 = false → Other (Value.slice ya k yc).ownBlock.toList wr u) ∧ (f 20 = true → ∃ v' u1, u = u1.setCell ⟨q + 1, 1, none⟩ v' ∧ Mid u1 v'))
                [[], [0], [], [], [], [4], [3, 5], [], [], [8], [7, 9], [10], [], [], [13], [12, 14], [2, 6, 11, 15], [16], [1, 17], [], [18, 19]] [[], [0], [], [], [], [4], [3, 4, 5], [], [], [8], [3, 4, 5, 6, 7, 8, 9], [3, 4, 5, 6, 7, 8, 9, 10], [], [], [13], [3, 4, 5, 6, 7, 8, 9, 10, 12, 13, 14], [2, 3, 4, 5, 6, 7, 8, 9, 10, 11, 12, 13, 14, 15], [2, 3, 4, 5, 6, 7, 8, 9, 10, 11, 12, 13, 14, 15, 16], [0, 1, 2, 3, 4, 5, 6, 7, 8, 9, 10, 11, 12, 13, 14, 15, 16, 17], [0, 1, 2, 3, 4, 5, 6, 7, 8, 9, 10, 11, 12, 13, 14, 15, 16, 17, 18], [0, 1, 2, 3, 4, 5, 6, 7, 8, 9, 10, 11, 12, 13, 14, 15, 16, 17, 18, 19]] [] (by kernel_rfl) (by kernel_rfl) (by kernel_rfl) (by kernel_rfl) (by kernel_rfl)
                ⟨fun _ => ((From.start wr).drew).below, fun _ => Other.below ((From.start wr).drew).below, fun h => by cases h⟩ ?ho ?hq
              case ho =>
                refine ⟨?_, ?_, ?_, ?_, ?_, ?_, ?_, ?_, ?_, ?_, ?_, ?_, ?_, ?_, ?_, ?_, ?_, ?_, ?_, ?_, ?_, trivial⟩
                · intro n f a9 u K' hfr hn hl hS hv hK'
                  have eA8 : a9.tmps.getD 10 undef = .pointer (some ⟨q + 1, 0, none⟩) := hfr 10 (no_dst (by kernel_rfl))
                  have eB8 : (a9.tmps[10]?).getD undef = .pointer (some ⟨q + 1, 0, none⟩) := by simpa using eA8
                  refine owe_run rfl (wp_val (v := .pointer (some ⟨q + 1, 1, none⟩)) ?_ (hK' _ _ ⟨fun h => hS.1 (setl_off h), fun h => hS.2.1 (setl_off h), fun h => hS.2.2 (by rwa [setl_ne (by decide)] at h)⟩ (fun _ _ _ h => h) (fun _ => ⟨fun e => absurd e (by decide), fun e => absurd e (by decide), fun _ _ => rfl⟩)))
                  first
                    | (go_simp; done)
                    | (go_simp; rfl)
                · intro n f a9 u K' hfr hn hl hS hv hK'
                  have eA0 : a9.tmps.getD 191 undef = .pointer (some ⟨q + 1, 1, none⟩) := hv.1.2.2 (by decide) (by decide)
                  have eB0 : (a9.tmps[191]?).getD undef = .pointer (some ⟨q + 1, 1, none⟩) := by simpa using eA0
                  have cu := (HO.out.call (hS.1 (hl.2.2 18 (by decide)))).cell
                  refine owe_run rfl (wp_val (v := .slice ya k yc) ?_ (hK' _ _ ⟨fun h => hS.1 (setl_off h), fun h => hS.2.1 (setl_off h), fun h => hS.2.2 (by rwa [setl_ne (by decide)] at h)⟩ (fun _ _ _ h => h) (fun _ => ⟨fun e => absurd e (by decide), fun e => absurd e (by decide), fun _ _ => rfl⟩)))
                  first
                    | (go_simp; done)
                    | (go_simp; rfl)
                · intro n f a9 u K' hfr hn hl hS hv hK'
                  have eA8 : a9.tmps.getD 20 undef = .string nm := hfr 20 (no_dst (by kernel_rfl))
                  have eB8 : (a9.tmps[20]?).getD undef = .string nm := by simpa using eA8
                  refine owe_run rfl (wp_val (v := .string nm) ?_ (hK' _ _ ⟨fun h => hS.1 (setl_off h), fun h => hS.2.1 (setl_off h), fun h => hS.2.2 (by rwa [setl_ne (by decide)] at h)⟩ (fun _ _ _ h => h) (fun _ => ⟨fun e => absurd e (by decide), fun e => absurd e (by decide), fun _ _ => rfl⟩)))
                  first
                    | (go_simp; done)
                    | (go_simp; rfl)
                · intro n f a9 u K' hfr hn hl hS hv hK'
                  have eA8 : a9.tmps.getD 0 undef = .slice va l.length vc := hfr 0 (no_dst (by kernel_rfl))
                  have eB8 : (a9.tmps[0]?).getD undef = .slice va l.length vc := by simpa using eA8
                  refine owe_run rfl (wp_val (v := .slice va l.length vc) ?_ (hK' _ _ ⟨fun h => hS.1 (setl_off h), fun h => hS.2.1 (setl_off h), fun h => hS.2.2 (by rwa [setl_ne (by decide)] at h)⟩ (fun _ _ _ h => h) (fun _ => ⟨fun e => absurd e (by decide), fun e => absurd e (by decide), fun _ _ => rfl⟩)))
                  first
                    | (go_simp; done)
                    | (go_simp; rfl)
                · intro n f a9 u K' hfr hn hl hS hv hK'
                  have eA8 : a9.tmps.getD 19 undef = .int .i64 (fr : Int) := hfr 19 (no_dst (by kernel_rfl))
                  have eB8 : (a9.tmps[19]?).getD undef = .int .i64 (fr : Int) := by simpa using eA8
                  refine owe_run rfl (wp_val (v := .int .i64 (fr : Int)) ?_ (hK' _ _ ⟨fun h => hS.1 (setl_off h), fun h => hS.2.1 (setl_off h), fun h => hS.2.2 (by rwa [setl_ne (by decide)] at h)⟩ (fun _ _ _ h => h) (fun _ => ⟨fun e => absurd e (by decide), fun e => absurd e (by decide), fun _ _ => rfl⟩)))
                  first
                    | (go_simp; done)
                    | (go_simp; rfl)
                · intro n f a9 u K' hfr hn hl hS hv hK'
                  have eA0 : a9.tmps.getD 195 undef = .int .i64 (fr : Int) := hv.1.2.2 (by decide) (by decide)
                  have eB0 : (a9.tmps[195]?).getD undef = .int .i64 (fr : Int) := by simpa using eA0
                  refine owe_run rfl (wp_val (v := .int .i64 ((fr : Int) + 2)) ?_ (hK' _ _ ⟨fun h => hS.1 (setl_off h), fun h => hS.2.1 (setl_off h), fun h => hS.2.2 (by rwa [setl_ne (by decide)] at h)⟩ (fun _ _ _ h => h) (fun _ => ⟨fun e => absurd e (by decide), fun e => absurd e (by decide), fun _ _ => rfl⟩)))
                  first
                    | (go_simp; done)
                    | (go_simp; rfl)
                · intro n f a9 u K' hfr hn hl hS hv hK'
                  have eA0 : a9.tmps.getD 194 undef = .slice va l.length vc := hv.1.2.2 (by decide) (by decide)
                  have eB0 : (a9.tmps[194]?).getD undef = .slice va l.length vc := by simpa using eA0
                  have eA1 : a9.tmps.getD 196 undef = .int .i64 ((fr : Int) + 2) := hv.2.1.2.2 (by decide) (by decide)
                  have eB1 : (a9.tmps[196]?).getD undef = .int .i64 ((fr : Int) + 2) := by simpa using eA1
                  have hb9 := hS.1 (hl.2.2 18 (by decide))
                  have hr9 := HBY.out.below (w' := u) (Nat.le_refl _) hb9
                  refine owe_run rfl (wp_fn rfl (args2 eA0 eA1) (enter_fn Tryz.func32 (by kernel_rfl) rfl _ _) ((s_l7Byte u _ l hr9 (fr + 2) _ (by push_cast; rfl)).mono ?_))
                  rw [Hg1.out]
                  rintro e u2 ⟨rfl, rfl⟩
                  exact ⟨_, rfl, hK' _ _ ⟨fun h => hS.1 (setl_off h), fun h => hS.2.1 (setl_off h), fun h => hS.2.2 (by rwa [setl_ne (by decide)] at h)⟩ (fun _ _ _ h => h) (fun _ => ⟨fun e => absurd e (by decide), fun e => absurd e (by decide), fun _ _ => rfl⟩)⟩
                · intro n f a9 u K' hfr hn hl hS hv hK'
                  have eA8 : a9.tmps.getD 0 undef = .slice va l.length vc := hfr 0 (no_dst (by kernel_rfl))
                  have eB8 : (a9.tmps[0]?).getD undef = .slice va l.length vc := by simpa using eA8
                  refine owe_run rfl (wp_val (v := .slice va l.length vc) ?_ (hK' _ _ ⟨fun h => hS.1 (setl_off h), fun h => hS.2.1 (setl_off h), fun h => hS.2.2 (by rwa [setl_ne (by decide)] at h)⟩ (fun _ _ _ h => h) (fun _ => ⟨fun e => absurd e (by decide), fun e => absurd e (by decide), fun _ _ => rfl⟩)))
                  first
                    | (go_simp; done)
                    | (go_simp; rfl)
                · intro n f a9 u K' hfr hn hl hS hv hK'
                  have eA8 : a9.tmps.getD 19 undef = .int .i64 (fr : Int) := hfr 19 (no_dst (by kernel_rfl))
                  have eB8 : (a9.tmps[19]?).getD undef = .int .i64 (fr : Int) := by simpa using eA8
                  refine owe_run rfl (wp_val (v := .int .i64 (fr : Int)) ?_ (hK' _ _ ⟨fun h => hS.1 (setl_off h), fun h => hS.2.1 (setl_off h), fun h => hS.2.2 (by rwa [setl_ne (by decide)] at h)⟩ (fun _ _ _ h => h) (fun _ => ⟨fun e => absurd e (by decide), fun e => absurd e (by decide), fun _ _ => rfl⟩)))
                  first
                    | (go_simp; done)
                    | (go_simp; rfl)
                · intro n f a9 u K' hfr hn hl hS hv hK'
                  have eA0 : a9.tmps.getD 199 undef = .int .i64 (fr : Int) := hv.1.2.2 (by decide) (by decide)
                  have eB0 : (a9.tmps[199]?).getD undef = .int .i64 (fr : Int) := by simpa using eA0
                  refine owe_run rfl (wp_val (v := .int .i64 ((fr : Int) + 3)) ?_ (hK' _ _ ⟨fun h => hS.1 (setl_off h), fun h => hS.2.1 (setl_off h), fun h => hS.2.2 (by rwa [setl_ne (by decide)] at h)⟩ (fun _ _ _ h => h) (fun _ => ⟨fun e => absurd e (by decide), fun e => absurd e (by decide), fun _ _ => rfl⟩)))
                  first
                    | (go_simp; done)
                    | (go_simp; rfl)
                · intro n f a9 u K' hfr hn hl hS hv hK'
                  have eA0 : a9.tmps.getD 198 undef = .slice va l.length vc := hv.1.2.2 (by decide) (by decide)
                  have eB0 : (a9.tmps[198]?).getD undef = .slice va l.length vc := by simpa using eA0
                  have eA1 : a9.tmps.getD 200 undef = .int .i64 ((fr : Int) + 3) := hv.2.1.2.2 (by decide) (by decide)
                  have eB1 : (a9.tmps[200]?).getD undef = .int .i64 ((fr : Int) + 3) := by simpa using eA1
                  have hb9 := hS.1 (hl.2.2 18 (by decide))
                  have hr9 := HBY.out.below (w' := u) (Nat.le_refl _) hb9
                  refine owe_run rfl (wp_fn rfl (args2 eA0 eA1) (enter_fn Tryz.func32 (by kernel_rfl) rfl _ _) ((s_l7Byte u _ l hr9 (fr + 3) _ (by push_cast; rfl)).mono ?_))
                  rw [Hg2.out]
                  rintro e u2 ⟨rfl, rfl⟩
                  exact ⟨_, rfl, hK' _ _ ⟨fun h => hS.1 (setl_off h), fun h => hS.2.1 (setl_off h), fun h => hS.2.2 (by rwa [setl_ne (by decide)] at h)⟩ (fun _ _ _ h => h) (fun _ => ⟨fun e => absurd e (by decide), fun e => absurd e (by decide), fun _ _ => rfl⟩)⟩
                · intro n f a9 u K' hfr hn hl hS hv hK'
                  have eA0 : a9.tmps.getD 201 undef = .int .i64 g2 := hv.1.2.2 (by decide) (by decide)
                  have eB0 : (a9.tmps[201]?).getD undef = .int .i64 g2 := by simpa using eA0
                  refine owe_run rfl (wp_val (v := .int .i64 (g2 - 2)) ?_ (hK' _ _ ⟨fun h => hS.1 (setl_off h), fun h => hS.2.1 (setl_off h), fun h => hS.2.2 (by rwa [setl_ne (by decide)] at h)⟩ (fun _ _ _ h => h) (fun _ => ⟨fun e => absurd e (by decide), fun e => absurd e (by decide), fun _ _ => rfl⟩)))
                  first
                    | (go_simp; done)
                    | (go_simp; rfl)
                · intro n f a9 u K' hfr hn hl hS hv hK'
                  have eA8 : a9.tmps.getD 0 undef = .slice va l.length vc := hfr 0 (no_dst (by kernel_rfl))
                  have eB8 : (a9.tmps[0]?).getD undef = .slice va l.length vc := by simpa using eA8
                  refine owe_run rfl (wp_val (v := .slice va l.length vc) ?_ (hK' _ _ ⟨fun h => hS.1 (setl_off h), fun h => hS.2.1 (setl_off h), fun h => hS.2.2 (by rwa [setl_ne (by decide)] at h)⟩ (fun _ _ _ h => h) (fun _ => ⟨fun e => absurd e (by decide), fun e => absurd e (by decide), fun _ _ => rfl⟩)))
                  first
                    | (go_simp; done)
                    | (go_simp; rfl)
                · intro n f a9 u K' hfr hn hl hS hv hK'
                  have eA8 : a9.tmps.getD 19 undef = .int .i64 (fr : Int) := hfr 19 (no_dst (by kernel_rfl))
                  have eB8 : (a9.tmps[19]?).getD undef = .int .i64 (fr : Int) := by simpa using eA8
                  refine owe_run rfl (wp_val (v := .int .i64 (fr : Int)) ?_ (hK' _ _ ⟨fun h => hS.1 (setl_off h), fun h => hS.2.1 (setl_off h), fun h => hS.2.2 (by rwa [setl_ne (by decide)] at h)⟩ (fun _ _ _ h => h) (fun _ => ⟨fun e => absurd e (by decide), fun e => absurd e (by decide), fun _ _ => rfl⟩)))
                  first
                    | (go_simp; done)
                    | (go_simp; rfl)
                · intro n f a9 u K' hfr hn hl hS hv hK'
                  have eA0 : a9.tmps.getD 204 undef = .int .i64 (fr : Int) := hv.1.2.2 (by decide) (by decide)
                  have eB0 : (a9.tmps[204]?).getD undef = .int .i64 (fr : Int) := by simpa using eA0
                  refine owe_run rfl (wp_val (v := .int .i64 ((fr : Int) + 4)) ?_ (hK' _ _ ⟨fun h => hS.1 (setl_off h), fun h => hS.2.1 (setl_off h), fun h => hS.2.2 (by rwa [setl_ne (by decide)] at h)⟩ (fun _ _ _ h => h) (fun _ => ⟨fun e => absurd e (by decide), fun e => absurd e (by decide), fun _ _ => rfl⟩)))
                  first
                    | (go_simp; done)
                    | (go_simp; rfl)
                · intro n f a9 u K' hfr hn hl hS hv hK'
                  have eA0 : a9.tmps.getD 203 undef = .slice va l.length vc := hv.1.2.2 (by decide) (by decide)
                  have eB0 : (a9.tmps[203]?).getD undef = .slice va l.length vc := by simpa using eA0
                  have eA1 : a9.tmps.getD 205 undef = .int .i64 ((fr : Int) + 4) := hv.2.1.2.2 (by decide) (by decide)
                  have eB1 : (a9.tmps[205]?).getD undef = .int .i64 ((fr : Int) + 4) := by simpa using eA1
                  have hb9 := hS.1 (hl.2.2 18 (by decide))
                  have hr9 := HBY.out.below (w' := u) (Nat.le_refl _) hb9
                  refine owe_run rfl (wp_fn rfl (args3 eA0 eA1 rfl) (enter_fn Tryz.func31 (by kernel_rfl) rfl _ _) ((s_GetNumber u _ l hr9 ((fr : Int) + 4) 2).mono ?_))
                  rw [Hg3.out]
                  rintro e u2 ⟨rfl, rfl⟩
                  exact ⟨_, rfl, hK' _ _ ⟨fun h => hS.1 (setl_off h), fun h => hS.2.1 (setl_off h), fun h => hS.2.2 (by rwa [setl_ne (by decide)] at h)⟩ (fun _ _ _ h => h) (fun _ => ⟨fun e => absurd e (by decide), fun e => absurd e (by decide), fun _ _ => rfl⟩)⟩
                · intro n f a9 u K' hfr hn hl hS hv hK'
                  have eA0 : a9.tmps.getD 193 undef = .string nm := hv.1.2.2 (by decide) (by decide)
                  have eB0 : (a9.tmps[193]?).getD undef = .string nm := by simpa using eA0
                  have eA1 : a9.tmps.getD 197 undef = .int .i64 g1 := hv.2.1.2.2 (by decide) (by decide)
                  have eB1 : (a9.tmps[197]?).getD undef = .int .i64 g1 := by simpa using eA1
                  have eA2 : a9.tmps.getD 202 undef = .int .i64 (g2 - 2) := hv.2.2.1.2.2 (by decide) (by decide)
                  have eB2 : (a9.tmps[202]?).getD undef = .int .i64 (g2 - 2) := by simpa using eA2
                  have eA3 : a9.tmps.getD 206 undef = .int .i64 g3 := hv.2.2.2.1.2.2 (by decide) (by decide)
                  have eB3 : (a9.tmps[206]?).getD undef = .int .i64 g3 := by simpa using eA3
                  refine owe_run rfl (wp_val (v := .agg #[.string nm, .int .i64 g1, .int .i64 (g2 - 2), .int .i64 g3]) ?_ (hK' _ _ ⟨fun h => hS.1 (setl_off h), fun h => hS.2.1 (setl_off h), fun h => hS.2.2 (by rwa [setl_ne (by decide)] at h)⟩ (fun _ _ _ h => h) (fun _ => ⟨fun e => absurd e (by decide), fun e => absurd e (by decide), fun _ _ => rfl⟩)))
                  first
                    | (go_simp; done)
                    | (go_simp; rfl)
                · intro n f a9 u K' hfr hn hl hS hv hK'
                  have eA0 : a9.tmps.getD 207 undef = .agg #[.string nm, .int .i64 g1, .int .i64 (g2 - 2), .int .i64 g3] := hv.1.2.2 (by decide) (by decide)
                  have eB0 : (a9.tmps[207]?).getD undef = .agg #[.string nm, .int .i64 g1, .int .i64 (g2 - 2), .int .i64 g3] := by simpa using eA0
                  have k1 : Below u.heap.size u (u.alloc (.cells #[.string nm, .int .i64 g1, .int .i64 (g2 - 2), .int .i64 g3] 55)) := ((From.start u).alloc _).below
                  refine owe_run rfl (wp_val (v := .slice (some ⟨u.heap.size, 0, none⟩) 1 1) (w' := u.alloc (.cells #[.string nm, .int .i64 g1, .int .i64 (g2 - 2), .int .i64 g3] 55)) ?_ (hK' _ _ ⟨fun h => (have hb := hS.1 (setl_off h); ((⟨hb, hb.size⟩ : From _ wr u).alloc _).below), fun h => (hS.2.1 (setl_off h)).trans (Other.below k1), fun h => (by rw [setl_ne (by decide), hl.2.2 20 (by decide)] at h; cases h)⟩ (fun j y hj h => ⟨fun e => (have ⟨z, e1, e2⟩ := h.1 e; ⟨z, e1, e2.call k1⟩), fun e => by subst e; exact absurd hj (by decide), h.2.2⟩) (fun _ => ⟨fun _ => ⟨_, rfl, Blk.new u _ _⟩, fun e => absurd e (by decide), fun e _ => absurd rfl e⟩)))
                  first
                    | (go_simp; done)
                    | (go_simp; rfl)
                · intro n f a9 u K' hfr hn hl hS hv hK'
                  have eA0 : a9.tmps.getD 192 undef = .slice ya k yc := hv.1.2.2 (by decide) (by decide)
                  obtain ⟨z', e8, hz8⟩ := hv.2.1.1 rfl
                  have hb9 := hS.1 hl.1
                  have hown := owns_call HY.out hb9
                  have ho9 := hS.2.1 (hl.2.2 20 (by decide))
                  have hsz := hb9.size
                  refine step_append_new rfl (.tmp 192) (.tmp 208) 25 25 rfl (q + 2) 55 y0 _ 4 40 Tryz.underlying25 hy0 ya0 ya1 ya2 rfl (by decide) _ _ _ eA0 hown _ 1 (symL (⟨nm, g1, g2 - 2, g3⟩ : SymD)) e8 (src_blk Tryz.underlying25 u z' (symL (⟨nm, g1, g2 - 2, g3⟩ : SymD)) 4 1 1 55 hz8 rfl (by intro u hu; simp only [symL, List.mem_cons, List.not_mem_nil, or_false] at hu; rcases hu with rfl | rfl | rfl | rfl <;> rfl)) (by unfold maxLen; omega) (by omega) (by omega) ?_
                  intro v' w1 hown1 hgr1 hpl
                  have hmid : Mid w1 v' := ⟨ho9.trans (Other.grown hgr1 (fun k' hk' => by simpa using hk')), hown1, fun k' hk' => by
                    rcases hpl with e | e
                    · exact .inl (e ▸ hk')
                    · rw [e] at hk'; simp only [Option.some.injEq] at hk'; right; omega⟩
                  exact hK' _ _ ⟨fun h => (by rw [setl_at] at h; cases h), fun _ => hmid.1, fun h => (by rw [setl_ne (by decide), hl.2.2 20 (by decide)] at h; cases h)⟩ (fun j y hj h => ⟨fun e => by subst e; exact absurd hj (by decide), fun e => by subst e; exact absurd hj (by decide), h.2.2⟩) (fun _ => ⟨fun e => absurd e (by decide), fun _ => hmid, fun _ e => absurd rfl e⟩)
                · intro n f a9 u K' hfr hn hl hS hv hK'
                  have eA8 : a9.tmps.getD 10 undef = .pointer (some ⟨q + 1, 0, none⟩) := hfr 10 (no_dst (by kernel_rfl))
                  have eB8 : (a9.tmps[10]?).getD undef = .pointer (some ⟨q + 1, 0, none⟩) := by simpa using eA8
                  refine owe_run rfl (wp_val (v := .pointer (some ⟨q + 1, 1, none⟩)) ?_ (hK' _ _ ⟨fun h => hS.1 (setl_off h), fun h => hS.2.1 (setl_off h), fun h => hS.2.2 (by rwa [setl_ne (by decide)] at h)⟩ (fun _ _ _ h => h) (fun _ => ⟨fun e => absurd e (by decide), fun e => absurd e (by decide), fun _ _ => rfl⟩)))
                  first
                    | (go_simp; done)
                    | (go_simp; rfl)
                · intro n f a9 u K' hfr hn hl hS hv hK'
                  have hmid := hv.1.2.1 rfl
                  have eA1 : a9.tmps.getD 210 undef = .pointer (some ⟨q + 1, 1, none⟩) := hv.2.1.2.2 (by decide) (by decide)
                  have eB1 : (a9.tmps[210]?).getD undef = .pointer (some ⟨q + 1, 1, none⟩) := by simpa using eA1
                  obtain ⟨v', hv'⟩ : ∃ v', (a9.tmps[209]?).getD undef = v' := ⟨_, rfl⟩
                  have e9 : a9.tmps.getD 209 undef = v' := by rw [← hv']; simp
                  rw [e9] at hmid
                  obtain ⟨va9, vc9, e10⟩ : ∃ va9 vc9, v' = .slice va9 (k + 1) vc9 := owns_form hmid.2.1
                  subst e10
                  have hX9 := HO.out.otherB hmid.1 hq2
                  have cq := hX9.cell
                  have fq := hX9.frozen
                  refine owe_run rfl (wp_skp (w' := u.setCell ⟨q + 1, 1, none⟩ (.slice va9 (k + 1) vc9)) ?_ (hK' undef _ ⟨fun h => (by rw [setl_ne (by decide), hl.2.1 18 (by decide)] at h; cases h), fun h => (by rw [setl_at] at h; cases h), fun _ => ⟨_, u, rfl, hmid⟩⟩ (fun j y hj h => ⟨fun e => by subst e; exact absurd hj (by decide), fun e => by subst e; exact absurd hj (by decide), h.2.2⟩) (fun h => absurd rfl h)))
                  first
                    | (go_simp; done)
                    | (go_simp; rfl)
              case hq =>
                intro gg9 u hS hv
                clear hv f0
                obtain ⟨v', u1, rfl, ho9, hr9, hp9⟩ := hS.2.2 (by decide)
                clear hS Mid
                have hap := secs_row_ne HS.out HY.out (by decide) (by decide) (by decide)
                have HS9 := Lib.hid ((HS.out.other ho9 (fun k' hk' hm => hap k' (by simpa using hm) hk')).setBelow (a := ⟨q + 1, 1, none⟩) (by show q + 1 < q + 2; omega) v')
                have HO9 := HO.out.otherB ho9 hq2
                have hO10 := HO9.set (o := 1) v'
                have HO10 : Hid (Blk (u1.setCell ⟨q + 1, 1, none⟩ v') (q + 1) #[.slice so A sc, v'] 27) := by show Blk _ _ _ _; simpa using hO10
                have HH10 := Lib.hid ((HH.out.otherB ho9 (fun h9 => by have := hvb _ h9; omega)).other (p := ⟨q + 1, 1, none⟩) (by show q + 1 ≠ q; omega) v')
                have HR10 := Lib.hid ((HR.out.otherB ho9 (fun h9 => by have := hvb _ h9; omega)).other (p := ⟨q + 1, 1, none⟩) (by show q + 1 ≠ _; omega) v')
                have HF10 := Lib.hid ((HF.out.other ho9 (fun k' hk' => by have := hvb k' hk'; omega)).setCell (p := ⟨q + 1, 1, none⟩) (by show _ ≤ q + 1; omega) v')
                obtain ⟨YS2, hYS2⟩ : ∃ YS2, YS ++ [(⟨nm, g1, g2 - 2, g3⟩ : SymD)] = YS2 := ⟨_, rfl⟩
                have hl2 : YS2.length = k + 1 := by rw [← hYS2, List.length_append, HYK.out]; rfl
                have HY10 : Hid ((u1.setCell ⟨q + 1, 1, none⟩ v').ownsRow (q + 2) 55 4 v' (k + 1) (YS2.flatMap symL)) := by
                  show World.ownsRow _ _ _ _ _ _ _
                  rw [← hYS2, List.flatMap_append, List.flatMap_singleton]
                  exact ownsRow_setCell_below hr9 (a := ⟨q + 1, 1, none⟩) (by show q + 1 < q + 2; omega) _
                have HYS10 : Hid (symsS l TT (10 + 6 * A) (k + 1) = YS2) := by
                  show _ = _
                  unfold symsS
                  rw [HYS.out, ← hYS2]
                  congr 2
                  unfold symS
                  rw [HFR.out, Hpl.out, HNM.out, Hg1.out, Hg2.out, show ((fr + 4 : Nat) : Int) = (fr : Int) + 4 by push_cast; rfl, Hg3.out]
                have HYN10 : Hid (∀ x ∈ YS2, x.name.size ≤ D) := fun x hx => by
                  rw [← hYS2] at hx
                  rcases List.mem_append.1 hx with hx | hx
                  · exact HYN.out x hx
                  · obtain rfl := List.mem_singleton.1 hx
                    have h9 := nameOf_size TT pl
                    rw [HNM.out, HTL.out] at h9
                    exact h9
                obtain ⟨va9, vc9, e10⟩ : ∃ va9 vc9, v' = .slice va9 (k + 1) vc9 := owns_form hr9
                subst e10
                clear hYS2 hap ho9 hr9 hp9 HO9 hO10 hvb hq2 hwm hw1 hw2 hw3 HS HY HO HH HR HF HYS HYN HBY
                simp only [List.map, putG, List.setIfInBounds_toArray, List.set_cons_succ, List.set_cons_zero]
                go_wp2_with fail
                go_roundw
                case rel => exact ⟨k + 1, YS2, va9, vc9, by omega, by go_num, hl2, HYS10, HYN10, HS9, HY10, HO10, HH10, HR10, HF10⟩
                case measure => simp [intOf]; try omega
            · obtain rfl : C = k := by omega
              obtain ⟨O, hO⟩ : ∃ O : ObjD, (⟨LS.map (·.1), YS⟩ : ObjD) = O := ⟨_, rfl⟩
              have HOS : Hid (O.secs = LS.map (·.1)) := by show _ = _; rw [← hO]
              have HOY : Hid (O.syms = YS) := by show _ = _; rw [← hO]
              have HNS : Hid ((∀ s ∈ O.secs, s.name.size ≤ maxLen) ∧ ∀ s ∈ O.syms, s.name.size ≤ maxLen) := by
                rw [← hO]
                exact ⟨fun x hx => by
                  obtain ⟨y, hy, rfl⟩ := List.mem_map.1 hx
                  have := HNMS.out y hy; unfold maxLen; omega, fun x hx => by have := HYN.out x hx; unfold maxLen; omega⟩
              have HRI : Hid (readS l = if objB O = true ∧ writeL O = l then some O else none) := by
                show _ = _
                rw [ER.out, EO2.out, HYS.out, hO]
              have HLK := Lib.hid hLk
              have HYK := Lib.hid hYk
              have HYO : Hid (OwnSyms wr (q + 2) (.slice ya C yc) O.syms) := by
                show OwnSyms _ _ _ _
                unfold OwnSyms
                rw [HOY.out, HYK.out]
                exact HY.out
              have HOB : Hid (ObjAt wr (.agg #[.slice so A sc, .slice ya C yc]) O) := ⟨_, _, rfl, by rw [HOS.out]; exact HS.out.at, HYO.out.reads⟩
              clear hO EO2 ER HYS hLk hYk HY
              have cX := HO.out.cell
              have zX := HO.out.lt
              go_wp2_with fail
              refine (s_ObjectValid _ (.agg #[.slice so A sc, .slice ya C yc]) O HOB.out HNS.out).mono ?_
              rintro e w8 ⟨rfl, k8⟩
              have HS := Lib.hid (HS.out.call k8)
              have HYO := Lib.hid (owns_call HYO.out k8)
              have HO := Lib.hid (HO.out.call k8)
              have HR := Lib.hid (HR.out.call k8)
              have HF := Lib.hid (HF.out.call k8)
              have HOB := Lib.hid (HOB.out.below (Nat.le_refl _) k8)
              have cX := HO.out.cell
              have zX := HO.out.lt
              have cR := HR.out.cell
              have fR := HR.out.frozen
              have zR := HR.out.lt
              clear k8 HH cH zH
              cases hv : objB O with
              | false =>
                have E : Hid (readS l = none) := by show _ = _; rw [HRI.out, hv]; simp
                clear hv HRI
                go_wp2_with fail
                refine bodyPost_ret (v := .tuple #[.agg #[.slice none 0 0, .slice none 0 0], .bool false]) (by simp [results, Tryz.results7, go_sem, cR, zR]) rfl ⟨_, by rw [E.out]; rfl, by rw [E.out]; exact ownObj_zero _ _, ?_⟩
                have HX := ((HF.out.setCell (p := ⟨w.heap.size, 0, none⟩) (Nat.le_refl _) (.slice none 0 0)).setCell (p := ⟨w.heap.size, 1, none⟩) (Nat.le_refl _) (.slice none 0 0))
                exact HX.below
              | true =>
                have HV := Lib.hid hv
                clear hv
                go_wp2_with fail
                refine (s_WriteObject _ (.agg #[.slice so A sc, .slice ya C yc]) O HOB.out HNS.out).mono ?_
                rintro e w9 ⟨r8, rfl, hr8, k8⟩
                have HS := Lib.hid (HS.out.call k8)
                have HYO := Lib.hid (owns_call HYO.out k8)
                have HO := Lib.hid (HO.out.call k8)
                have HR := Lib.hid (HR.out.call k8)
                have HF := Lib.hid (HF.out.call k8)
                have HE8 := Lib.hid hr8.reads
                have cX := HO.out.cell
                have zX := HO.out.lt
                have cR := HR.out.cell
                have fR := HR.out.frozen
                have zR := HR.out.lt
                obtain ⟨r8a, r8c, rfl⟩ := owns_form hr8
                clear hr8 k8 HOB HNS
                go_wp2_with fail
                refine (s_l7Same _ _ _ (writeL O) l HE8.out (H.out.below (Nat.le_refl _) HF.out.below)).mono ?_
                rintro e w10 ⟨rfl, k10⟩
                have HS := Lib.hid (HS.out.call k10)
                have HYO := Lib.hid (owns_call HYO.out k10)
                have HO := Lib.hid (HO.out.call k10)
                have HR := Lib.hid (HR.out.call k10)
                have HF := Lib.hid (HF.out.call k10)
                have cX := HO.out.cell
                have zX := HO.out.lt
                have cR := HR.out.cell
                have fR := HR.out.frozen
                have zR := HR.out.lt
                clear k10
                cases he : eqB (writeL O) l with
                | true =>
                  have E : Hid (readS l = some O) := by
                    show _ = _
                    have : writeL O = l := by simpa [eqB] using he
                    rw [HRI.out, if_pos ⟨HV.out, this⟩]
                  clear he HRI
                  go_wp2_with fail
                  have hap := secs_row_ne HS.out HYO.out (by decide) (by decide) (by decide)
                  refine bodyPost_ret (v := .tuple #[.agg #[.slice so A sc, .slice ya C yc], .bool true]) (by simp [results, Tryz.results7, go_sem, cR, zR]) rfl ⟨_, by rw [E.out]; rfl, by rw [E.out]; exact ⟨_, _, LS, rfl, HOS.out, ((HS.out.setBelow (a := ⟨w.heap.size, 0, none⟩) (by show w.heap.size < _; omega) _).setBelow (a := ⟨w.heap.size, 1, none⟩) (by show w.heap.size < _; omega) _).mono (by omega), owns_mono (ownsRow_setCell_below (ownsRow_setCell_below HYO.out (a := ⟨w.heap.size, 0, none⟩) (by show w.heap.size < _; omega) _) (a := ⟨w.heap.size, 1, none⟩) (by show w.heap.size < _; omega) _) (by omega), hap⟩, ?_⟩
                  exact ((HF.out.setCell (p := ⟨w.heap.size, 0, none⟩) (Nat.le_refl _) _).setCell (p := ⟨w.heap.size, 1, none⟩) (Nat.le_refl _) _).below
                | false =>
                  have E : Hid (readS l = none) := by
                    show _ = _
                    have : ¬ writeL O = l := by simpa [eqB] using he
                    rw [HRI.out, if_neg (fun h => this h.2)]
                  clear he HRI
                  go_wp2_with fail
                  refine bodyPost_ret (v := .tuple #[.agg #[.slice none 0 0, .slice none 0 0], .bool false]) (by simp [results, Tryz.results7, go_sem, cR, zR]) rfl ⟨_, by rw [E.out]; rfl, by rw [E.out]; exact ownObj_zero _ _, ?_⟩
                  have HX := ((HF.out.setCell (p := ⟨w.heap.size, 0, none⟩) (Nat.le_refl _) (.slice none 0 0)).setCell (p := ⟨w.heap.size, 1, none⟩) (Nat.le_refl _) (.slice none 0 0))
                  exact HX.below
end Go.Proofs.YtpgmmjdianoaeaaGreat
