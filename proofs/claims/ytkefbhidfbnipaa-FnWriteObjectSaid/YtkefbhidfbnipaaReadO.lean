/- Objects read: the program's function. -/
import Derived.Test.YtkefbhidfbnipaaReadK
import Derived.Test.YtkefbhidfbnipaaWrI
namespace Go.Proofs.Ytkefbhidfbnipaa
open Go.ChangeShapes Go.WideShapes Go.ChangeAt Go.RowKit Go.Joins
set_option linter.unusedSimpArgs false
set_option linter.unusedVariables false
set_option maxRecDepth 100000
set_option maxHeartbeats 8000000 in
theorem i_ReadObject (w : World) (v : Value) (l : List UInt8) (h : BytesAt w v l) :
    Calls Try.prog 11 #[v] w (RetRd w (readI l)) := by
  obtain ⟨i0, hi0, ia0, ia1, ia2⟩ := info_parts info_int
  obtain ⟨j0, hj0, ja0, ja1, ja2⟩ := info_parts info_sec
  have H := Lib.hid h
  obtain ⟨va, vc, rfl, hcap, hmax, hnone, hcell⟩ := h.form
  have HE := Lib.hid hcell
  have HNO := Lib.hid hnone
  clear h hcell hnone
  unfold maxLen at hmax
  have HF0 := Lib.hid ((From.start w).alloc (.cells #[.slice none 0 0, .slice none 0 0] 26))
  have HR0 := Lib.hid (Blk.new w #[.slice none 0 0, .slice none 0 0] 26)
  go_enter Try.func11, Try.ntmps11
  go_wp2_with fail
  have q1 := i_GetHeader_all (w.alloc (.cells #[.slice none 0 0, .slice none 0 0] 26)) (.slice va l.length vc) l (H.out.below (Nat.le_refl _) HF0.out.below)
  unfold RetHead at q1
  cases hh : getHead l with
  | none =>
    have E : Hid (readI l = none) := by show _ = _; unfold readI; rw [hh]
    rw [hh] at q1
    simp only [headOpt, headerV, Option.isSome] at q1
    refine q1.mono ?_
    rintro e w1 ⟨rfl, k1⟩
    have HF1 := Lib.hid (HF0.out.call k1)
    have HR1 := Lib.hid (HR0.out.call k1)
    have cR := HR1.out.cell
    have fR := HR1.out.frozen
    have zR := HR1.out.lt
    clear q1 hh k1
    go_wp2_with fail
    refine bodyPost_ret (v := .tuple #[.agg #[.slice none 0 0, .slice none 0 0], .bool false]) (by simp [results, Try.results11, go_sem, cR, zR]) rfl ⟨_, by rw [E.out]; rfl, by rw [E.out]; exact ownObj_zero _ _, ?_⟩
    have HX := ((HF1.out.setCell (p := ⟨w.heap.size, 0, none⟩) (Nat.le_refl _) (.slice none 0 0)).setCell (p := ⟨w.heap.size, 1, none⟩) (Nat.le_refl _) (.slice none 0 0))
    exact (HX.alloc _).below
  | some q =>
    obtain ⟨a, b, c, d⟩ := q
    rw [hh] at q1
    simp only [headOpt, headerV, Option.isSome] at q1
    refine q1.mono ?_
    rintro e w1 ⟨rfl, k1⟩
    have HF1 := Lib.hid (HF0.out.call k1)
    have HR1 := Lib.hid (HR0.out.call k1)
    have HH := Lib.hid (getHead_some hh)
    have h10 : 10 ≤ l.length := HH.out.1
    have i10 : (10 : Int) ≤ (l.length : Int) := by omega
    have i11 : (10 : Int) ≤ (vc : Int) := by omega
    have HG := Lib.hid hh
    clear q1 hh k1
    obtain ⟨sa, hsl, hs1, hs2⟩ : ∃ sa, (∀ u, (Instr.slice 22 (.slice va l.length vc) (some (.int .i64 10)) none none).run Try.prog u = .ok (.slice sa (l.length - 10) (vc - 10)) u) ∧ (vc = 10 → sa = va) ∧ (vc ≠ 10 → sa = va.map (fun x => x.add 10)) := by
      refine ⟨if vc = 10 then va else va.map (fun x => x.add 10), fun u => ?_, fun e => by rw [if_pos e], fun e => by rw [if_neg e]⟩
      go_simp
      try split <;> rfl
    have hB0 : BytesAt w (.slice sa (l.length - 10) (vc - 10)) (l.drop 10) ∧ ∀ b off m c', Value.slice sa (l.length - 10) (vc - 10) = .slice (some ⟨b, off, none⟩) m c' → 0 < m → b < w.heap.size := bytes_drop 10 h10 H.out hs1 hs2
    have HB0 := Lib.hid hB0
    clear hs1 hs2 hB0
    go_wp2_with fail
    clear hsl
    obtain ⟨A, rfl⟩ : ∃ A : Nat, a = (A : Int) := ⟨a.toNat, by have := HH.out.2.1; simp only [headerB, Bool.and_eq_true] at this; have := ((withinB_iff _ _ _).1 this.1.1.1).1; omega⟩
    have hA8 : A ≤ 1000 := by have := HH.out.2.1; simp only [headerB, Bool.and_eq_true] at this; have := ((withinB_iff _ _ _).1 this.1.1.1).2; omega
    obtain ⟨q, hq⟩ : ∃ q, w1.heap.size = q := ⟨_, rfl⟩
    obtain ⟨nd, hnd⟩ : ∃ nd, l.length - 10 = nd := ⟨_, rfl⟩
    obtain ⟨D, hD⟩ : ∃ D, l.drop 10 = D := ⟨_, rfl⟩
    have hDl : D.length = nd := by rw [← hD, List.length_drop, hnd]
    have hwq : w.heap.size < q := by rw [← hq]; exact HR1.out.lt
    rw [hnd]
    rw [hnd, hD] at HB0
    have HD := Lib.hid hD
    clear hD hnd
    have hz1 : (w1.alloc (.cells #[.int .i64 (A : Int), .int .i64 b, .int .i64 c, .int .i64 d] 49)).heap.size = q + 1 := by simp [hq]
    have hz2 : ((w1.alloc (.cells #[.int .i64 (A : Int), .int .i64 b, .int .i64 c, .int .i64 d] 49)).alloc (.cells #[.slice sa nd (vc - 10), .bool false] 69)).heap.size = q + 2 := by simp [hq]
    have hz3 : (((w1.alloc (.cells #[.int .i64 (A : Int), .int .i64 b, .int .i64 c, .int .i64 d] 49)).alloc (.cells #[.slice sa nd (vc - 10), .bool false] 69)).alloc (.cells #[.slice none 0 0, .slice none 0 0] 26)).heap.size = q + 3 := by simp [hq]
    have hz4 : ((((w1.alloc (.cells #[.int .i64 (A : Int), .int .i64 b, .int .i64 c, .int .i64 d] 49)).alloc (.cells #[.slice sa nd (vc - 10), .bool false] 69)).alloc (.cells #[.slice none 0 0, .slice none 0 0] 26)).alloc (.cells #[] 3)).heap.size = q + 4 := by simp [hq]
    have hz5 : (((((w1.alloc (.cells #[.int .i64 (A : Int), .int .i64 b, .int .i64 c, .int .i64 d] 49)).alloc (.cells #[.slice sa nd (vc - 10), .bool false] 69)).alloc (.cells #[.slice none 0 0, .slice none 0 0] 26)).alloc (.cells #[] 3)).alloc (.cells #[] 3)).heap.size = q + 5 := by simp [hq]
    have HW : Hid (Blk ((((((w1.alloc (.cells #[.int .i64 (A : Int), .int .i64 b, .int .i64 c, .int .i64 d] 49)).alloc (.cells #[.slice sa nd (vc - 10), .bool false] 69)).alloc (.cells #[.slice none 0 0, .slice none 0 0] 26)).alloc (.cells #[] 3)).alloc (.cells #[] 3)).alloc (.cells #[] 3)) q #[.int .i64 (A : Int), .int .i64 b, .int .i64 c, .int .i64 d] 49) := ((((((show Blk (w1.alloc (.cells #[.int .i64 (A : Int), .int .i64 b, .int .i64 c, .int .i64 d] 49)) q #[.int .i64 (A : Int), .int .i64 b, .int .i64 c, .int .i64 d] 49 from Blk.newAt _ _ _ _ hq.symm).alloc _).alloc _).alloc _).alloc _).alloc _)
    have HF7 : Hid (From w.heap.size w ((((((w1.alloc (.cells #[.int .i64 (A : Int), .int .i64 b, .int .i64 c, .int .i64 d] 49)).alloc (.cells #[.slice sa nd (vc - 10), .bool false] 69)).alloc (.cells #[.slice none 0 0, .slice none 0 0] 26)).alloc (.cells #[] 3)).alloc (.cells #[] 3)).alloc (.cells #[] 3))) := ((((((HF1.out.alloc _).alloc _).alloc _).alloc _).alloc _).alloc _)
    have HR7 : Hid (Blk ((((((w1.alloc (.cells #[.int .i64 (A : Int), .int .i64 b, .int .i64 c, .int .i64 d] 49)).alloc (.cells #[.slice sa nd (vc - 10), .bool false] 69)).alloc (.cells #[.slice none 0 0, .slice none 0 0] 26)).alloc (.cells #[] 3)).alloc (.cells #[] 3)).alloc (.cells #[] 3)) w.heap.size #[.slice none 0 0, .slice none 0 0] 26) := ((((((HR1.out.alloc _).alloc _).alloc _).alloc _).alloc _).alloc _)
    have HP7 : Hid (PartAt ((((((w1.alloc (.cells #[.int .i64 (A : Int), .int .i64 b, .int .i64 c, .int .i64 d] 49)).alloc (.cells #[.slice sa nd (vc - 10), .bool false] 69)).alloc (.cells #[.slice none 0 0, .slice none 0 0] 26)).alloc (.cells #[] 3)).alloc (.cells #[] 3)).alloc (.cells #[] 3)) (q + 1) ⟨D, false⟩) := by
      refine ⟨_, (((((show Blk ((w1.alloc (.cells #[.int .i64 (A : Int), .int .i64 b, .int .i64 c, .int .i64 d] 49)).alloc (.cells #[.slice sa nd (vc - 10), .bool false] 69)) (q + 1) #[.slice sa nd (vc - 10), .bool false] 69 from Blk.newAt _ _ _ _ hz1.symm).alloc _).alloc _).alloc _).alloc _), ?_, fun b off m c' e hm => ?_⟩
      · have h9 := Reads.below HB0.out.1 (Nat.le_refl _) HF7.out.below
        rw [hDl] at h9
        show BytesAt _ _ D
        unfold BytesAt
        rw [hDl]
        exact h9
      · have := HB0.out.2 b off m c' e hm; omega
    have HO7 : Hid (Blk ((((((w1.alloc (.cells #[.int .i64 (A : Int), .int .i64 b, .int .i64 c, .int .i64 d] 49)).alloc (.cells #[.slice sa nd (vc - 10), .bool false] 69)).alloc (.cells #[.slice none 0 0, .slice none 0 0] 26)).alloc (.cells #[] 3)).alloc (.cells #[] 3)).alloc (.cells #[] 3)) (q + 2) #[.slice none 0 0, .slice none 0 0] 26) := ((((show Blk (((w1.alloc (.cells #[.int .i64 (A : Int), .int .i64 b, .int .i64 c, .int .i64 d] 49)).alloc (.cells #[.slice sa nd (vc - 10), .bool false] 69)).alloc (.cells #[.slice none 0 0, .slice none 0 0] 26)) (q + 2) #[.slice none 0 0, .slice none 0 0] 26 from Blk.newAt _ _ _ _ hz2.symm).alloc _).alloc _).alloc _)
    have HT7 : Hid (Three ((((((w1.alloc (.cells #[.int .i64 (A : Int), .int .i64 b, .int .i64 c, .int .i64 d] 49)).alloc (.cells #[.slice sa nd (vc - 10), .bool false] 69)).alloc (.cells #[.slice none 0 0, .slice none 0 0] 26)).alloc (.cells #[] 3)).alloc (.cells #[] 3)).alloc (.cells #[] 3)) (q + 3) (.slice (some ⟨q + 3, 0, none⟩) 0 0) (.slice (some ⟨q + 4, 0, none⟩) 0 0) (.slice (some ⟨q + 5, 0, none⟩) 0 0) [] [] []) := by
      have r1 := World.ownsRow_lit (((w1.alloc (.cells #[.int .i64 (A : Int), .int .i64 b, .int .i64 c, .int .i64 d] 49)).alloc (.cells #[.slice sa nd (vc - 10), .bool false] 69)).alloc (.cells #[.slice none 0 0, .slice none 0 0] 26)) #[] (e := 3) (size := 1) (base := q + 3) 0 (by rw [hz3]; exact Nat.le_refl _) (Nat.zero_le _) rfl
      have r2 := World.ownsRow_lit ((((w1.alloc (.cells #[.int .i64 (A : Int), .int .i64 b, .int .i64 c, .int .i64 d] 49)).alloc (.cells #[.slice sa nd (vc - 10), .bool false] 69)).alloc (.cells #[.slice none 0 0, .slice none 0 0] 26)).alloc (.cells #[] 3)) #[] (e := 3) (size := 1) (base := q + 3) 0 (by rw [hz4]; omega) (Nat.zero_le _) rfl
      have r3 := World.ownsRow_lit (((((w1.alloc (.cells #[.int .i64 (A : Int), .int .i64 b, .int .i64 c, .int .i64 d] 49)).alloc (.cells #[.slice sa nd (vc - 10), .bool false] 69)).alloc (.cells #[.slice none 0 0, .slice none 0 0] 26)).alloc (.cells #[] 3)).alloc (.cells #[] 3)) #[] (e := 3) (size := 1) (base := q + 3) 0 (by rw [hz5]; omega) (Nat.zero_le _) rfl
      rw [hz3] at r1
      rw [hz4] at r2
      rw [hz5] at r3
      refine ⟨(World.ownsRow.alloc (World.ownsRow.alloc r1 _) _), (World.ownsRow.alloc r2 _), r3, ?_, ?_, ?_⟩
      all_goals (intro k hk hk2; simp [Value.ownBlock] at hk hk2; omega)
    clear hz1 hz2 hz3 hz4 hz5
    simp only [hq]
    generalize hw7 : ((((((w1.alloc (.cells #[.int .i64 (A : Int), .int .i64 b, .int .i64 c, .int .i64 d] 49)).alloc (.cells #[.slice sa nd (vc - 10), .bool false] 69)).alloc (.cells #[.slice none 0 0, .slice none 0 0] 26)).alloc (.cells #[] 3)).alloc (.cells #[] 3)).alloc (.cells #[] 3)) = w7 at *
    clear hw7 HF1 HR1 HB0
    have cH := HW.out.cell
    have zH := HW.out.lt
    go_wp2_with fail
    go_loopw [8, 9, 10, 40] (fun p z m i wr => ∃ (k : Nat) (L : List SecH) (rd : RdL) (oa : Option Addr) (oc : Nat), k ≤ A ∧ i = .int .i64 k ∧ L.length = k ∧ Hid ((L, rd) = manyR secR ⟨D, false⟩ k) ∧ Hid (Three wr (q + 3) p z m (L.map (·.place)) (L.map (·.size)) (L.map (·.many))) ∧ Hid (wr.ownsRow (q + 3) 52 6 (.slice oa k oc) k ((L.map secT).flatMap secL)) ∧ Hid (Blk wr (q + 2) #[.slice oa k oc, .slice none 0 0] 26) ∧ Hid (PartAt wr (q + 1) rd) ∧ Hid (Blk wr q #[.int .i64 (A : Int), .int .i64 b, .int .i64 c, .int .i64 d] 49) ∧ Hid (Blk wr w.heap.size #[.slice none 0 0, .slice none 0 0] 26) ∧ Hid (From w.heap.size w wr)) (fun _ _ _ i _ => A - (intOf i).toNat)
    case atStart => exact ⟨0, [], ⟨D, false⟩, none, 0, Nat.zero_le _, rfl, rfl, rfl, HT7, World.ownsRow_nil _ _ _ _, HO7, HP7, HW, HR7, HF7⟩
    case round =>
      clear HT7 HO7 HP7 HW HR7 HF7 cH zH
      obtain ⟨k, L, rd, oa, oc, hk, rfl, hL, HM, HT, HS, HX, HP, HH2, HR, HF⟩ := hrel
      by_cases hlt : k < A
      · have i1 : (k : Int) < (A : Int) := by omega
        have i3 : (0 : Int) ≤ (k : Int) := by omega
        obtain ⟨pa, pc, rfl⟩ := owns_form HT.out.op
        obtain ⟨za, zc, rfl⟩ := owns_form HT.out.oz
        obtain ⟨ma, mc, rfl⟩ := owns_form HT.out.om
        simp only [List.length_map, hL] at HT ⊢
        go_wp2_with fail
        refine (partNum_any _ (q + 1) 2 rd HP.out (by omega) (by omega)).mono ?_
        rintro e w8 ⟨rfl, hP, gg⟩
        have HT := Lib.hid (HT.out.keep gg (fun z hz e => by simp only [Option.some.injEq] at e; omega))
        have HS := Lib.hid (kept_row HS.out gg (fun z hz e => by have := (World.ownsRow.lt HS.out z hz).1; simp only [Option.some.injEq] at e; omega))
        have HX := Lib.hid (Blk.grown HX.out gg (fun e => by simp only [Option.some.injEq] at e; omega))
        have HH2 := Lib.hid (Blk.grown HH2.out gg (fun e => by simp only [Option.some.injEq] at e; omega))
        have HR := Lib.hid (Blk.grown HR.out gg (fun e => by simp only [Option.some.injEq] at e; omega))
        have HF := Lib.hid (HF.out.grown gg (fun z e => by simp only [Option.some.injEq] at e; omega))
        have HP := Lib.hid hP
        clear hP gg
        obtain ⟨n1, hn1⟩ : ∃ x, numR 2 rd = x := ⟨_, rfl⟩
        rw [hn1] at HP ⊢
        have Hn1 := Lib.hid hn1
        clear hn1
        have hown0 := HT.out.op
        unfold OwnI at hown0
        simp only [List.length_map, List.length_append, List.length_cons, List.length_nil, Nat.zero_add, hL] at hown0
        go_wp2_with (at_builtin; refine wpList_append_own rfl (.tmp 42) (.tmp 44) 70 70 rfl (q + 3) 3 i0 (.int .i64 0) 1 8 Try.underlying70 hi0 ia0 ia1 ia2 rfl (by decide) _ _ _ rfl (World.ownsRow.alloc hown0 _) _ 1 [_] rfl (src_new Try.underlying70 _ [_] 1 1 1 _ rfl ?c0) ?c1 ?c2 ?c3 ?_)
        case c0 => first | rfl | (intro u hu; obtain rfl := List.mem_singleton.1 hu; rfl)
        case c1 => unfold maxLen; omega
        case c2 => omega
        case c3 => first | (have := HX.out.lt; omega) | (have := HX.out.lt; simp; omega)
        intro v' w9 hown hgr hpl
        have ho : OwnI w9 (q + 3) v' (L.map (·.place) ++ [n1.1]) := by
          unfold OwnI
          have e9 : ivs [n1.1] = [Value.int .i64 n1.1] := rfl
          rw [List.length_append, ivs_append, e9]
          simpa [hL] using hown
        have hrow := (HT.out.alloc (.cells #[.int .i64 n1.1] 3)).op
        have HS := Lib.hid (owns_keptNe (World.ownsRow.alloc HS.out (.cells #[.int .i64 n1.1] 3)) hrow (by decide) hgr)
        have HX := Lib.hid (Blk.grown (HX.out.alloc (.cells #[.int .i64 n1.1] 3)) hgr (fun e => blk_apart (HX.out.alloc (.cells #[.int .i64 n1.1] 3)) hrow (by decide) e))
        have HP := Lib.hid ((HP.out.alloc (.cells #[.int .i64 n1.1] 3)).grown hgr (fun z hz => by have := (World.ownsRow.lt hrow z hz).1; omega))
        have HH2 := Lib.hid (Blk.grown (HH2.out.alloc (.cells #[.int .i64 n1.1] 3)) hgr (fun e => blk_apart (HH2.out.alloc (.cells #[.int .i64 n1.1] 3)) hrow (by decide) e))
        have HR := Lib.hid (Blk.grown (HR.out.alloc (.cells #[.int .i64 n1.1] 3)) hgr (fun e => blk_apart (HR.out.alloc (.cells #[.int .i64 n1.1] 3)) hrow (by decide) e))
        have HF := Lib.hid ((HF.out.alloc (.cells #[.int .i64 n1.1] 3)).grown hgr (fun z hz => by have := (World.ownsRow.lt hrow z hz).1; omega))
        have HT := Lib.hid (((HT.out.alloc (.cells #[.int .i64 n1.1] 3))).addP ho hgr (by simpa using hpl))
        have HT := Lib.hid (HT.out)
        obtain ⟨pa2, pc2, rfl⟩ := owns_form ho
        simp only [List.length_append, List.length_map, List.length_cons, List.length_nil, Nat.zero_add, hL] at HT ⊢
        clear hown hgr hpl ho hrow hown0
        go_wp2_with fail
        refine (partNum_any _ (q + 1) 1 n1.2 HP.out (by omega) (by omega)).mono ?_
        rintro e w10 ⟨rfl, hP, gg⟩
        have HT := Lib.hid (HT.out.keep gg (fun z hz e => by simp only [Option.some.injEq] at e; omega))
        have HS := Lib.hid (kept_row HS.out gg (fun z hz e => by have := (World.ownsRow.lt HS.out z hz).1; simp only [Option.some.injEq] at e; omega))
        have HX := Lib.hid (Blk.grown HX.out gg (fun e => by simp only [Option.some.injEq] at e; omega))
        have HH2 := Lib.hid (Blk.grown HH2.out gg (fun e => by simp only [Option.some.injEq] at e; omega))
        have HR := Lib.hid (Blk.grown HR.out gg (fun e => by simp only [Option.some.injEq] at e; omega))
        have HF := Lib.hid (HF.out.grown gg (fun z e => by simp only [Option.some.injEq] at e; omega))
        have HP := Lib.hid hP
        clear hP gg
        obtain ⟨n2, hn2⟩ : ∃ x, numR 1 n1.2 = x := ⟨_, rfl⟩
        rw [hn2] at HP ⊢
        have Hn2 := Lib.hid hn2
        clear hn2
        go_wp2_with fail
        refine (partNum_any _ (q + 1) 1 n2.2 HP.out (by omega) (by omega)).mono ?_
        rintro e w11 ⟨rfl, hP, gg⟩
        have HT := Lib.hid (HT.out.keep gg (fun z hz e => by simp only [Option.some.injEq] at e; omega))
        have HS := Lib.hid (kept_row HS.out gg (fun z hz e => by have := (World.ownsRow.lt HS.out z hz).1; simp only [Option.some.injEq] at e; omega))
        have HX := Lib.hid (Blk.grown HX.out gg (fun e => by simp only [Option.some.injEq] at e; omega))
        have HH2 := Lib.hid (Blk.grown HH2.out gg (fun e => by simp only [Option.some.injEq] at e; omega))
        have HR := Lib.hid (Blk.grown HR.out gg (fun e => by simp only [Option.some.injEq] at e; omega))
        have HF := Lib.hid (HF.out.grown gg (fun z e => by simp only [Option.some.injEq] at e; omega))
        have HP := Lib.hid hP
        clear hP gg
        obtain ⟨n3, hn3⟩ : ∃ x, numR 1 n2.2 = x := ⟨_, rfl⟩
        rw [hn3] at HP ⊢
        have Hn3 := Lib.hid hn3
        clear hn3
        go_wp2_with fail
        have HZ := Lib.hid (Blk.new w11 #[.string ⟨#[]⟩, .int .i64 n2.1, .int .i64 n3.1, .slice none 0 0, .int .i64 0, .slice none 0 0] 52)
        have gz : q + 2 < w11.heap.size := HX.out.lt
        have hZr : ∀ k', (Value.slice oa k oc).ownBlock = some k' → w11.heap.size ≠ k' := fun k' hk' e => by have := (World.ownsRow.lt HS.out k' hk').2; omega
        have HT := Lib.hid (HT.out.alloc (.cells #[.string ⟨#[]⟩, .int .i64 n2.1, .int .i64 n3.1, .slice none 0 0, .int .i64 0, .slice none 0 0] 52))
        have HS := Lib.hid (World.ownsRow.alloc HS.out (.cells #[.string ⟨#[]⟩, .int .i64 n2.1, .int .i64 n3.1, .slice none 0 0, .int .i64 0, .slice none 0 0] 52))
        have HX := Lib.hid (HX.out.alloc (.cells #[.string ⟨#[]⟩, .int .i64 n2.1, .int .i64 n3.1, .slice none 0 0, .int .i64 0, .slice none 0 0] 52))
        have HP := Lib.hid (HP.out.alloc (.cells #[.string ⟨#[]⟩, .int .i64 n2.1, .int .i64 n3.1, .slice none 0 0, .int .i64 0, .slice none 0 0] 52))
        have HH2 := Lib.hid (HH2.out.alloc (.cells #[.string ⟨#[]⟩, .int .i64 n2.1, .int .i64 n3.1, .slice none 0 0, .int .i64 0, .slice none 0 0] 52))
        have HR := Lib.hid (HR.out.alloc (.cells #[.string ⟨#[]⟩, .int .i64 n2.1, .int .i64 n3.1, .slice none 0 0, .int .i64 0, .slice none 0 0] 52))
        have HF := Lib.hid (HF.out.alloc (.cells #[.string ⟨#[]⟩, .int .i64 n2.1, .int .i64 n3.1, .slice none 0 0, .int .i64 0, .slice none 0 0] 52))
        generalize hw12 : w11.alloc (.cells #[.string ⟨#[]⟩, .int .i64 n2.1, .int .i64 n3.1, .slice none 0 0, .int .i64 0, .slice none 0 0] 52) = w12 at *
        clear hw12
        generalize w11.heap.size = z at *
        refine (partNum_any _ (q + 1) 1 n3.2 HP.out (by omega) (by omega)).mono ?_
        rintro e w13 ⟨rfl, hP, gg⟩
        have HT := Lib.hid (HT.out.keep gg (fun z hz e => by simp only [Option.some.injEq] at e; omega))
        have HS := Lib.hid (kept_row HS.out gg (fun z hz e => by have := (World.ownsRow.lt HS.out z hz).1; simp only [Option.some.injEq] at e; omega))
        have HX := Lib.hid (Blk.grown HX.out gg (fun e => by simp only [Option.some.injEq] at e; omega))
        have HH2 := Lib.hid (Blk.grown HH2.out gg (fun e => by simp only [Option.some.injEq] at e; omega))
        have HR := Lib.hid (Blk.grown HR.out gg (fun e => by simp only [Option.some.injEq] at e; omega))
        have HF := Lib.hid (HF.out.grown gg (fun z e => by simp only [Option.some.injEq] at e; omega))
        have HZ := Lib.hid (Blk.grown HZ.out gg (fun e => by simp only [Option.some.injEq] at e; omega))
        have HP := Lib.hid hP
        clear hP gg
        obtain ⟨n4, hn4⟩ : ∃ x, numR 1 n3.2 = x := ⟨_, rfl⟩
        rw [hn4] at HP ⊢
        have Hn4 := Lib.hid hn4
        clear hn4
        have hown0 := HT.out.oz
        unfold OwnI at hown0
        simp only [List.length_map, List.length_append, List.length_cons, List.length_nil, Nat.zero_add, hL] at hown0
        go_wp2_with (at_builtin; refine wpList_append_own rfl (.tmp 49) (.tmp 51) 70 70 rfl (q + 3) 3 i0 (.int .i64 0) 1 8 Try.underlying70 hi0 ia0 ia1 ia2 rfl (by decide) _ _ _ rfl (World.ownsRow.alloc hown0 _) _ 1 [_] rfl (src_new Try.underlying70 _ [_] 1 1 1 _ rfl ?c0) ?c1 ?c2 ?c3 ?_)
        case c0 => first | rfl | (intro u hu; obtain rfl := List.mem_singleton.1 hu; rfl)
        case c1 => unfold maxLen; omega
        case c2 => omega
        case c3 => first | (have := HX.out.lt; omega) | (have := HX.out.lt; simp; omega)
        intro v' w14 hown hgr hpl
        have ho : OwnI w14 (q + 3) v' (L.map (·.size) ++ [n4.1]) := by
          unfold OwnI
          have e9 : ivs [n4.1] = [Value.int .i64 n4.1] := rfl
          rw [List.length_append, ivs_append, e9]
          simpa [hL] using hown
        have hrow := (HT.out.alloc (.cells #[.int .i64 n4.1] 3)).oz
        have HS := Lib.hid (owns_keptNe (World.ownsRow.alloc HS.out (.cells #[.int .i64 n4.1] 3)) hrow (by decide) hgr)
        have HX := Lib.hid (Blk.grown (HX.out.alloc (.cells #[.int .i64 n4.1] 3)) hgr (fun e => blk_apart (HX.out.alloc (.cells #[.int .i64 n4.1] 3)) hrow (by decide) e))
        have HP := Lib.hid ((HP.out.alloc (.cells #[.int .i64 n4.1] 3)).grown hgr (fun z hz => by have := (World.ownsRow.lt hrow z hz).1; omega))
        have HH2 := Lib.hid (Blk.grown (HH2.out.alloc (.cells #[.int .i64 n4.1] 3)) hgr (fun e => blk_apart (HH2.out.alloc (.cells #[.int .i64 n4.1] 3)) hrow (by decide) e))
        have HR := Lib.hid (Blk.grown (HR.out.alloc (.cells #[.int .i64 n4.1] 3)) hgr (fun e => blk_apart (HR.out.alloc (.cells #[.int .i64 n4.1] 3)) hrow (by decide) e))
        have HF := Lib.hid ((HF.out.alloc (.cells #[.int .i64 n4.1] 3)).grown hgr (fun z hz => by have := (World.ownsRow.lt hrow z hz).1; omega))
        have HZ := Lib.hid (Blk.grown (HZ.out.alloc (.cells #[.int .i64 n4.1] 3)) hgr (fun e => blk_apart (HZ.out.alloc (.cells #[.int .i64 n4.1] 3)) hrow (by decide) e))
        have HT := Lib.hid (((HT.out.alloc (.cells #[.int .i64 n4.1] 3)).rot).addP ho hgr (by simpa using hpl))
        have HT := Lib.hid (HT.out.rot.rot)
        obtain ⟨za2, zc2, rfl⟩ := owns_form ho
        simp only [List.length_append, List.length_map, List.length_cons, List.length_nil, Nat.zero_add, hL] at HT ⊢
        clear hown hgr hpl ho hrow hown0
        go_wp2_with fail
        refine (partNum_any _ (q + 1) 1 n4.2 HP.out (by omega) (by omega)).mono ?_
        rintro e w15 ⟨rfl, hP, gg⟩
        have HT := Lib.hid (HT.out.keep gg (fun z hz e => by simp only [Option.some.injEq] at e; omega))
        have HS := Lib.hid (kept_row HS.out gg (fun z hz e => by have := (World.ownsRow.lt HS.out z hz).1; simp only [Option.some.injEq] at e; omega))
        have HX := Lib.hid (Blk.grown HX.out gg (fun e => by simp only [Option.some.injEq] at e; omega))
        have HH2 := Lib.hid (Blk.grown HH2.out gg (fun e => by simp only [Option.some.injEq] at e; omega))
        have HR := Lib.hid (Blk.grown HR.out gg (fun e => by simp only [Option.some.injEq] at e; omega))
        have HF := Lib.hid (HF.out.grown gg (fun z e => by simp only [Option.some.injEq] at e; omega))
        have HZ := Lib.hid (Blk.grown HZ.out gg (fun e => by simp only [Option.some.injEq] at e; omega))
        have HP := Lib.hid hP
        clear hP gg
        obtain ⟨n5, hn5⟩ : ∃ x, numR 1 n4.2 = x := ⟨_, rfl⟩
        rw [hn5] at HP ⊢
        have Hn5 := Lib.hid hn5
        clear hn5
        have hown0 := HT.out.om
        unfold OwnI at hown0
        simp only [List.length_map, List.length_append, List.length_cons, List.length_nil, Nat.zero_add, hL] at hown0
        go_wp2_with (at_builtin; refine wpList_append_own rfl (.tmp 53) (.tmp 55) 70 70 rfl (q + 3) 3 i0 (.int .i64 0) 1 8 Try.underlying70 hi0 ia0 ia1 ia2 rfl (by decide) _ _ _ rfl (World.ownsRow.alloc hown0 _) _ 1 [_] rfl (src_new Try.underlying70 _ [_] 1 1 1 _ rfl ?c0) ?c1 ?c2 ?c3 ?_)
        case c0 => first | rfl | (intro u hu; obtain rfl := List.mem_singleton.1 hu; rfl)
        case c1 => unfold maxLen; omega
        case c2 => omega
        case c3 => first | (have := HX.out.lt; omega) | (have := HX.out.lt; simp; omega)
        intro v' w16 hown hgr hpl
        have ho : OwnI w16 (q + 3) v' (L.map (·.many) ++ [n5.1]) := by
          unfold OwnI
          have e9 : ivs [n5.1] = [Value.int .i64 n5.1] := rfl
          rw [List.length_append, ivs_append, e9]
          simpa [hL] using hown
        have hrow := (HT.out.alloc (.cells #[.int .i64 n5.1] 3)).om
        have HS := Lib.hid (owns_keptNe (World.ownsRow.alloc HS.out (.cells #[.int .i64 n5.1] 3)) hrow (by decide) hgr)
        have HX := Lib.hid (Blk.grown (HX.out.alloc (.cells #[.int .i64 n5.1] 3)) hgr (fun e => blk_apart (HX.out.alloc (.cells #[.int .i64 n5.1] 3)) hrow (by decide) e))
        have HP := Lib.hid ((HP.out.alloc (.cells #[.int .i64 n5.1] 3)).grown hgr (fun z hz => by have := (World.ownsRow.lt hrow z hz).1; omega))
        have HH2 := Lib.hid (Blk.grown (HH2.out.alloc (.cells #[.int .i64 n5.1] 3)) hgr (fun e => blk_apart (HH2.out.alloc (.cells #[.int .i64 n5.1] 3)) hrow (by decide) e))
        have HR := Lib.hid (Blk.grown (HR.out.alloc (.cells #[.int .i64 n5.1] 3)) hgr (fun e => blk_apart (HR.out.alloc (.cells #[.int .i64 n5.1] 3)) hrow (by decide) e))
        have HF := Lib.hid ((HF.out.alloc (.cells #[.int .i64 n5.1] 3)).grown hgr (fun z hz => by have := (World.ownsRow.lt hrow z hz).1; omega))
        have HZ := Lib.hid (Blk.grown (HZ.out.alloc (.cells #[.int .i64 n5.1] 3)) hgr (fun e => blk_apart (HZ.out.alloc (.cells #[.int .i64 n5.1] 3)) hrow (by decide) e))
        have HT := Lib.hid (((HT.out.alloc (.cells #[.int .i64 n5.1] 3)).rot.rot).addP ho hgr (by simpa using hpl))
        have HT := Lib.hid (HT.out.rot)
        obtain ⟨ma2, mc2, rfl⟩ := owns_form ho
        simp only [List.length_append, List.length_map, List.length_cons, List.length_nil, Nat.zero_add, hL] at HT ⊢
        clear hown hgr hpl ho hrow hown0
        have cX := HX.out.cell
        have fX := HX.out.frozen
        have zX := HX.out.lt
        have cZ := HZ.out.cell
        have zZ := HZ.out.lt
        go_wp2_with (at_builtin; refine wpList_append_own rfl (.tmp 58) (.tmp 60) 23 23 rfl (q + 3) 52 j0 _ 6 88 Try.underlying23 hj0 ja0 ja1 ja2 rfl (by decide) _ _ _ rfl (World.ownsRow.alloc HS.out _) _ 1 [_, _, _, _, _, _] rfl (src_new Try.underlying23 _ [_, _, _, _, _, _] 6 1 1 _ rfl ?c0) ?c1 ?c2 ?c3 ?_)
        case c0 =>
          intro u hu
          simp only [List.mem_cons, List.not_mem_nil, or_false] at hu
          rcases hu with rfl | rfl | rfl | rfl | rfl | rfl <;> rfl
        case c1 => unfold maxLen; omega
        case c2 => omega
        case c3 => first | omega | (simp; omega)
        intro v' w17 hown hgr hpl
        obtain ⟨oa2, oc2, rfl⟩ := owns_form hown
        have hrow := World.ownsRow.alloc HS.out (.cells #[.string ⟨#[]⟩, .int .i64 n2.1, .int .i64 n3.1, .slice none 0 0, .int .i64 0, .slice none 0 0] 52)
        have hb : ∀ z', (Value.slice oa k oc).ownBlock = some z' → q + 3 ≤ z' := fun z' hz' => (World.ownsRow.lt HS.out z' hz').1
        have HT := Lib.hid (((HT.out.alloc (.cells #[.string ⟨#[]⟩, .int .i64 n2.1, .int .i64 n3.1, .slice none 0 0, .int .i64 0, .slice none 0 0] 52)).other hrow (by decide) hgr).keep (part_set w17 (q + 2) 0 (.slice oa2 (k + 1) oc2)) (fun z' hz e => by simp only [Option.some.injEq] at e; omega))
        have HS9 := Lib.hid (kept_row hown (part_set w17 (q + 2) 0 (.slice oa2 (k + 1) oc2)) (fun z' hz e => by have := (World.ownsRow.lt hown z' hz).1; simp only [Option.some.injEq] at e; omega))
        have HX8 := Blk.grown (HX.out.alloc (.cells #[.string ⟨#[]⟩, .int .i64 n2.1, .int .i64 n3.1, .slice none 0 0, .int .i64 0, .slice none 0 0] 52)) hgr (fun e => blk_apart (HX.out.alloc _) hrow (by decide) e)
        have HX9 : Hid (Blk (w17.setCell ⟨q + 2, 0, none⟩ (.slice oa2 (k + 1) oc2)) (q + 2) #[.slice oa2 (k + 1) oc2, .slice none 0 0] 26) := by
          show Blk _ _ _ _
          have := HX8.set (o := 0) (.slice oa2 (k + 1) oc2)
          simpa using this
        have HP9 := Lib.hid (((HP.out.alloc (.cells #[.string ⟨#[]⟩, .int .i64 n2.1, .int .i64 n3.1, .slice none 0 0, .int .i64 0, .slice none 0 0] 52)).grown hgr (fun z' hz => by have := hb z' hz; omega)).set (show q + 1 < q + 2 by omega) 0 (.slice oa2 (k + 1) oc2))
        have HH9 := Lib.hid ((Blk.grown (HH2.out.alloc (.cells #[.string ⟨#[]⟩, .int .i64 n2.1, .int .i64 n3.1, .slice none 0 0, .int .i64 0, .slice none 0 0] 52)) hgr (fun e => blk_apart (HH2.out.alloc _) hrow (by decide) e)).other (p := ⟨q + 2, 0, none⟩) (by show q + 2 ≠ q; omega) (.slice oa2 (k + 1) oc2))
        have HR9 := Lib.hid ((Blk.grown (HR.out.alloc (.cells #[.string ⟨#[]⟩, .int .i64 n2.1, .int .i64 n3.1, .slice none 0 0, .int .i64 0, .slice none 0 0] 52)) hgr (fun e => blk_apart (HR.out.alloc _) hrow (by decide) e)).other (p := ⟨q + 2, 0, none⟩) (by show q + 2 ≠ _; omega) (.slice oa2 (k + 1) oc2))
        have HF9 := Lib.hid (((HF.out.alloc (.cells #[.string ⟨#[]⟩, .int .i64 n2.1, .int .i64 n3.1, .slice none 0 0, .int .i64 0, .slice none 0 0] 52)).grown hgr (fun z' hz => by have := hb z' hz; omega)).setCell (p := ⟨q + 2, 0, none⟩) (by show _ ≤ q + 2; omega) (.slice oa2 (k + 1) oc2))
        have HM9 : Hid ((L ++ [(⟨n1.1, n2.1, n3.1, n4.1, n5.1⟩ : SecH)], n5.2) = manyR secR ⟨D, false⟩ (k + 1)) := by
          show _ = _
          unfold manyR
          rw [← HM.out]
          simp only
          unfold secR
          simp only [Hn1.out, Hn2.out, Hn3.out, Hn4.out, Hn5.out]
        have hL9 : (L ++ [(⟨n1.1, n2.1, n3.1, n4.1, n5.1⟩ : SecH)]).length = k + 1 := by simp [hL]
        have HT9 : Hid (Three (w17.setCell ⟨q + 2, 0, none⟩ (.slice oa2 (k + 1) oc2)) (q + 3) (.slice pa2 (k + 1) pc2) (.slice za2 (k + 1) zc2) (.slice ma2 (k + 1) mc2) ((L ++ [(⟨n1.1, n2.1, n3.1, n4.1, n5.1⟩ : SecH)]).map (·.place)) ((L ++ [(⟨n1.1, n2.1, n3.1, n4.1, n5.1⟩ : SecH)]).map (·.size)) ((L ++ [(⟨n1.1, n2.1, n3.1, n4.1, n5.1⟩ : SecH)]).map (·.many))) := by
          have h9 := HT.out
          simp only [List.map_append, List.map_cons, List.map_nil]
          exact h9
        have HS10 : Hid ((w17.setCell ⟨q + 2, 0, none⟩ (.slice oa2 (k + 1) oc2)).ownsRow (q + 3) 52 6 (.slice oa2 (k + 1) oc2) (k + 1) (((L ++ [(⟨n1.1, n2.1, n3.1, n4.1, n5.1⟩ : SecH)]).map secT).flatMap secL)) := by
          have h9 := HS9.out
          rw [List.map_append, List.flatMap_append]
          exact h9
        have cX := HX8.cell
        have fX := HX8.frozen
        have zX := HX8.lt
        clear hown hgr hpl hrow hb HX8 HT HS HS9 HX HP HH2 HR HF HM cZ zZ HZ
        go_wp2_with fail
        go_roundw
        case rel => exact ⟨k + 1, _, _, oa2, oc2, by omega, by go_num, hL9, HM9, HT9, HS10, HX9, HP9, HH9, HR9, HF9⟩
        case measure => simp [intOf]; try omega
      · obtain rfl : A = k := by omega
        have cH := HH2.out.cell
        have zH := HH2.out.lt
        go_wp2_with fail
        clear cH zH
        obtain ⟨C, rfl⟩ : ∃ C : Nat, b = (C : Int) := ⟨b.toNat, by have := HH.out.2.1; simp only [headerB, Bool.and_eq_true] at this; have := ((withinB_iff _ _ _).1 this.1.1.2).1; omega⟩
        have hC8 : C ≤ 1000 := by have := HH.out.2.1; simp only [headerB, Bool.and_eq_true] at this; have := ((withinB_iff _ _ _).1 this.1.1.2).2; omega
        have HY0 : Hid (wr.ownsRow (q + 3) 57 4 (.slice none 0 0) 0 (([] : List SymH).map sym0 |>.flatMap symL)) := World.ownsRow_nil _ _ _ _
        generalize hsz : Value.slice oa A oc = SO at *
        have hLA := hL
        clear hsz
        go_loopw [8, 66] (fun p i wr => ∃ (k : Nat) (Y : List SymH) (rd2 : RdL) (ya : Option Addr) (yc : Nat), k ≤ C ∧ i = .int .i64 k ∧ Y.length = k ∧ Hid ((Y, rd2) = manyR symR rd k) ∧ Hid (Three wr (q + 3) p u9 u10 (L.map (·.place) ++ Y.map (·.place)) (L.map (·.size)) (L.map (·.many))) ∧ Hid (wr.ownsRow (q + 3) 52 6 SO A ((L.map secT).flatMap secL)) ∧ Hid (wr.ownsRow (q + 3) 57 4 (.slice ya k yc) k ((Y.map sym0).flatMap symL)) ∧ Hid (Blk wr (q + 2) #[SO, .slice ya k yc] 26) ∧ Hid (PartAt wr (q + 1) rd2) ∧ Hid (Blk wr q #[.int .i64 (A : Int), .int .i64 (C : Int), .int .i64 c, .int .i64 d] 49) ∧ Hid (Blk wr w.heap.size #[.slice none 0 0, .slice none 0 0] 26) ∧ Hid (From w.heap.size w wr)) (fun _ i _ => C - (intOf i).toNat)
        case atStart => exact ⟨0, [], rd, none, 0, Nat.zero_le _, rfl, rfl, rfl, (by show Three _ _ _ _ _ _ _ _; simpa using HT.out), HS, HY0, HX, HP, HH2, HR, HF⟩
        case round =>
          clear HT HS HY0 HX HP HH2 HR HF
          obtain ⟨k, Y, rd2, ya, yc, hk, rfl, hL, HM2, HT, HS, HY, HX, HP, HH2, HR, HF⟩ := hrel
          by_cases hlt : k < C
          · have i1 : (k : Int) < (C : Int) := by omega
            have i3 : (0 : Int) ≤ (k : Int) := by omega
            obtain ⟨pa, pc, rfl⟩ := owns_form HT.out.op
            simp only [List.length_append, List.length_map, hLA, hL] at HT ⊢
            go_wp2_with fail
            refine (partNum_any _ (q + 1) 2 rd2 HP.out (by omega) (by omega)).mono ?_
            rintro e w8 ⟨rfl, hP, gg⟩
            have HT := Lib.hid (HT.out.keep gg (fun z hz e => by simp only [Option.some.injEq] at e; omega))
            have HS := Lib.hid (kept_row HS.out gg (fun z hz e => by have := (World.ownsRow.lt HS.out z hz).1; simp only [Option.some.injEq] at e; omega))
            have HY := Lib.hid (kept_row HY.out gg (fun z hz e => by have := (World.ownsRow.lt HY.out z hz).1; simp only [Option.some.injEq] at e; omega))
            have HX := Lib.hid (Blk.grown HX.out gg (fun e => by simp only [Option.some.injEq] at e; omega))
            have HH2 := Lib.hid (Blk.grown HH2.out gg (fun e => by simp only [Option.some.injEq] at e; omega))
            have HR := Lib.hid (Blk.grown HR.out gg (fun e => by simp only [Option.some.injEq] at e; omega))
            have HF := Lib.hid (HF.out.grown gg (fun z e => by simp only [Option.some.injEq] at e; omega))
            have HP := Lib.hid hP
            clear hP gg
            obtain ⟨m1, hm1⟩ : ∃ x, numR 2 rd2 = x := ⟨_, rfl⟩
            rw [hm1] at HP ⊢
            have Hm1 := Lib.hid hm1
            clear hm1
            have hown0 := HT.out.op
            unfold OwnI at hown0
            simp only [List.length_map, List.length_append, List.length_cons, List.length_nil, Nat.zero_add, hL, hLA] at hown0
            go_wp2_with (at_builtin; refine wpList_append_own rfl (.tmp 68) (.tmp 70) 70 70 rfl (q + 3) 3 i0 (.int .i64 0) 1 8 Try.underlying70 hi0 ia0 ia1 ia2 rfl (by decide) _ _ _ rfl (World.ownsRow.alloc hown0 _) _ 1 [_] rfl (src_new Try.underlying70 _ [_] 1 1 1 _ rfl ?c0) ?c1 ?c2 ?c3 ?_)
            case c0 => first | rfl | (intro u hu; obtain rfl := List.mem_singleton.1 hu; rfl)
            case c1 => unfold maxLen; omega
            case c2 => omega
            case c3 => first | (have := HX.out.lt; omega) | (have := HX.out.lt; simp; omega)
            intro v' w9 hown hgr hpl
            have ho : OwnI w9 (q + 3) v' (L.map (·.place) ++ Y.map (·.place) ++ [m1.1]) := by
              unfold OwnI
              have e9 : ivs [m1.1] = [Value.int .i64 m1.1] := rfl
              rw [List.length_append, ivs_append, e9]
              simpa [hL, hLA] using hown
            have hrow := (HT.out.alloc (.cells #[.int .i64 m1.1] 3)).op
            have HS := Lib.hid (owns_keptNe (World.ownsRow.alloc HS.out (.cells #[.int .i64 m1.1] 3)) hrow (by decide) hgr)
            have HY := Lib.hid (owns_keptNe (World.ownsRow.alloc HY.out (.cells #[.int .i64 m1.1] 3)) hrow (by decide) hgr)
            have HX := Lib.hid (Blk.grown (HX.out.alloc (.cells #[.int .i64 m1.1] 3)) hgr (fun e => blk_apart (HX.out.alloc (.cells #[.int .i64 m1.1] 3)) hrow (by decide) e))
            have HP := Lib.hid ((HP.out.alloc (.cells #[.int .i64 m1.1] 3)).grown hgr (fun z hz => by have := (World.ownsRow.lt hrow z hz).1; omega))
            have HH2 := Lib.hid (Blk.grown (HH2.out.alloc (.cells #[.int .i64 m1.1] 3)) hgr (fun e => blk_apart (HH2.out.alloc (.cells #[.int .i64 m1.1] 3)) hrow (by decide) e))
            have HR := Lib.hid (Blk.grown (HR.out.alloc (.cells #[.int .i64 m1.1] 3)) hgr (fun e => blk_apart (HR.out.alloc (.cells #[.int .i64 m1.1] 3)) hrow (by decide) e))
            have HF := Lib.hid ((HF.out.alloc (.cells #[.int .i64 m1.1] 3)).grown hgr (fun z hz => by have := (World.ownsRow.lt hrow z hz).1; omega))
            have HT := Lib.hid (((HT.out.alloc (.cells #[.int .i64 m1.1] 3))).addP ho hgr (by simpa using hpl))
            have HT := Lib.hid (HT.out)
            obtain ⟨pa2, pc2, rfl⟩ := owns_form ho
            simp only [List.length_append, List.length_map, List.length_cons, List.length_nil, Nat.zero_add, hL, hLA] at HT ⊢
            clear hown hgr hpl ho hrow hown0
            go_wp2_with fail
            refine (partNum_any _ (q + 1) 1 m1.2 HP.out (by omega) (by omega)).mono ?_
            rintro e w10 ⟨rfl, hP, gg⟩
            have HT := Lib.hid (HT.out.keep gg (fun z hz e => by simp only [Option.some.injEq] at e; omega))
            have HS := Lib.hid (kept_row HS.out gg (fun z hz e => by have := (World.ownsRow.lt HS.out z hz).1; simp only [Option.some.injEq] at e; omega))
            have HY := Lib.hid (kept_row HY.out gg (fun z hz e => by have := (World.ownsRow.lt HY.out z hz).1; simp only [Option.some.injEq] at e; omega))
            have HX := Lib.hid (Blk.grown HX.out gg (fun e => by simp only [Option.some.injEq] at e; omega))
            have HH2 := Lib.hid (Blk.grown HH2.out gg (fun e => by simp only [Option.some.injEq] at e; omega))
            have HR := Lib.hid (Blk.grown HR.out gg (fun e => by simp only [Option.some.injEq] at e; omega))
            have HF := Lib.hid (HF.out.grown gg (fun z e => by simp only [Option.some.injEq] at e; omega))
            have HP := Lib.hid hP
            clear hP gg
            obtain ⟨m2, hm2⟩ : ∃ x, numR 1 m1.2 = x := ⟨_, rfl⟩
            rw [hm2] at HP ⊢
            have Hm2 := Lib.hid hm2
            clear hm2
            go_wp2_with fail
            refine (partNum_any _ (q + 1) 1 m2.2 HP.out (by omega) (by omega)).mono ?_
            rintro e w11 ⟨rfl, hP, gg⟩
            have HT := Lib.hid (HT.out.keep gg (fun z hz e => by simp only [Option.some.injEq] at e; omega))
            have HS := Lib.hid (kept_row HS.out gg (fun z hz e => by have := (World.ownsRow.lt HS.out z hz).1; simp only [Option.some.injEq] at e; omega))
            have HY := Lib.hid (kept_row HY.out gg (fun z hz e => by have := (World.ownsRow.lt HY.out z hz).1; simp only [Option.some.injEq] at e; omega))
            have HX := Lib.hid (Blk.grown HX.out gg (fun e => by simp only [Option.some.injEq] at e; omega))
            have HH2 := Lib.hid (Blk.grown HH2.out gg (fun e => by simp only [Option.some.injEq] at e; omega))
            have HR := Lib.hid (Blk.grown HR.out gg (fun e => by simp only [Option.some.injEq] at e; omega))
            have HF := Lib.hid (HF.out.grown gg (fun z e => by simp only [Option.some.injEq] at e; omega))
            have HP := Lib.hid hP
            clear hP gg
            obtain ⟨m3, hm3⟩ : ∃ x, numR 1 m2.2 = x := ⟨_, rfl⟩
            rw [hm3] at HP ⊢
            have Hm3 := Lib.hid hm3
            clear hm3
            have hwm : IntKind.i64.wrap (m3.1 - 2) = m3.1 - 2 := by
              have e9 : m3.1 = leNum (takeR 1 m2.2).1 := by rw [← Hm3.out]; rfl
              have h8 := leNum_nonneg (takeR 1 m2.2).1
              have h9 := leNum_3 (takeR 1 m2.2).1 (by rw [takeR_length]; omega)
              exact IntWalk.i64_in _ (by omega)
            go_wp2_with fail
            have HZ := Lib.hid (Blk.new w11 #[.string ⟨#[]⟩, .int .i64 m2.1, .int .i64 (m3.1 - 2), .int .i64 0] 57)
            have gz : q + 2 < w11.heap.size := HX.out.lt
            have hZr : ∀ k', (Value.slice ya k yc).ownBlock = some k' → w11.heap.size ≠ k' := fun k' hk' e => by have := (World.ownsRow.lt HY.out k' hk').2; omega
            have HT := Lib.hid (HT.out.alloc (.cells #[.string ⟨#[]⟩, .int .i64 m2.1, .int .i64 (m3.1 - 2), .int .i64 0] 57))
            have HS := Lib.hid (World.ownsRow.alloc HS.out (.cells #[.string ⟨#[]⟩, .int .i64 m2.1, .int .i64 (m3.1 - 2), .int .i64 0] 57))
            have HY := Lib.hid (World.ownsRow.alloc HY.out (.cells #[.string ⟨#[]⟩, .int .i64 m2.1, .int .i64 (m3.1 - 2), .int .i64 0] 57))
            have HX := Lib.hid (HX.out.alloc (.cells #[.string ⟨#[]⟩, .int .i64 m2.1, .int .i64 (m3.1 - 2), .int .i64 0] 57))
            have HP := Lib.hid (HP.out.alloc (.cells #[.string ⟨#[]⟩, .int .i64 m2.1, .int .i64 (m3.1 - 2), .int .i64 0] 57))
            have HH2 := Lib.hid (HH2.out.alloc (.cells #[.string ⟨#[]⟩, .int .i64 m2.1, .int .i64 (m3.1 - 2), .int .i64 0] 57))
            have HR := Lib.hid (HR.out.alloc (.cells #[.string ⟨#[]⟩, .int .i64 m2.1, .int .i64 (m3.1 - 2), .int .i64 0] 57))
            have HF := Lib.hid (HF.out.alloc (.cells #[.string ⟨#[]⟩, .int .i64 m2.1, .int .i64 (m3.1 - 2), .int .i64 0] 57))
            generalize hw12 : w11.alloc (.cells #[.string ⟨#[]⟩, .int .i64 m2.1, .int .i64 (m3.1 - 2), .int .i64 0] 57) = w12 at *
            clear hw12 hwm
            generalize w11.heap.size = z at *
            refine (partNum_any _ (q + 1) 2 m3.2 HP.out (by omega) (by omega)).mono ?_
            rintro e w13 ⟨rfl, hP, gg⟩
            have HT := Lib.hid (HT.out.keep gg (fun z hz e => by simp only [Option.some.injEq] at e; omega))
            have HS := Lib.hid (kept_row HS.out gg (fun z hz e => by have := (World.ownsRow.lt HS.out z hz).1; simp only [Option.some.injEq] at e; omega))
            have HY := Lib.hid (kept_row HY.out gg (fun z hz e => by have := (World.ownsRow.lt HY.out z hz).1; simp only [Option.some.injEq] at e; omega))
            have HX := Lib.hid (Blk.grown HX.out gg (fun e => by simp only [Option.some.injEq] at e; omega))
            have HH2 := Lib.hid (Blk.grown HH2.out gg (fun e => by simp only [Option.some.injEq] at e; omega))
            have HR := Lib.hid (Blk.grown HR.out gg (fun e => by simp only [Option.some.injEq] at e; omega))
            have HF := Lib.hid (HF.out.grown gg (fun z e => by simp only [Option.some.injEq] at e; omega))
            have HZ := Lib.hid (Blk.grown HZ.out gg (fun e => by simp only [Option.some.injEq] at e; omega))
            have HP := Lib.hid hP
            clear hP gg
            obtain ⟨m4, hm4⟩ : ∃ x, numR 2 m3.2 = x := ⟨_, rfl⟩
            rw [hm4] at HP ⊢
            have Hm4 := Lib.hid hm4
            clear hm4
            have cZ0 := HZ.out.cell
            have fZ0 := HZ.out.frozen
            have zZ0 := HZ.out.lt
            have HT := Lib.hid (⟨row_storeB HT.out.op HZ.out (by decide) 3 (.int .i64 m4.1), row_storeB HT.out.oz HZ.out (by decide) 3 (.int .i64 m4.1), row_storeB HT.out.om HZ.out (by decide) 3 (.int .i64 m4.1), HT.out.pz, HT.out.pm, HT.out.zm⟩ : Three (w13.setCell ⟨z, 3, none⟩ (.int .i64 m4.1)) (q + 3) _ _ _ _ _ _)
            have HS := Lib.hid (row_storeB HS.out HZ.out (by decide) 3 (.int .i64 m4.1))
            have HY := Lib.hid (kept_row HY.out (part_set w13 z 3 (.int .i64 m4.1)) (fun z' hz e => hZr z' hz (by simpa using e)))
            have HX := Lib.hid (HX.out.other (p := ⟨z, 3, none⟩) (by show z ≠ _; omega) (.int .i64 m4.1))
            have HH2 := Lib.hid (HH2.out.other (p := ⟨z, 3, none⟩) (by show z ≠ _; omega) (.int .i64 m4.1))
            have HR := Lib.hid (HR.out.other (p := ⟨z, 3, none⟩) (by show z ≠ _; omega) (.int .i64 m4.1))
            have HP := Lib.hid (HP.out.set (show q + 1 < z by omega) 3 (.int .i64 m4.1))
            have HF := Lib.hid (HF.out.setCell (p := ⟨z, 3, none⟩) (by show _ ≤ z; omega) (.int .i64 m4.1))
            have hz9 : Blk (w13.setCell ⟨z, 3, none⟩ (.int .i64 m4.1)) z #[.string ⟨#[]⟩, .int .i64 m2.1, .int .i64 (m3.1 - 2), .int .i64 m4.1] 57 := by
              have := HZ.out.set (o := 3) (.int .i64 m4.1)
              simpa using this
            have HZ := Lib.hid hz9
            clear hz9
            have cZ := HZ.out.cell
            have fZ := HZ.out.frozen
            have zZ := HZ.out.lt
            have cX := HX.out.cell
            have fX := HX.out.frozen
            have zX := HX.out.lt
            have nzX : z ≠ q + 2 := by omega
            obtain ⟨y0, hy0, ya0, ya1, ya2⟩ := info_parts info_sym
            go_wp2_with (at_builtin; refine wpList_append_own rfl (.tmp 79) (.tmp 81) 24 24 rfl (q + 3) 57 y0 _ 4 40 Try.underlying24 hy0 ya0 ya1 ya2 rfl (by decide) _ _ _ rfl (World.ownsRow.alloc HY.out _) _ 1 [_, _, _, _] rfl (src_at Try.underlying24 _ [_, _, _, _] 4 1 1 _ rfl ?c0 w13.heap.size (by simp [World.setCell])) ?c1 ?c2 ?c3 ?_)
            case c0 =>
              intro u hu
              simp only [List.mem_cons, List.not_mem_nil, or_false] at hu
              rcases hu with rfl | rfl | rfl | rfl <;> rfl
            case c1 => unfold maxLen; omega
            case c2 => omega
            case c3 => first | omega | (simp; omega)
            intro v' w17 hown hgr hpl
            obtain ⟨yb2, yd2, rfl⟩ := owns_form hown
            have hrow := World.ownsRow.alloc HY.out (.cells #[.string ⟨#[]⟩, .int .i64 m2.1, .int .i64 (m3.1 - 2), .int .i64 m4.1] 57)
            have hb : ∀ z', (Value.slice ya k yc).ownBlock = some z' → q + 3 ≤ z' := fun z' hz' => (World.ownsRow.lt HY.out z' hz').1
            have HT := Lib.hid (((HT.out.alloc (.cells #[.string ⟨#[]⟩, .int .i64 m2.1, .int .i64 (m3.1 - 2), .int .i64 m4.1] 57)).other hrow (by decide) hgr).keep (part_set w17 (q + 2) 1 (.slice yb2 (k + 1) yd2)) (fun z' hz e => by simp only [Option.some.injEq] at e; omega))
            have HS9 := Lib.hid (kept_row (owns_keptNe (World.ownsRow.alloc HS.out _) hrow (by decide) hgr) (part_set w17 (q + 2) 1 (.slice yb2 (k + 1) yd2)) (fun z' hz e => by have := (World.ownsRow.lt HS.out z' hz).1; simp only [Option.some.injEq] at e; omega))
            have HY8 := Lib.hid (kept_row hown (part_set w17 (q + 2) 1 (.slice yb2 (k + 1) yd2)) (fun z' hz e => by have := (World.ownsRow.lt hown z' hz).1; simp only [Option.some.injEq] at e; omega))
            have HX8 := Blk.grown (HX.out.alloc (.cells #[.string ⟨#[]⟩, .int .i64 m2.1, .int .i64 (m3.1 - 2), .int .i64 m4.1] 57)) hgr (fun e => blk_apart (HX.out.alloc _) hrow (by decide) e)
            have HX9 : Hid (Blk (w17.setCell ⟨q + 2, 1, none⟩ (.slice yb2 (k + 1) yd2)) (q + 2) #[SO, .slice yb2 (k + 1) yd2] 26) := by
              show Blk _ _ _ _
              have := HX8.set (o := 1) (.slice yb2 (k + 1) yd2)
              simpa using this
            have HP9 := Lib.hid (((HP.out.alloc (.cells #[.string ⟨#[]⟩, .int .i64 m2.1, .int .i64 (m3.1 - 2), .int .i64 m4.1] 57)).grown hgr (fun z' hz => by have := hb z' hz; omega)).set (show q + 1 < q + 2 by omega) 1 (.slice yb2 (k + 1) yd2))
            have HH9 := Lib.hid ((Blk.grown (HH2.out.alloc (.cells #[.string ⟨#[]⟩, .int .i64 m2.1, .int .i64 (m3.1 - 2), .int .i64 m4.1] 57)) hgr (fun e => blk_apart (HH2.out.alloc _) hrow (by decide) e)).other (p := ⟨q + 2, 1, none⟩) (by show q + 2 ≠ q; omega) (.slice yb2 (k + 1) yd2))
            have HR9 := Lib.hid ((Blk.grown (HR.out.alloc (.cells #[.string ⟨#[]⟩, .int .i64 m2.1, .int .i64 (m3.1 - 2), .int .i64 m4.1] 57)) hgr (fun e => blk_apart (HR.out.alloc _) hrow (by decide) e)).other (p := ⟨q + 2, 1, none⟩) (by show q + 2 ≠ _; omega) (.slice yb2 (k + 1) yd2))
            have HF9 := Lib.hid (((HF.out.alloc (.cells #[.string ⟨#[]⟩, .int .i64 m2.1, .int .i64 (m3.1 - 2), .int .i64 m4.1] 57)).grown hgr (fun z' hz => by have := hb z' hz; omega)).setCell (p := ⟨q + 2, 1, none⟩) (by show _ ≤ q + 2; omega) (.slice yb2 (k + 1) yd2))
            have HM9 : Hid ((Y ++ [(⟨m1.1, m2.1, m3.1 - 2, m4.1⟩ : SymH)], m4.2) = manyR symR rd (k + 1)) := by
              show _ = _
              unfold manyR
              rw [← HM2.out]
              simp only
              unfold symR
              simp only [Hm1.out, Hm2.out, Hm3.out, Hm4.out]
            have hL9 : (Y ++ [(⟨m1.1, m2.1, m3.1 - 2, m4.1⟩ : SymH)]).length = k + 1 := by simp [hL]
            have HT9 : Hid (Three (w17.setCell ⟨q + 2, 1, none⟩ (.slice yb2 (k + 1) yd2)) (q + 3) (.slice pa2 (A + k + 1) pc2) u9 u10 (L.map (·.place) ++ (Y ++ [(⟨m1.1, m2.1, m3.1 - 2, m4.1⟩ : SymH)]).map (·.place)) (L.map (·.size)) (L.map (·.many))) := by
              have h9 := HT.out
              simp only [List.map_append, List.map_cons, List.map_nil]
              rw [← List.append_assoc]
              exact h9
            have HY10 : Hid ((w17.setCell ⟨q + 2, 1, none⟩ (.slice yb2 (k + 1) yd2)).ownsRow (q + 3) 57 4 (.slice yb2 (k + 1) yd2) (k + 1) (((Y ++ [(⟨m1.1, m2.1, m3.1 - 2, m4.1⟩ : SymH)]).map sym0).flatMap symL)) := by
              have h9 := HY8.out
              rw [List.map_append, List.flatMap_append]
              exact h9
            have cX := HX8.cell
            have fX := HX8.frozen
            have zX := HX8.lt
            clear hown hgr hpl hrow hb HX8 HT HS HY HY8 HX HP HH2 HR HF HM2 cZ fZ zZ HZ cZ0 fZ0 zZ0
            go_wp2_with fail
            go_roundw
            case rel => exact ⟨k + 1, _, _, yb2, yd2, by omega, by go_num, hL9, HM9, HT9, HS9, HY10, HX9, HP9, HH9, HR9, HF9⟩
            case measure => simp [intOf]; try omega
          · obtain rfl : C = k := by omega
            have hLr : Hid (∀ x ∈ L, (0 ≤ x.size ∧ x.size < 16777216) ∧ 0 ≤ x.many ∧ x.many < 16777216) := by
              show ∀ x ∈ L, _
              have h9 := secH_range ⟨D, false⟩ A
              rw [← HM.out] at h9
              exact h9
            obtain ⟨so, sc, rfl⟩ := owns_form HS.out
            obtain ⟨pa, pc, rfl⟩ := owns_form HT.out.op
            obtain ⟨za, zc, rfl⟩ := owns_form HT.out.oz
            obtain ⟨ma, mc, rfl⟩ := owns_form HT.out.om
            simp only [List.length_append, List.length_map, hLA, hL] at HT ⊢
            have HS0 := Lib.hid (secs_fresh HS.out hLA)
            have HFA0 : Hid (((([] : List (SecD × Value × Value)) ++ L.map secT).map (·.1), rd2) = fixAll (L.map (·.many)) (L.map sec0) rd2 0) := by
              show _ = _
              unfold fixAll
              simp [secT, Function.comp]
            have hR0 : ∀ x ∈ L.map secT, x.1.fix = [] := fun x hx => by
              obtain ⟨y, -, rfl⟩ := List.mem_map.1 hx
              rfl
            obtain ⟨x0, hx0, xa0, xa1, xa2⟩ := info_parts info_fix
            clear HS
            go_wp2_with fail
            go_loopw [87] (fun i wr => ∃ (k : Nat) (DS RS : List (SecD × Value × Value)) (rd3 : RdL), k ≤ A ∧ i = .int .i64 (k : Int) ∧ DS.length = k ∧ DS.length + RS.length = A ∧ (∀ x ∈ RS, x.1.fix = []) ∧ Hid (((DS ++ RS).map (·.1), rd3) = fixAll (L.map (·.many)) (L.map sec0) rd2 k) ∧ Hid (OwnSecs wr (q + 3) (.slice so A sc) (DS ++ RS)) ∧ Hid (Three wr (q + 3) (.slice pa (A + C) pc) (.slice za A zc) (.slice ma A mc) (L.map (·.place) ++ Y.map (·.place)) (L.map (·.size)) (L.map (·.many))) ∧ Hid (wr.ownsRow (q + 3) 57 4 (.slice ya C yc) C ((Y.map sym0).flatMap symL)) ∧ Hid (Blk wr (q + 2) #[.slice so A sc, .slice ya C yc] 26) ∧ Hid (PartAt wr (q + 1) rd3) ∧ Hid (Blk wr q #[.int .i64 (A : Int), .int .i64 (C : Int), .int .i64 c, .int .i64 d] 49) ∧ Hid (Blk wr w.heap.size #[.slice none 0 0, .slice none 0 0] 26) ∧ Hid (From w.heap.size w wr)) (fun i _ => A - (intOf i).toNat)
            case atStart => exact ⟨0, [], L.map secT, rd2, Nat.zero_le _, rfl, rfl, by simp [hLA], hR0, HFA0, HS0, HT, HY, HX, HP, HH2, HR, HF⟩
            case round =>
              clear HT HS0 HY HX HP HH2 HR HF HFA0 hR0
              obtain ⟨k, DS, RS, rd3, hk, rfl, hDk, hDR, hRS, HFA, HS, HT, HY, HX, HP, HH2, HR, HF⟩ := hrel
              by_cases hlt : k < A
              · obtain ⟨x, RT, rfl⟩ : ∃ x RT, RS = x :: RT := by
                  cases RS with
                  | nil => simp at hDR; omega
                  | cons x RT => exact ⟨x, RT, rfl⟩
                have hxf := hRS x (List.mem_cons_self ..)
                obtain ⟨⟨xn, xk, xl, xb, xs, xf⟩, vb, vf0⟩ := x
                simp only at hxf
                subst hxf
                obtain ⟨pg, pg2, hpv⟩ := row_some HS.out.row (by intro e; simp only [Value.slice.injEq] at e; omega)
                simp only [Value.slice.injEq] at hpv
                obtain ⟨rfl, -, rfl⟩ := hpv
                obtain ⟨mg, mg2, hmv⟩ := row_some HT.out.om (by intro e; simp only [Value.slice.injEq] at e; omega)
                simp only [Value.slice.injEq] at hmv
                obtain ⟨rfl, -, rfl⟩ := hmv
                have hkL : k < L.length := by omega
                obtain ⟨nm, hnm⟩ : ∃ nm : Nat, L[k].many = (nm : Int) := ⟨_, (Int.toNat_of_nonneg (hLr.out _ (List.getElem_mem hkL)).2.1).symm⟩
                have hn8 : nm < 16777216 := by have := (hLr.out _ (List.getElem_mem hkL)).2.2; omega
                have hcm : wr.cell? ⟨mg, k, none⟩ = some (.int .i64 (nm : Int)) := ints_cell HT.out.om (by simp [hLA]) (by rw [List.getElem?_map, List.getElem?_eq_getElem hkL, Option.map_some, hnm])
                have HNM : Hid ((L.map (·.many)).getD k 0 = (nm : Int)) := by
                  show _ = _
                  rw [List.getD_eq_getElem?_getD, List.getElem?_map, List.getElem?_eq_getElem hkL, Option.map_some, hnm]
                  rfl
                have HLN : Hid (A = (DS ++ ((⟨xn, xk, xl, xb, xs, []⟩ : SecD), vb, vf0) :: RT).length) := by show _ = _; rw [List.length_append]; omega
                have i1 : (k : Int) < (A : Int) := by omega
                have i3 : (0 : Int) ≤ (k : Int) := by omega
                have HDR := Lib.hid hDR
                have HDK := Lib.hid hDk
                clear hnm hDR hDk
                go_wp2_with fail
                clear hcm
                go_loopw [93] (fun i wr => ∃ (j : Nat) (F : List FixD) (rd4 : RdL) (vf : Value), j ≤ nm ∧ i = .int .i64 (j : Int) ∧ F.length = j ∧ Hid ((F, rd4) = manyR fixR rd3 j) ∧ Hid (OwnSecs wr (q + 3) (.slice (some ⟨pg, 0, none⟩) A sc) (DS ++ ((⟨xn, xk, xl, xb, xs, F⟩ : SecD), vb, vf) :: RT)) ∧ Hid (Three wr (q + 3) (.slice pa (A + C) pc) (.slice za A zc) (.slice (some ⟨mg, 0, none⟩) A mc) (L.map (·.place) ++ Y.map (·.place)) (L.map (·.size)) (L.map (·.many))) ∧ Hid (wr.ownsRow (q + 3) 57 4 (.slice ya C yc) C ((Y.map sym0).flatMap symL)) ∧ Hid (Blk wr (q + 2) #[.slice (some ⟨pg, 0, none⟩) A sc, .slice ya C yc] 26) ∧ Hid (PartAt wr (q + 1) rd4) ∧ Hid (Blk wr q #[.int .i64 (A : Int), .int .i64 (C : Int), .int .i64 c, .int .i64 d] 49) ∧ Hid (Blk wr w.heap.size #[.slice none 0 0, .slice none 0 0] 26) ∧ Hid (From w.heap.size w wr)) (fun i _ => nm - (intOf i).toNat)
                case atStart => exact ⟨0, [], rd3, vf0, Nat.zero_le _, rfl, rfl, rfl, HS, HT, HY, HX, HP, HH2, HR, HF⟩
                case round =>
                  clear HT HS HY HX HP HH2 HR HF
                  obtain ⟨j, F, rd4, vf, hj, rfl, hFj, HFM, HS, HT, HY, HX, HP, HH2, HR, HF⟩ := hrel
                  by_cases hlt2 : j < nm
                  · have i4 : (j : Int) < (nm : Int) := by omega
                    have i5 : (0 : Int) ≤ (j : Int) := by omega
                    go_wp2_with fail
                    refine (partNum_any _ (q + 1) 1 rd4 HP.out (by omega) (by omega)).mono ?_
                    rintro e w8 ⟨rfl, hP, gg⟩
                    have HT := Lib.hid (HT.out.keep gg (fun z hz e => by simp only [Option.some.injEq] at e; omega))
                    have HS := Lib.hid (HS.out.drawn gg (by omega))
                    have HY := Lib.hid (kept_row HY.out gg (fun z hz e => by have := (World.ownsRow.lt HY.out z hz).1; simp only [Option.some.injEq] at e; omega))
                    have HX := Lib.hid (Blk.grown HX.out gg (fun e => by simp only [Option.some.injEq] at e; omega))
                    have HH2 := Lib.hid (Blk.grown HH2.out gg (fun e => by simp only [Option.some.injEq] at e; omega))
                    have HR := Lib.hid (Blk.grown HR.out gg (fun e => by simp only [Option.some.injEq] at e; omega))
                    have HF := Lib.hid (HF.out.grown gg (fun z e => by simp only [Option.some.injEq] at e; omega))
                    have HP := Lib.hid hP
                    clear hP gg
                    obtain ⟨f1, hf1⟩ : ∃ x, numR 1 rd4 = x := ⟨_, rfl⟩
                    rw [hf1] at HP ⊢
                    have Hf1 := Lib.hid hf1
                    clear hf1
                    go_wp2_with fail
                    refine (partNum_any _ (q + 1) 1 f1.2 HP.out (by omega) (by omega)).mono ?_
                    rintro e w9 ⟨rfl, hP, gg⟩
                    have HT := Lib.hid (HT.out.keep gg (fun z hz e => by simp only [Option.some.injEq] at e; omega))
                    have HS := Lib.hid (HS.out.drawn gg (by omega))
                    have HY := Lib.hid (kept_row HY.out gg (fun z hz e => by have := (World.ownsRow.lt HY.out z hz).1; simp only [Option.some.injEq] at e; omega))
                    have HX := Lib.hid (Blk.grown HX.out gg (fun e => by simp only [Option.some.injEq] at e; omega))
                    have HH2 := Lib.hid (Blk.grown HH2.out gg (fun e => by simp only [Option.some.injEq] at e; omega))
                    have HR := Lib.hid (Blk.grown HR.out gg (fun e => by simp only [Option.some.injEq] at e; omega))
                    have HF := Lib.hid (HF.out.grown gg (fun z e => by simp only [Option.some.injEq] at e; omega))
                    have HP := Lib.hid hP
                    clear hP gg
                    obtain ⟨f2, hf2⟩ : ∃ x, numR 1 f1.2 = x := ⟨_, rfl⟩
                    rw [hf2] at HP ⊢
                    have Hf2 := Lib.hid hf2
                    clear hf2
                    go_wp2_with fail
                    refine (partNum_any _ (q + 1) 1 f2.2 HP.out (by omega) (by omega)).mono ?_
                    rintro e w10 ⟨rfl, hP, gg⟩
                    have HT := Lib.hid (HT.out.keep gg (fun z hz e => by simp only [Option.some.injEq] at e; omega))
                    have HS := Lib.hid (HS.out.drawn gg (by omega))
                    have HY := Lib.hid (kept_row HY.out gg (fun z hz e => by have := (World.ownsRow.lt HY.out z hz).1; simp only [Option.some.injEq] at e; omega))
                    have HX := Lib.hid (Blk.grown HX.out gg (fun e => by simp only [Option.some.injEq] at e; omega))
                    have HH2 := Lib.hid (Blk.grown HH2.out gg (fun e => by simp only [Option.some.injEq] at e; omega))
                    have HR := Lib.hid (Blk.grown HR.out gg (fun e => by simp only [Option.some.injEq] at e; omega))
                    have HF := Lib.hid (HF.out.grown gg (fun z e => by simp only [Option.some.injEq] at e; omega))
                    have HP := Lib.hid hP
                    clear hP gg
                    obtain ⟨f3, hf3⟩ : ∃ x, numR 1 f2.2 = x := ⟨_, rfl⟩
                    rw [hf3] at HP ⊢
                    have Hf3 := Lib.hid hf3
                    clear hf3
                    go_wp2_with fail
                    have HZ := Lib.hid (Blk.new w10 #[.int .i64 f1.1, .int .i64 f2.1, .int .i64 f3.1, .int .i64 0] 59)
                    have gz : q + 2 < w10.heap.size := HX.out.lt
                    have hZs : ∀ k' ∈ (Value.slice (some ⟨pg, 0, none⟩) A sc).ownBlock.toList ++ blksOf (DS ++ ((⟨xn, xk, xl, xb, xs, F⟩ : SecD), vb, vf) :: RT), k' ≠ w10.heap.size := fun k' hk' e => by have := (HS.out.lt k' hk').2; omega
                    have HT := Lib.hid (HT.out.alloc (.cells #[.int .i64 f1.1, .int .i64 f2.1, .int .i64 f3.1, .int .i64 0] 59))
                    have HS := Lib.hid (HS.out.alloc (.cells #[.int .i64 f1.1, .int .i64 f2.1, .int .i64 f3.1, .int .i64 0] 59))
                    have HY := Lib.hid (World.ownsRow.alloc HY.out (.cells #[.int .i64 f1.1, .int .i64 f2.1, .int .i64 f3.1, .int .i64 0] 59))
                    have HX := Lib.hid (HX.out.alloc (.cells #[.int .i64 f1.1, .int .i64 f2.1, .int .i64 f3.1, .int .i64 0] 59))
                    have HP := Lib.hid (HP.out.alloc (.cells #[.int .i64 f1.1, .int .i64 f2.1, .int .i64 f3.1, .int .i64 0] 59))
                    have HH2 := Lib.hid (HH2.out.alloc (.cells #[.int .i64 f1.1, .int .i64 f2.1, .int .i64 f3.1, .int .i64 0] 59))
                    have HR := Lib.hid (HR.out.alloc (.cells #[.int .i64 f1.1, .int .i64 f2.1, .int .i64 f3.1, .int .i64 0] 59))
                    have HF := Lib.hid (HF.out.alloc (.cells #[.int .i64 f1.1, .int .i64 f2.1, .int .i64 f3.1, .int .i64 0] 59))
                    generalize hw12 : w10.alloc (.cells #[.int .i64 f1.1, .int .i64 f2.1, .int .i64 f3.1, .int .i64 0] 59) = w12 at *
                    clear hw12
                    generalize w10.heap.size = z at *
                    refine (partNum_any _ (q + 1) 2 f3.2 HP.out (by omega) (by omega)).mono ?_
                    rintro e w13 ⟨rfl, hP, gg⟩
                    have HT := Lib.hid (HT.out.keep gg (fun z hz e => by simp only [Option.some.injEq] at e; omega))
                    have HS := Lib.hid (HS.out.drawn gg (by omega))
                    have HY := Lib.hid (kept_row HY.out gg (fun z hz e => by have := (World.ownsRow.lt HY.out z hz).1; simp only [Option.some.injEq] at e; omega))
                    have HX := Lib.hid (Blk.grown HX.out gg (fun e => by simp only [Option.some.injEq] at e; omega))
                    have HH2 := Lib.hid (Blk.grown HH2.out gg (fun e => by simp only [Option.some.injEq] at e; omega))
                    have HR := Lib.hid (Blk.grown HR.out gg (fun e => by simp only [Option.some.injEq] at e; omega))
                    have HF := Lib.hid (HF.out.grown gg (fun z e => by simp only [Option.some.injEq] at e; omega))
                    have HZ := Lib.hid (Blk.grown HZ.out gg (fun e => by simp only [Option.some.injEq] at e; omega))
                    have HP := Lib.hid hP
                    clear hP gg
                    obtain ⟨f4, hf4⟩ : ∃ x, numR 2 f3.2 = x := ⟨_, rfl⟩
                    rw [hf4] at HP ⊢
                    have Hf4 := Lib.hid hf4
                    clear hf4
                    have hwm : IntKind.i64.wrap (f4.1 - 1000) = f4.1 - 1000 := by
                      have h9 := numR_range (n := 2) (by omega) f3.2
                      rw [Hf4.out] at h9
                      exact IntWalk.i64_in _ (by omega)
                    have cZ0 := HZ.out.cell
                    have fZ0 := HZ.out.frozen
                    have zZ0 := HZ.out.lt
                    have hoz : Other [z] w13 (w13.setCell ⟨z, 3, none⟩ (.int .i64 (f4.1 - 1000))) := Other.setCell (p := ⟨z, 3, none⟩) (by simp) _
                    have HT := Lib.hid (HT.out.oth hoz (fun v n xs h k' hk' hm => blk_apart HZ.out h (by decide) (by rw [hk', List.mem_singleton.1 hm])))
                    have HS := Lib.hid (HS.out.other hoz (fun k' hk' hm => hZs k' hk' (List.mem_singleton.1 hm)))
                    have HY := Lib.hid (row_storeB HY.out HZ.out (by decide) 3 (.int .i64 (f4.1 - 1000)))
                    have HX := Lib.hid (HX.out.other (p := ⟨z, 3, none⟩) (by show z ≠ _; omega) (.int .i64 (f4.1 - 1000)))
                    have HH2 := Lib.hid (HH2.out.other (p := ⟨z, 3, none⟩) (by show z ≠ _; omega) (.int .i64 (f4.1 - 1000)))
                    have HR := Lib.hid (HR.out.other (p := ⟨z, 3, none⟩) (by show z ≠ _; omega) (.int .i64 (f4.1 - 1000)))
                    have HP := Lib.hid (HP.out.set (show q + 1 < z by omega) 3 (.int .i64 (f4.1 - 1000)))
                    have HF := Lib.hid (HF.out.setCell (p := ⟨z, 3, none⟩) (by show _ ≤ z; omega) (.int .i64 (f4.1 - 1000)))
                    have hz9 : Blk (w13.setCell ⟨z, 3, none⟩ (.int .i64 (f4.1 - 1000))) z #[.int .i64 f1.1, .int .i64 f2.1, .int .i64 f3.1, .int .i64 (f4.1 - 1000)] 59 := by
                      have := HZ.out.set (o := 3) (.int .i64 (f4.1 - 1000))
                      simpa using this
                    have HZ := Lib.hid hz9
                    clear hz9 hoz
                    go_wp2_with fail
                    clear cZ0 fZ0 zZ0 hwm
                    generalize hW : w13.setCell ⟨z, 3, none⟩ (.int .i64 (f4.1 - 1000)) = W at *
                    clear hW
                    obtain ⟨fa, fc, rfl⟩ : ∃ fa fc, vf = .slice fa j fc := by
                      have h9 := owns_form (HS.out.each _ (by simp : ((⟨xn, xk, xl, xb, xs, F⟩ : SecD), vb, vf) ∈ (DS ++ ((⟨xn, xk, xl, xb, xs, F⟩ : SecD), vb, vf) :: RT))).2
                      rw [hFj] at h9
                      exact h9
                    have hm := HS.out.each _ (by simp : ((⟨xn, xk, xl, xb, xs, F⟩ : SecD), vb, Value.slice fa j fc) ∈ (DS ++ ((⟨xn, xk, xl, xb, xs, F⟩ : SecD), vb, Value.slice fa j fc) :: RT))
                    have hmf : W.ownsRow (q + 3) 59 4 (.slice fa j fc) j (fixCells F) := by have h9 := hm.2; unfold OwnF at h9; simp only [hFj] at h9; exact h9
                    have hl0 := HS.out.lt
                    have hpgl := (hl0 pg (by simp [Value.ownBlock]))
                    have hln2 : Hid (A = (DS ++ ((⟨xn, xk, xl, xb, xs, F⟩ : SecD), vb, Value.slice fa j fc) :: RT).length) := by show _ = _; have hln := HLN.out; rw [List.length_append] at hln ⊢; exact hln
                    have hc5 : W.cell? ⟨pg, k * 6 + 5, none⟩ = some (.slice fa j fc) := by
                      have h9 := HS.out.cell hln2.out 5 _ rfl
                      rw [HDK.out] at h9
                      exact h9
                    have hvb : ∀ k' ∈ (Value.slice fa j fc).ownBlock.toList, q + 3 ≤ k' := fun k' hk' => (World.ownsRow.lt hmf k' (by simpa using hk')).1
                    have hq2 : q + 2 ∉ (Value.slice fa j fc).ownBlock.toList := fun h9 => by have := hvb _ h9; omega
                    have HMF := Lib.hid hmf
                    have HC5 := Lib.hid hc5
                    have HVB := Lib.hid hvb
                    clear hm hmf hl0 hc5 hvb hZs
                    let f0 : Nat → Value := fun i => match i with
                      | 0 => .pointer (some ⟨q + 2, 0, none⟩)
                      | 1 => .slice (some ⟨pg, 0, none⟩) A sc
                      | 2 => .int .i64 (k : Int)
                      | 3 => .pointer (some ⟨q + 2, 0, none⟩)
                      | 4 => .slice (some ⟨pg, 0, none⟩) A sc
                      | 5 => .int .i64 (k : Int)
                      | 6 => .pointer (some ⟨pg, k * 6, none⟩)
                      | 7 => .pointer (some ⟨pg, k * 6 + 5, none⟩)
                      | 8 => .slice fa j fc
                      | 9 => .agg #[.int .i64 f1.1, .int .i64 f2.1, .int .i64 f3.1, .int .i64 (f4.1 - 1000)]
                      | 12 => .pointer (some ⟨pg, k * 6, none⟩)
                      | 13 => .pointer (some ⟨pg, k * 6 + 5, none⟩)
                      | _ => undef
                    let Mid : World → Value → Prop := fun u v' => Other (Value.slice fa j fc).ownBlock.toList W u ∧ OwnF u (q + 3) v' (F ++ [(f1.1, f2.1, f3.1, f4.1 - 1000)]) ∧ ∀ k', v'.ownBlock = some k' → (Value.slice fa j fc).ownBlock = some k' ∨ W.heap.size ≤ k'
                    refine wp_region_get (fun i v u => (i = 10 → ∃ z', v = .slice (some ⟨z', 0, none⟩) 1 1 ∧ Blk u z' #[.int .i64 f1.1, .int .i64 f2.1, .int .i64 f3.1, .int .i64 (f4.1 - 1000)] 59) ∧ (i = 11 → Mid u v) ∧ (i ≠ 10 → i ≠ 11 → v = f0 i))
                      (fun _ f u => (f 11 = false → Below W.heap.size W u) ∧ (f 14 = false → Other (Value.slice fa j fc).ownBlock.toList W u) ∧ (f 14 = true → ∃ v' u1, u = u1.setCell ⟨pg, k * 6 + 5, none⟩ v' ∧ Mid u1 v'))
                      [[], [0], [], [], [3], [], [4, 5], [6], [7], [], [9], [8, 10], [1, 2], [12], [11, 13]] [[], [0], [], [], [3], [], [3, 4, 5], [3, 4, 5, 6], [3, 4, 5, 6, 7], [], [9], [3, 4, 5, 6, 7, 8, 9, 10], [0, 1, 2, 3, 4, 5, 6, 7, 8, 9, 10, 11], [0, 1, 2, 3, 4, 5, 6, 7, 8, 9, 10, 11, 12], [0, 1, 2, 3, 4, 5, 6, 7, 8, 9, 10, 11, 12, 13]] [] (by kernel_rfl) (by kernel_rfl) (by kernel_rfl) (by kernel_rfl) (by kernel_rfl)
                      ⟨fun _ => ((From.start W).drew).below, fun _ => Other.below ((From.start W).drew).below, fun h => by cases h⟩ ?ho ?hq
                    case ho =>
                      refine ⟨?_, ?_, ?_, ?_, ?_, ?_, ?_, ?_, ?_, ?_, ?_, ?_, ?_, ?_, ?_, trivial⟩
                      · intro n f a9 u K' hfr hn hl hS hv hK'
                        have eA8 : a9.tmps.getD 7 undef = .pointer (some ⟨q + 2, 0, none⟩) := hfr 7 (no_dst (by kernel_rfl))
                        have eB8 : (a9.tmps[7]?).getD undef = .pointer (some ⟨q + 2, 0, none⟩) := by simpa using eA8
                        refine owe_run rfl (wp_val (v := .pointer (some ⟨q + 2, 0, none⟩)) ?_ (hK' _ _ ⟨fun h => hS.1 (setl_off h), fun h => hS.2.1 (setl_off h), fun h => hS.2.2 (by rwa [setl_ne (by decide)] at h)⟩ (fun _ _ _ h => h) (fun _ => ⟨fun e => absurd e (by decide), fun e => absurd e (by decide), fun _ _ => rfl⟩)))
                        first
                          | (go_simp; done)
                          | (go_simp; rfl)
                      · intro n f a9 u K' hfr hn hl hS hv hK'
                        have eA0 : a9.tmps.getD 102 undef = .pointer (some ⟨q + 2, 0, none⟩) := hv.1.2.2 (by decide) (by decide)
                        have eB0 : (a9.tmps[102]?).getD undef = .pointer (some ⟨q + 2, 0, none⟩) := by simpa using eA0
                        have ho9 := hS.2.1 (hl.2.2 14 (by decide))
                        have cu := (HX.out.otherB ho9 hq2).cell
                        refine owe_run rfl (wp_val (v := .slice (some ⟨pg, 0, none⟩) A sc) ?_ (hK' _ _ ⟨fun h => hS.1 (setl_off h), fun h => hS.2.1 (setl_off h), fun h => hS.2.2 (by rwa [setl_ne (by decide)] at h)⟩ (fun _ _ _ h => h) (fun _ => ⟨fun e => absurd e (by decide), fun e => absurd e (by decide), fun _ _ => rfl⟩)))
                        first
                          | (go_simp; done)
                          | (go_simp; rfl)
                      · intro n f a9 u K' hfr hn hl hS hv hK'
                        have eA8 : a9.tmps.getD 13 undef = .int .i64 (k : Int) := hfr 13 (no_dst (by kernel_rfl))
                        have eB8 : (a9.tmps[13]?).getD undef = .int .i64 (k : Int) := by simpa using eA8
                        refine owe_run rfl (wp_val (v := .int .i64 (k : Int)) ?_ (hK' _ _ ⟨fun h => hS.1 (setl_off h), fun h => hS.2.1 (setl_off h), fun h => hS.2.2 (by rwa [setl_ne (by decide)] at h)⟩ (fun _ _ _ h => h) (fun _ => ⟨fun e => absurd e (by decide), fun e => absurd e (by decide), fun _ _ => rfl⟩)))
                        first
                          | (go_simp; done)
                          | (go_simp; rfl)
                      · intro n f a9 u K' hfr hn hl hS hv hK'
                        have eA8 : a9.tmps.getD 7 undef = .pointer (some ⟨q + 2, 0, none⟩) := hfr 7 (no_dst (by kernel_rfl))
                        have eB8 : (a9.tmps[7]?).getD undef = .pointer (some ⟨q + 2, 0, none⟩) := by simpa using eA8
                        refine owe_run rfl (wp_val (v := .pointer (some ⟨q + 2, 0, none⟩)) ?_ (hK' _ _ ⟨fun h => hS.1 (setl_off h), fun h => hS.2.1 (setl_off h), fun h => hS.2.2 (by rwa [setl_ne (by decide)] at h)⟩ (fun _ _ _ h => h) (fun _ => ⟨fun e => absurd e (by decide), fun e => absurd e (by decide), fun _ _ => rfl⟩)))
                        first
                          | (go_simp; done)
                          | (go_simp; rfl)
                      · intro n f a9 u K' hfr hn hl hS hv hK'
                        have eA0 : a9.tmps.getD 105 undef = .pointer (some ⟨q + 2, 0, none⟩) := hv.1.2.2 (by decide) (by decide)
                        have eB0 : (a9.tmps[105]?).getD undef = .pointer (some ⟨q + 2, 0, none⟩) := by simpa using eA0
                        have ho9 := hS.2.1 (hl.2.2 14 (by decide))
                        have cu := (HX.out.otherB ho9 hq2).cell
                        refine owe_run rfl (wp_val (v := .slice (some ⟨pg, 0, none⟩) A sc) ?_ (hK' _ _ ⟨fun h => hS.1 (setl_off h), fun h => hS.2.1 (setl_off h), fun h => hS.2.2 (by rwa [setl_ne (by decide)] at h)⟩ (fun _ _ _ h => h) (fun _ => ⟨fun e => absurd e (by decide), fun e => absurd e (by decide), fun _ _ => rfl⟩)))
                        first
                          | (go_simp; done)
                          | (go_simp; rfl)
                      · intro n f a9 u K' hfr hn hl hS hv hK'
                        have eA8 : a9.tmps.getD 13 undef = .int .i64 (k : Int) := hfr 13 (no_dst (by kernel_rfl))
                        have eB8 : (a9.tmps[13]?).getD undef = .int .i64 (k : Int) := by simpa using eA8
                        refine owe_run rfl (wp_val (v := .int .i64 (k : Int)) ?_ (hK' _ _ ⟨fun h => hS.1 (setl_off h), fun h => hS.2.1 (setl_off h), fun h => hS.2.2 (by rwa [setl_ne (by decide)] at h)⟩ (fun _ _ _ h => h) (fun _ => ⟨fun e => absurd e (by decide), fun e => absurd e (by decide), fun _ _ => rfl⟩)))
                        first
                          | (go_simp; done)
                          | (go_simp; rfl)
                      · intro n f a9 u K' hfr hn hl hS hv hK'
                        have eA0 : a9.tmps.getD 106 undef = .slice (some ⟨pg, 0, none⟩) A sc := hv.1.2.2 (by decide) (by decide)
                        have eB0 : (a9.tmps[106]?).getD undef = .slice (some ⟨pg, 0, none⟩) A sc := by simpa using eA0
                        have eA1 : a9.tmps.getD 107 undef = .int .i64 (k : Int) := hv.2.1.2.2 (by decide) (by decide)
                        have eB1 : (a9.tmps[107]?).getD undef = .int .i64 (k : Int) := by simpa using eA1
                        refine owe_run rfl (wp_val (v := .pointer (some ⟨pg, k * 6, none⟩)) ?_ (hK' _ _ ⟨fun h => hS.1 (setl_off h), fun h => hS.2.1 (setl_off h), fun h => hS.2.2 (by rwa [setl_ne (by decide)] at h)⟩ (fun _ _ _ h => h) (fun _ => ⟨fun e => absurd e (by decide), fun e => absurd e (by decide), fun _ _ => rfl⟩)))
                        first
                          | (go_simp; done)
                          | (go_simp; rfl)
                      · intro n f a9 u K' hfr hn hl hS hv hK'
                        have eA0 : a9.tmps.getD 108 undef = .pointer (some ⟨pg, k * 6, none⟩) := hv.1.2.2 (by decide) (by decide)
                        have eB0 : (a9.tmps[108]?).getD undef = .pointer (some ⟨pg, k * 6, none⟩) := by simpa using eA0
                        refine owe_run rfl (wp_val (v := .pointer (some ⟨pg, k * 6 + 5, none⟩)) ?_ (hK' _ _ ⟨fun h => hS.1 (setl_off h), fun h => hS.2.1 (setl_off h), fun h => hS.2.2 (by rwa [setl_ne (by decide)] at h)⟩ (fun _ _ _ h => h) (fun _ => ⟨fun e => absurd e (by decide), fun e => absurd e (by decide), fun _ _ => rfl⟩)))
                        first
                          | (go_simp; done)
                          | (go_simp; rfl)
                      · intro n f a9 u K' hfr hn hl hS hv hK'
                        have eA0 : a9.tmps.getD 109 undef = .pointer (some ⟨pg, k * 6 + 5, none⟩) := hv.1.2.2 (by decide) (by decide)
                        have eB0 : (a9.tmps[109]?).getD undef = .pointer (some ⟨pg, k * 6 + 5, none⟩) := by simpa using eA0
                        have hb9 := hS.1 (hl.2.2 11 (by decide))
                        have cu : u.cell? ⟨pg, k * 6 + 5, none⟩ = some (.slice fa j fc) := by rw [hb9.cell (p := ⟨pg, k * 6 + 5, none⟩) hpgl.2]; exact HC5.out
                        refine owe_run rfl (wp_val (v := .slice fa j fc) ?_ (hK' _ _ ⟨fun h => hS.1 (setl_off h), fun h => hS.2.1 (setl_off h), fun h => hS.2.2 (by rwa [setl_ne (by decide)] at h)⟩ (fun _ _ _ h => h) (fun _ => ⟨fun e => absurd e (by decide), fun e => absurd e (by decide), fun _ _ => rfl⟩)))
                        first
                          | (go_simp; done)
                          | (go_simp; rfl)
                      · intro n f a9 u K' hfr hn hl hS hv hK'
                        have eA8 : a9.tmps.getD 15 undef = .pointer (some ⟨z, 0, none⟩) := hfr 15 (no_dst (by kernel_rfl))
                        have eB8 : (a9.tmps[15]?).getD undef = .pointer (some ⟨z, 0, none⟩) := by simpa using eA8
                        have hb9 := hS.1 (hl.2.2 11 (by decide))
                        have cu := (HZ.out.call hb9).cell
                        refine owe_run rfl (wp_val (v := .agg #[.int .i64 f1.1, .int .i64 f2.1, .int .i64 f3.1, .int .i64 (f4.1 - 1000)]) ?_ (hK' _ _ ⟨fun h => hS.1 (setl_off h), fun h => hS.2.1 (setl_off h), fun h => hS.2.2 (by rwa [setl_ne (by decide)] at h)⟩ (fun _ _ _ h => h) (fun _ => ⟨fun e => absurd e (by decide), fun e => absurd e (by decide), fun _ _ => rfl⟩)))
                        first
                          | (go_simp; done)
                          | (go_simp; rfl)
                      · intro n f a9 u K' hfr hn hl hS hv hK'
                        have eA0 : a9.tmps.getD 111 undef = .agg #[.int .i64 f1.1, .int .i64 f2.1, .int .i64 f3.1, .int .i64 (f4.1 - 1000)] := hv.1.2.2 (by decide) (by decide)
                        have eB0 : (a9.tmps[111]?).getD undef = .agg #[.int .i64 f1.1, .int .i64 f2.1, .int .i64 f3.1, .int .i64 (f4.1 - 1000)] := by simpa using eA0
                        have k1 : Below u.heap.size u (u.alloc (.cells #[.int .i64 f1.1, .int .i64 f2.1, .int .i64 f3.1, .int .i64 (f4.1 - 1000)] 59)) := ((From.start u).alloc _).below
                        refine owe_run rfl (wp_val (v := .slice (some ⟨u.heap.size, 0, none⟩) 1 1) (w' := u.alloc (.cells #[.int .i64 f1.1, .int .i64 f2.1, .int .i64 f3.1, .int .i64 (f4.1 - 1000)] 59)) ?_ (hK' _ _ ⟨fun h => (have hb := hS.1 (setl_off h); ((⟨hb, hb.size⟩ : From _ W u).alloc _).below), fun h => (hS.2.1 (setl_off h)).trans (Other.below k1), fun h => (by rw [setl_ne (by decide), hl.2.2 14 (by decide)] at h; cases h)⟩ (fun j y hj h => ⟨fun e => (have ⟨z, e1, e2⟩ := h.1 e; ⟨z, e1, e2.call k1⟩), fun e => by subst e; exact absurd hj (by decide), h.2.2⟩) (fun _ => ⟨fun _ => ⟨_, rfl, Blk.new u _ _⟩, fun e => absurd e (by decide), fun e _ => absurd rfl e⟩)))
                        first
                          | (go_simp; done)
                          | (go_simp; rfl)
                      · intro n f a9 u K' hfr hn hl hS hv hK'
                        have eA0 : a9.tmps.getD 110 undef = .slice fa j fc := hv.1.2.2 (by decide) (by decide)
                        obtain ⟨z', e8, hz8⟩ := hv.2.1.1 rfl
                        have hb9 := hS.1 hl.1
                        have hown := owns_call HMF.out hb9
                        have ho9 := hS.2.1 (hl.2.2 14 (by decide))
                        have hxl := HX.out.lt
                        have hsz := hb9.size
                        refine step_append_new rfl (.tmp 110) (.tmp 112) 50 50 rfl (q + 3) 59 x0 _ 4 32 Try.underlying50 hx0 xa0 xa1 xa2 rfl (by decide) _ _ _ eA0 hown _ 1 (fixL (f1.1, f2.1, f3.1, f4.1 - 1000)) e8 (src_blk Try.underlying50 u z' (fixL (f1.1, f2.1, f3.1, f4.1 - 1000)) 4 1 1 59 hz8 rfl (by intro u hu; simp only [fixL, List.mem_cons, List.not_mem_nil, or_false] at hu; rcases hu with rfl | rfl | rfl | rfl <;> rfl)) (by unfold maxLen; omega) (by omega) (by omega) ?_
                        intro v' w1 hown1 hgr1 hpl
                        have hmid : Mid w1 v' := ⟨ho9.trans (Other.grown hgr1 (fun k' hk' => by simpa using hk')), fix_snoc (by rw [hFj]; exact hown1), fun k' hk' => by
                          rcases hpl with e | e
                          · exact .inl (e ▸ hk')
                          · rw [e] at hk'; simp only [Option.some.injEq] at hk'; right; omega⟩
                        exact hK' _ _ ⟨fun h => (by rw [setl_at] at h; cases h), fun _ => hmid.1, fun h => (by rw [setl_ne (by decide), hl.2.2 14 (by decide)] at h; cases h)⟩ (fun j y hj h => ⟨fun e => by subst e; exact absurd hj (by decide), fun e => by subst e; exact absurd hj (by decide), h.2.2⟩) (fun _ => ⟨fun e => absurd e (by decide), fun _ => hmid, fun _ e => absurd rfl e⟩)
                      · intro n f a9 u K' hfr hn hl hS hv hK'
                        have eA0 : a9.tmps.getD 103 undef = .slice (some ⟨pg, 0, none⟩) A sc := hv.1.2.2 (by decide) (by decide)
                        have eB0 : (a9.tmps[103]?).getD undef = .slice (some ⟨pg, 0, none⟩) A sc := by simpa using eA0
                        have eA1 : a9.tmps.getD 104 undef = .int .i64 (k : Int) := hv.2.1.2.2 (by decide) (by decide)
                        have eB1 : (a9.tmps[104]?).getD undef = .int .i64 (k : Int) := by simpa using eA1
                        refine owe_run rfl (wp_val (v := .pointer (some ⟨pg, k * 6, none⟩)) ?_ (hK' _ _ ⟨fun h => hS.1 (setl_off h), fun h => hS.2.1 (setl_off h), fun h => hS.2.2 (by rwa [setl_ne (by decide)] at h)⟩ (fun _ _ _ h => h) (fun _ => ⟨fun e => absurd e (by decide), fun e => absurd e (by decide), fun _ _ => rfl⟩)))
                        first
                          | (go_simp; done)
                          | (go_simp; rfl)
                      · intro n f a9 u K' hfr hn hl hS hv hK'
                        have eA0 : a9.tmps.getD 114 undef = .pointer (some ⟨pg, k * 6, none⟩) := hv.1.2.2 (by decide) (by decide)
                        have eB0 : (a9.tmps[114]?).getD undef = .pointer (some ⟨pg, k * 6, none⟩) := by simpa using eA0
                        refine owe_run rfl (wp_val (v := .pointer (some ⟨pg, k * 6 + 5, none⟩)) ?_ (hK' _ _ ⟨fun h => hS.1 (setl_off h), fun h => hS.2.1 (setl_off h), fun h => hS.2.2 (by rwa [setl_ne (by decide)] at h)⟩ (fun _ _ _ h => h) (fun _ => ⟨fun e => absurd e (by decide), fun e => absurd e (by decide), fun _ _ => rfl⟩)))
                        first
                          | (go_simp; done)
                          | (go_simp; rfl)
                      · intro n f a9 u K' hfr hn hl hS hv hK'
                        have hmid := hv.1.2.1 rfl
                        have eA1 : a9.tmps.getD 115 undef = .pointer (some ⟨pg, k * 6 + 5, none⟩) := hv.2.1.2.2 (by decide) (by decide)
                        have eB1 : (a9.tmps[115]?).getD undef = .pointer (some ⟨pg, k * 6 + 5, none⟩) := by simpa using eA1
                        obtain ⟨v', hv'⟩ : ∃ v', (a9.tmps[113]?).getD undef = v' := ⟨_, rfl⟩
                        have e9 : a9.tmps.getD 113 undef = v' := by rw [← hv']; simp
                        rw [e9] at hmid
                        obtain ⟨va9, vc9, e10⟩ : ∃ va9 vc9, v' = .slice va9 (F ++ [((f1.1, f2.1, f3.1, f4.1 - 1000) : FixD)]).length vc9 := owns_form hmid.2.1
                        subst e10
                        have hrow := (HS.out.addFix hln2.out hmid.1 hmid.2.1 hmid.2.2).2
                        have cq := World.ownsRow.cellAt hrow (k * 6 + 5) (by omega)
                        have cq2 : u.cell? ⟨pg, k * 6 + 5, none⟩ = some (.slice fa j fc) := by
                          rw [cq, ← HDK.out]
                          exact flat_at secL 6 secL_length _ _ _ _ (by decide)
                        have fq := World.ownsRow.frozenAt hrow (k * 6 + 5)
                        clear cq
                        refine owe_run rfl (wp_skp (w' := u.setCell ⟨pg, k * 6 + 5, none⟩ (.slice va9 (F ++ [((f1.1, f2.1, f3.1, f4.1 - 1000) : FixD)]).length vc9)) ?_ (hK' undef _ ⟨fun h => (by rw [setl_ne (by decide), hl.2.1 11 (by decide)] at h; cases h), fun h => (by rw [setl_at] at h; cases h), fun _ => ⟨_, u, rfl, hmid⟩⟩ (fun j y hj h => ⟨fun e => by subst e; exact absurd hj (by decide), fun e => by subst e; exact absurd hj (by decide), h.2.2⟩) (fun h => absurd rfl h)))
                        first
                          | (go_simp; done)
                          | (go_simp; rfl)
                    case hq =>
                      intro gg9 u hS hv
                      clear hv f0
                      obtain ⟨v', u1, rfl, ho9, hf9, hp9⟩ := hS.2.2 (by decide)
                      clear hS Mid
                      have HS9 := Lib.hid (HS.out.addFix hln2.out ho9 hf9 hp9).1
                      rw [HDK.out] at HS9
                      have hos := other_set ho9 pg (k * 6 + 5) v'
                      have hge : ∀ k' ∈ pg :: (Value.slice fa j fc).ownBlock.toList, q + 3 ≤ k' := fun k' hk' => by
                        rcases List.mem_cons.1 hk' with rfl | hk'
                        · exact hpgl.1
                        · exact HVB.out k' hk'
                      have HT9 := Lib.hid (HT.out.oth hos (fun v n xs h k' hk' hm => by
                        rcases List.mem_cons.1 hm with rfl | hm
                        · exact owns_ne h HS.out.row (by decide) _ hk' rfl
                        · exact owns_ne h HMF.out (by decide) k' hk' (by simpa using hm)))
                      have HY9 := Lib.hid (owns_other HY.out hos (fun k' hk' hm => by
                        rcases List.mem_cons.1 hm with rfl | hm
                        · exact owns_ne HY.out HS.out.row (by decide) _ hk' rfl
                        · exact owns_ne HY.out HMF.out (by decide) k' hk' (by simpa using hm)))
                      have HX9 := Lib.hid (HX.out.otherB hos (fun e => by have := hge _ e; omega))
                      have HP9 := Lib.hid (HP.out.oth hos (fun k' hk' => by have := hge k' hk'; omega))
                      have HH9 := Lib.hid (HH2.out.otherB hos (fun e => by have := hge _ e; omega))
                      have HR9 := Lib.hid (HR.out.otherB hos (fun e => by have := hge _ e; omega))
                      have HF9 := Lib.hid (HF.out.other hos (fun k' hk' => by have := hge k' hk'; omega))
                      have HFM9 : Hid ((F ++ [(f1.1, f2.1, f3.1, f4.1 - 1000)], f4.2) = manyR fixR rd3 (j + 1)) := by
                        show _ = _
                        unfold manyR
                        rw [← HFM.out]
                        simp only
                        unfold fixR
                        simp only [Hf1.out, Hf2.out, Hf3.out, Hf4.out]
                      have hF9 : Hid ((F ++ [((f1.1, f2.1, f3.1, f4.1 - 1000) : FixD)]).length = j + 1) := by show _ = _; simp [hFj]
                      clear hFj hge hos ho9 hf9 hp9 HS HT HY HX HP HH2 HR HF HFM HZ HMF HC5 HVB
                      simp only [List.map, putG, List.setIfInBounds_toArray, List.set_cons_succ, List.set_cons_zero]
                      go_wp2_with fail
                      go_roundw
                      case rel => exact ⟨j + 1, _, _, v', by omega, by go_num, hF9.out, HFM9, HS9, HT9, HY9, HX9, HP9, HH9, HR9, HF9⟩
                      case measure => simp [intOf]; try omega
                  · obtain rfl : nm = j := by omega
                    have HFA9 : Hid (((DS ++ [((⟨xn, xk, xl, xb, xs, F⟩ : SecD), vb, vf)] ++ RT).map (·.1), rd4) = fixAll (L.map (·.many)) (L.map sec0) rd2 (k + 1)) := by
                      show _ = _
                      unfold fixAll
                      rw [← HFA.out]
                      simp only [List.map_append, List.map_cons]
                      rw [fixIn_many k _ _ _ (by simp [HDK.out]), HNM.out, Int.toNat_natCast, ← HFM.out]
                      simp
                    have HS9 : Hid (OwnSecs wr (q + 3) (.slice (some ⟨pg, 0, none⟩) A sc) (DS ++ [((⟨xn, xk, xl, xb, xs, F⟩ : SecD), vb, vf)] ++ RT)) := by
                      show OwnSecs _ _ _ _
                      have h9 := HS.out
                      rw [List.append_assoc]
                      exact h9
                    have hD9 : Hid ((DS ++ [((⟨xn, xk, xl, xb, xs, F⟩ : SecD), vb, vf)]).length = k + 1) := by show _ = _; simp [HDK.out]
                    have hDR9 : Hid ((DS ++ [((⟨xn, xk, xl, xb, xs, F⟩ : SecD), vb, vf)]).length + RT.length = A) := by show _ = _; have hDR := HDR.out; simp at hDR ⊢; omega
                    clear HS HFA HFM hFj
                    go_wp2_with fail
                    go_roundw
                    case rel => exact ⟨k + 1, _, _, _, by omega, by go_num, hD9.out, hDR9.out, fun y hy => hRS y (List.mem_cons_of_mem _ hy), HFA9, HS9, HT, HY, HX, HP, HH2, HR, HF⟩
                    case measure => simp [intOf]; try omega
              · obtain rfl : A = k := by omega
                obtain rfl : RS = [] := List.eq_nil_of_length_eq_zero (by omega)
                simp only [List.append_nil] at HFA HS
                obtain ⟨dn, rfl⟩ : ∃ dn : Nat, d = (dn : Int) := ⟨d.toNat, by have := HH.out.2.1; simp only [headerB, Bool.and_eq_true] at this; have := ((withinB_iff _ _ _).1 this.2).1; omega⟩
                have hd4 : dn ≤ 400 := by have := HH.out.2.1; simp only [headerB, Bool.and_eq_true] at this; have := ((withinB_iff _ _ _).1 this.2).2; omega
                have HDA := Lib.hid hDk
                have cH := HH2.out.cell
                have zH := HH2.out.lt
                clear hDR hRS hDk
                go_wp2_with fail
                have hlS := HS.out.lt
                have hlY := World.ownsRow.lt HY.out
                obtain ⟨N0, hN0⟩ : ∃ N0, wr.heap.size = N0 := ⟨_, rfl⟩
                rw [hN0] at hlS hlY
                have hso : Hid (∀ g, so = some ⟨g, 0, none⟩ → q + 3 ≤ g ∧ g < N0) := fun g e => hlS g (by rw [e]; simp [Value.ownBlock])
                have hyo : Hid (∀ g, ya = some ⟨g, 0, none⟩ → q + 3 ≤ g ∧ g < N0) := fun g e => hlY g (by rw [e]; simp [Value.ownBlock])
                clear hlS hlY cH zH
                refine (partTake_any _ (q + 1) dn rd3 HP.out (by omega)).mono ?_
                rintro e w6 ⟨r, rfl, hTb, hTn, hP, gg⟩
                rw [hN0] at hTn
                clear hN0
                have HT := Lib.hid (HT.out.keep gg (fun z hz e => by simp only [Option.some.injEq] at e; omega))
                have HS := Lib.hid (HS.out.drawn gg (by omega))
                have HY := Lib.hid (kept_row HY.out gg (fun z hz e => by have := (World.ownsRow.lt HY.out z hz).1; simp only [Option.some.injEq] at e; omega))
                have HX := Lib.hid (Blk.grown HX.out gg (fun e => by simp only [Option.some.injEq] at e; omega))
                have HH2 := Lib.hid (Blk.grown HH2.out gg (fun e => by simp only [Option.some.injEq] at e; omega))
                have HR := Lib.hid (Blk.grown HR.out gg (fun e => by simp only [Option.some.injEq] at e; omega))
                have HF := Lib.hid (HF.out.grown gg (fun z e => by simp only [Option.some.injEq] at e; omega))
                have HP := Lib.hid hP
                have hTl := takeR_length dn rd3
                obtain ⟨T, hT⟩ : ∃ T, (takeR dn rd3).1 = T := ⟨_, rfl⟩
                obtain ⟨rd4, hr4⟩ : ∃ s, (takeR dn rd3).2 = s := ⟨_, rfl⟩
                rw [hT] at hTb hTl
                rw [hr4] at HP
                obtain ⟨ra, rc, rfl, -⟩ := hTb.form
                rw [hTl] at hTb hTn
                have HTK : Hid (takeR dn rd3 = (T, rd4)) := by show _ = _; rw [← hT, ← hr4]
                have HTL := Lib.hid hTl
                have HTB : Hid (BytesAt w6 (.slice ra dn rc) T) := hTb
                have HTN := Lib.hid hTn
                rw [hTl]
                clear hP gg hT hr4 hTl hTb hTn
                have HNM0 : Hid ((DS.map (·.1), Y.map sym0) = nmAll T (L.map (·.place) ++ Y.map (·.place)) A (DS.map (·.1)) (Y.map sym0) 0) := rfl
                go_wp2_with fail
                go_loopw [123] (fun i wr => ∃ (k : Nat) (LS : List (SecD × Value × Value)) (YS : List SymD), k ≤ A + C ∧ i = .int .i64 (k : Int) ∧ Hid (LS.length = A) ∧ Hid (YS.length = C) ∧ Hid ((LS.map (·.1), YS) = nmAll T (L.map (·.place) ++ Y.map (·.place)) A (DS.map (·.1)) (Y.map sym0) k) ∧ Hid (OwnSecs wr (q + 3) (.slice so A sc) LS) ∧ Hid (Three wr (q + 3) (.slice pa (A + C) pc) (.slice za A zc) (.slice ma A mc) (L.map (·.place) ++ Y.map (·.place)) (L.map (·.size)) (L.map (·.many))) ∧ Hid (wr.ownsRow (q + 3) 57 4 (.slice ya C yc) C (YS.flatMap symL)) ∧ Hid (Blk wr (q + 2) #[.slice so A sc, .slice ya C yc] 26) ∧ Hid (PartAt wr (q + 1) rd4) ∧ Hid (Blk wr q #[.int .i64 (A : Int), .int .i64 (C : Int), .int .i64 c, .int .i64 (dn : Int)] 49) ∧ Hid (Blk wr w.heap.size #[.slice none 0 0, .slice none 0 0] 26) ∧ Hid (From w.heap.size w wr) ∧ Hid (BytesAt wr (.slice ra dn rc) T)) (fun i _ => A + C - (intOf i).toNat)
                case atStart => exact ⟨0, DS, Y.map sym0, Nat.zero_le _, rfl, HDA, by show _ = _; simp [hL], HNM0, HS, HT, HY, HX, HP, HH2, HR, HF, HTB⟩
                case round =>
                  clear HT HS HY HX HP HH2 HR HF HTB HNM0
                  obtain ⟨k, LS, YS, hk, rfl, HLS, HYS, HNM, HS, HT, HY, HX, HP, HH2, HR, HF, HTB⟩ := hrel
                  by_cases hlt : k < A + C
                  · have i1 : (k : Int) < (A : Int) + (C : Int) := by omega
                    have i3 : (0 : Int) ≤ (k : Int) := by omega
                    have hPl : (L.map (·.place) ++ Y.map (·.place)).length = A + C := by simp [hLA, hL]
                    have hkP : k < (L.map (·.place) ++ Y.map (·.place)).length := by omega
                    obtain ⟨pv, hpv⟩ : ∃ pv, (L.map (·.place) ++ Y.map (·.place))[k]'hkP = pv := ⟨_, rfl⟩
                    have hpg : (L.map (·.place) ++ Y.map (·.place))[k]? = some pv := by rw [List.getElem?_eq_getElem hkP, hpv]
                    have HPV : Hid ((L.map (·.place) ++ Y.map (·.place)).getD k 0 = pv) := by show _ = _; rw [List.getD_eq_getElem?_getD, hpg]; rfl
                    obtain ⟨pp, pp2, hppv⟩ := row_some HT.out.op (by intro e; simp only [Value.slice.injEq] at e; omega)
                    simp only [Value.slice.injEq] at hppv
                    obtain ⟨rfl, -, rfl⟩ := hppv
                    have hcp : wr.cell? ⟨pp, k, none⟩ = some (.int .i64 pv) := ints_cell HT.out.op hPl hpg
                    clear hpv hpg hkP hPl
                    go_wp2_with fail
                    clear hcp
                    refine (i_NameAt _ (.slice ra dn rc) T HTB.out pv).mono ?_
                    rintro e w7 ⟨rfl, rfl⟩
                    unfold optV
                    obtain ⟨nme, hnme⟩ : ∃ s : ByteArray, (⟨((nameAtL T pv).getD []).toArray⟩ : ByteArray) = s := ⟨_, rfl⟩
                    obtain ⟨okb, hokb⟩ : ∃ s : Bool, (nameAtL T pv).isSome = s := ⟨_, rfl⟩
                    rw [hnme, hokb]
                    have HNE : Hid (nameOf T pv = nme) := hnme
                    clear hnme hokb
                    have cH := HH2.out.cell
                    have zH := HH2.out.lt
                    have cX := HX.out.cell
                    have zX := HX.out.lt
                    by_cases hkA : k < A
                    · have i6 : (k : Int) < (A : Int) := by omega
                      obtain ⟨DA, x, RA, rfl, hDA⟩ : ∃ DA x RA, LS = DA ++ x :: RA ∧ DA.length = k := by
                        have hk9 : k < LS.length := by rw [HLS.out]; exact hkA
                        exact ⟨LS.take k, LS[k], LS.drop (k + 1), by rw [← List.drop_eq_getElem_cons hk9, List.take_append_drop], by rw [List.length_take]; omega⟩
                      obtain ⟨pg, pg2, hpgv⟩ := row_some HS.out.row (by intro e; simp only [Value.slice.injEq] at e; omega)
                      simp only [Value.slice.injEq] at hpgv
                      obtain ⟨rfl, -, rfl⟩ := hpgv
                      have hpgl := hso.out pg rfl
                      have c0 := HS.out.cell HLS.out.symm 0 (.string x.1.name) rfl
                      have f0 := World.ownsRow.frozenAt (HLS.out ▸ HS.out.row) (k * 6)
                      rw [hDA, Nat.add_zero] at c0
                      have hos : Other [pg] wr (wr.setCell ⟨pg, k * 6, none⟩ (.string nme)) := Other.setCell (p := ⟨pg, k * 6, none⟩) (by simp) _
                      have hrow := HS.out.row
                      have HS9 : Hid (OwnSecs (wr.setCell ⟨pg, k * 6, none⟩ (.string nme)) (q + 3) (.slice (some ⟨pg, 0, none⟩) A sc) (DA ++ (putNm nme x.1, x.2) :: RA)) := by
                        show OwnSecs _ _ _ _
                        have h9 := HS.out.put HLS.out.symm (putNm nme x.1, x.2) 0 (.string nme) (by decide) rfl rfl rfl rfl
                        rw [hDA, Nat.add_zero] at h9
                        exact h9
                      have HT9 := Lib.hid (HT.out.oth hos (fun v n xs h k' hk' hm => by
                        obtain rfl := List.mem_singleton.1 hm
                        exact owns_ne h hrow (by decide) _ hk' rfl))
                      have HY9 := Lib.hid (owns_other HY.out hos (fun k' hk' hm => by
                        obtain rfl := List.mem_singleton.1 hm
                        exact owns_ne HY.out hrow (by decide) _ hk' rfl))
                      have HX9 := Lib.hid (HX.out.otherB hos (fun e => by have := List.mem_singleton.1 e; omega))
                      have HP9 := Lib.hid (HP.out.oth hos (fun k' hk' => by have := List.mem_singleton.1 hk'; omega))
                      have HH9 := Lib.hid (HH2.out.otherB hos (fun e => by have := List.mem_singleton.1 e; omega))
                      have HR9 := Lib.hid (HR.out.otherB hos (fun e => by have := List.mem_singleton.1 e; omega))
                      have HF9 := Lib.hid (HF.out.other hos (fun k' hk' => by have := List.mem_singleton.1 hk'; omega))
                      have HTB9 : Hid (BytesAt (wr.setCell ⟨pg, k * 6, none⟩ (.string nme)) (.slice ra dn rc) T) := by
                        show BytesAt _ _ _
                        have h9 := HTB.out
                        unfold BytesAt at h9 ⊢
                        rw [HTL.out] at h9 ⊢
                        exact Reads.oth h9 hos (fun b off n c' e hn hm => by have := HTN.out b off n c' e hn; have := List.mem_singleton.1 hm; omega)
                      have HLS9 : Hid ((DA ++ (putNm nme x.1, x.2) :: RA).length = A) := by show _ = _; rw [← HLS.out]; simp
                      have HNM9 : Hid (((DA ++ (putNm nme x.1, x.2) :: RA).map (·.1), YS) = nmAll T (L.map (·.place) ++ Y.map (·.place)) A (DS.map (·.1)) (Y.map sym0) (k + 1)) := by
                        show _ = _
                        unfold nmAll
                        rw [if_pos hkA, ← HNM.out]
                        simp only [List.map_append, List.map_cons]
                        rw [HPV.out, HNE.out, upd_at _ _ _ k (by simp [hDA])]
                      clear hos hrow hDA HS HT HY HX HP HH2 HR HF HTB HLS HNM HPV HNE
                      go_wp2_with fail
                      go_roundw
                      case rel => exact ⟨k + 1, _, YS, by omega, by go_num, HLS9, HYS, HNM9, HS9, HT9, HY9, HX9, HP9, HH9, HR9, HF9, HTB9⟩
                      case measure => simp [intOf]; try omega
                    · obtain ⟨m, rfl⟩ : ∃ m, k = A + m := ⟨k - A, by omega⟩
                      have hmC : m < C := by omega
                      have i6 : ¬ (((A + m : Nat) : Int) < (A : Int)) := by omega
                      have i7 : ¬ ((A : Int) + (m : Int) < (A : Int)) := by omega
                      have i8 : (m : Int) < (C : Int) := by omega
                      have i9 : (0 : Int) ≤ (m : Int) := by omega
                      have hw1 : IntKind.i64.wrap (((A + m : Nat) : Int) - (A : Int)) = (m : Int) := by rw [IntWalk.i64_in _ (by omega)]; omega
                      have hw2 : IntKind.i64.wrap ((A : Int) + (m : Int) - (A : Int)) = (m : Int) := by rw [IntWalk.i64_in _ (by omega)]; omega
                      obtain ⟨y, hy⟩ : ∃ y, YS[m]? = some y := ⟨_, List.getElem?_eq_getElem (by rw [HYS.out]; exact hmC)⟩
                      obtain ⟨yg, yg2, hygv⟩ := row_some HY.out (by intro e; simp only [Value.slice.injEq] at e; omega)
                      simp only [Value.slice.injEq] at hygv
                      obtain ⟨rfl, -, rfl⟩ := hygv
                      have hygl := hyo.out yg rfl
                      have c0 : wr.cell? ⟨yg, m * 4, none⟩ = some (.string y.name) := by
                        rw [World.ownsRow.cellAt HY.out (m * 4) (by omega)]
                        exact rows_at symL 4 symL_length hy 0 (by decide)
                      have f0 := World.ownsRow.frozenAt HY.out (m * 4)
                      have hos : Other [yg] wr (wr.setCell ⟨yg, m * 4, none⟩ (.string nme)) := Other.setCell (p := ⟨yg, m * 4, none⟩) (by simp) _
                      have hrow := HY.out
                      have HY9 : Hid ((wr.setCell ⟨yg, m * 4, none⟩ (.string nme)).ownsRow (q + 3) 57 4 (.slice (some ⟨yg, 0, none⟩) C yc) C ((YS.set m (putNmY nme y)).flatMap symL)) := by
                        show World.ownsRow _ _ _ _ _ _ _
                        have h9 := (World.ownsRow.stored HY.out (m * 4) (.string nme)).1
                        have h8 := rows_set symL 4 symL_length hy (x' := putNmY nme y) 0 (.string nme) (by decide) rfl
                        rw [Nat.add_zero] at h8
                        rw [h8] at h9
                        exact h9
                      have HS9 := Lib.hid (HS.out.other hos (fun k' hk' hm => by
                        obtain rfl := List.mem_singleton.1 hm
                        exact secs_row_ne HS.out hrow (by decide) (by decide) (by decide) _ rfl hk'))
                      have HT9 := Lib.hid (HT.out.oth hos (fun v n xs h k' hk' hm => by
                        obtain rfl := List.mem_singleton.1 hm
                        exact owns_ne h hrow (by decide) _ hk' rfl))
                      have HX9 := Lib.hid (HX.out.otherB hos (fun e => by have := List.mem_singleton.1 e; omega))
                      have HP9 := Lib.hid (HP.out.oth hos (fun k' hk' => by have := List.mem_singleton.1 hk'; omega))
                      have HH9 := Lib.hid (HH2.out.otherB hos (fun e => by have := List.mem_singleton.1 e; omega))
                      have HR9 := Lib.hid (HR.out.otherB hos (fun e => by have := List.mem_singleton.1 e; omega))
                      have HF9 := Lib.hid (HF.out.other hos (fun k' hk' => by have := List.mem_singleton.1 hk'; omega))
                      have HTB9 : Hid (BytesAt (wr.setCell ⟨yg, m * 4, none⟩ (.string nme)) (.slice ra dn rc) T) := by
                        show BytesAt _ _ _
                        have h9 := HTB.out
                        unfold BytesAt at h9 ⊢
                        rw [HTL.out] at h9 ⊢
                        exact Reads.oth h9 hos (fun b off n c' e hn hm => by have := HTN.out b off n c' e hn; have := List.mem_singleton.1 hm; omega)
                      have HYS9 : Hid ((YS.set m (putNmY nme y)).length = C) := by show _ = _; rw [List.length_set]; exact HYS.out
                      have HNM9 : Hid ((LS.map (·.1), YS.set m (putNmY nme y)) = nmAll T (L.map (·.place) ++ Y.map (·.place)) A (DS.map (·.1)) (Y.map sym0) (A + m + 1)) := by
                        show _ = _
                        unfold nmAll
                        rw [if_neg (by omega), ← HNM.out]
                        simp only
                        rw [HPV.out, HNE.out, show A + m - A = m by omega, upd_some hy]
                      clear hos hrow hy HS HT HY HX HP HH2 HR HF HTB HYS HNM HPV HNE
                      go_wp2_with fail
                      go_roundw
                      case rel => exact ⟨A + m + 1, LS, _, by omega, by go_num, HLS, HYS9, HNM9, HS9, HT9, HY9, HX9, HP9, HH9, HR9, HF9, HTB9⟩
                      case measure => simp [intOf]; try omega
                  · obtain rfl : k = A + C := by omega
                    obtain ⟨S2, hS2⟩ : ∃ S2, LS.map (·.1) = S2 := ⟨_, rfl⟩
                    have HS2 := Lib.hid hS2
                    rw [hS2] at HNM
                    have HBA0 : Hid ((LS.map (·.1), rd4) = bytAll (L.map (·.size)) S2 rd4 0) := by show _ = _; rw [hS2]; rfl
                    have HF' := Lib.hid HF.out
                    clear hS2 HTB
                    go_wp2_with fail
                    go_loopw [156] (fun i wr => ∃ (k : Nat) (LS : List (SecD × Value × Value)) (rd5 : RdL), k ≤ A ∧ i = .int .i64 (k : Int) ∧ Hid (LS.length = A) ∧ Hid ((LS.map (·.1), rd5) = bytAll (L.map (·.size)) S2 rd4 k) ∧ Hid (OwnSecs wr (q + 3) (.slice so A sc) LS) ∧ Hid (Three wr (q + 3) (.slice pa (A + C) pc) (.slice za A zc) (.slice ma A mc) (L.map (·.place) ++ Y.map (·.place)) (L.map (·.size)) (L.map (·.many))) ∧ Hid (wr.ownsRow (q + 3) 57 4 (.slice ya C yc) C (YS.flatMap symL)) ∧ Hid (Blk wr (q + 2) #[.slice so A sc, .slice ya C yc] 26) ∧ Hid (PartAt wr (q + 1) rd5) ∧ Hid (Blk wr q #[.int .i64 (A : Int), .int .i64 (C : Int), .int .i64 c, .int .i64 (dn : Int)] 49) ∧ Hid (Blk wr w.heap.size #[.slice none 0 0, .slice none 0 0] 26) ∧ Hid (From w.heap.size w wr)) (fun i _ => A - (intOf i).toNat)
                    case atStart => exact ⟨0, LS, rd4, Nat.zero_le _, rfl, HLS, HBA0, HS, HT, HY, HX, HP, HH2, HR, HF⟩
                    case round =>
                      clear HT HS HY HX HP HH2 HR HF HF' HBA0 HLS HS2
                      obtain ⟨k, LS, rd5, hk, rfl, HLS, HBA, HS, HT, HY, HX, HP, HH2, HR, HF⟩ := hrel
                      by_cases hlt : k < A
                      · have i1 : (k : Int) < (A : Int) := by omega
                        have i3 : (0 : Int) ≤ (k : Int) := by omega
                        have i6 := i1
                        have hkL : k < L.length := by omega
                        obtain ⟨ns, hns⟩ : ∃ ns : Nat, L[k].size = (ns : Int) := ⟨_, (Int.toNat_of_nonneg (hLr.out _ (List.getElem_mem hkL)).1.1).symm⟩
                        have hn8 : ns < 16777216 := by have := (hLr.out _ (List.getElem_mem hkL)).1.2; omega
                        obtain ⟨zg, zg2, hzv⟩ := row_some HT.out.oz (by intro e; simp only [Value.slice.injEq] at e; omega)
                        simp only [Value.slice.injEq] at hzv
                        obtain ⟨rfl, -, rfl⟩ := hzv
                        have hcz : wr.cell? ⟨zg, k, none⟩ = some (.int .i64 (ns : Int)) := ints_cell HT.out.oz (by simp [hLA]) (by rw [List.getElem?_map, List.getElem?_eq_getElem hkL, Option.map_some, hns])
                        have HNS : Hid ((L.map (·.size)).getD k 0 = (ns : Int)) := by
                          show _ = _
                          rw [List.getD_eq_getElem?_getD, List.getElem?_map, List.getElem?_eq_getElem hkL, Option.map_some, hns]
                          rfl
                        obtain ⟨DA, x, RA, rfl, hDA⟩ : ∃ DA x RA, LS = DA ++ x :: RA ∧ DA.length = k := by
                          have hk9 : k < LS.length := by rw [HLS.out]; exact hlt
                          exact ⟨LS.take k, LS[k], LS.drop (k + 1), by rw [← List.drop_eq_getElem_cons hk9, List.take_append_drop], by rw [List.length_take]; omega⟩
                        obtain ⟨⟨xn, xk, xl, xb, xs, xf⟩, vb, vf⟩ := x
                        obtain ⟨pg, pg2, hpgv⟩ := row_some HS.out.row (by intro e; simp only [Value.slice.injEq] at e; omega)
                        simp only [Value.slice.injEq] at hpgv
                        obtain ⟨rfl, -, rfl⟩ := hpgv
                        have hpgl := HS.out.lt pg (by simp [Value.ownBlock])
                        have c1 := HS.out.cell HLS.out.symm 1 (.int .i64 xk) rfl
                        have c4 := HS.out.cell HLS.out.symm 4 (.int .i64 xs) rfl
                        have f4 := World.ownsRow.frozenAt (HLS.out ▸ HS.out.row) (k * 6 + 4)
                        rw [hDA] at c1 c4
                        have HDA := Lib.hid hDA
                        have HKD : Hid (kindAt ((DA ++ ((⟨xn, xk, xl, xb, xs, xf⟩ : SecD), vb, vf) :: RA).map (·.1)) k = xk) := by
                          show _ = _
                          rw [List.map_append, List.map_cons]
                          exact kindAt_mid (by simp [hDA])
                        have cX := HX.out.cell
                        have zX := HX.out.lt
                        clear hns hDA
                        by_cases hkd : xk = 3
                        · have hkb : (xk == 3) = true := by rw [hkd]; rfl
                          have hos : Other [pg] wr (wr.setCell ⟨pg, k * 6 + 4, none⟩ (.int .i64 (ns : Int))) := Other.setCell (p := ⟨pg, k * 6 + 4, none⟩) (by simp) _
                          have hrow := HS.out.row
                          have HS9 : Hid (OwnSecs (wr.setCell ⟨pg, k * 6 + 4, none⟩ (.int .i64 (ns : Int))) (q + 3) (.slice (some ⟨pg, 0, none⟩) A sc) (DA ++ ((⟨xn, xk, xl, xb, (ns : Int), xf⟩ : SecD), vb, vf) :: RA)) := by
                            show OwnSecs _ _ _ _
                            have h9 := HS.out.put HLS.out.symm ((⟨xn, xk, xl, xb, (ns : Int), xf⟩ : SecD), vb, vf) 4 (.int .i64 (ns : Int)) (by decide) rfl rfl rfl rfl
                            rw [HDA.out] at h9
                            exact h9
                          have HT9 := Lib.hid (HT.out.oth hos (fun v n xs h k' hk' hm => by
                            obtain rfl := List.mem_singleton.1 hm
                            exact owns_ne h hrow (by decide) _ hk' rfl))
                          have HY9 := Lib.hid (owns_other HY.out hos (fun k' hk' hm => by
                            obtain rfl := List.mem_singleton.1 hm
                            exact owns_ne HY.out hrow (by decide) _ hk' rfl))
                          have HX9 := Lib.hid (HX.out.otherB hos (fun e => by have := List.mem_singleton.1 e; omega))
                          have HP9 := Lib.hid (HP.out.oth hos (fun k' hk' => by have := List.mem_singleton.1 hk'; omega))
                          have HH9 := Lib.hid (HH2.out.otherB hos (fun e => by have := List.mem_singleton.1 e; omega))
                          have HR9 := Lib.hid (HR.out.otherB hos (fun e => by have := List.mem_singleton.1 e; omega))
                          have HF9 := Lib.hid (HF.out.other hos (fun k' hk' => by have := List.mem_singleton.1 hk'; omega))
                          have HLS9 : Hid ((DA ++ ((⟨xn, xk, xl, xb, (ns : Int), xf⟩ : SecD), vb, vf) :: RA).length = A) := by show _ = _; rw [← HLS.out]; simp
                          have HBA9 : Hid (((DA ++ ((⟨xn, xk, xl, xb, (ns : Int), xf⟩ : SecD), vb, vf) :: RA).map (·.1), rd5) = bytAll (L.map (·.size)) S2 rd4 (k + 1)) := by
                            show _ = _
                            unfold bytAll
                            rw [← HBA.out]
                            simp only
                            rw [HKD.out, if_pos hkd, HNS.out]
                            simp only [List.map_append, List.map_cons]
                            rw [upd_at _ _ _ k (by simp [HDA.out])]
                            simp [putSize]
                          clear hos hrow HS HT HY HX HP HH2 HR HF HLS HBA HKD HNS HDA
                          subst hkd
                          go_wp2_with fail
                          go_roundw
                          case rel => exact ⟨k + 1, _, rd5, by omega, by go_num, HLS9, HBA9, HS9, HT9, HY9, HX9, HP9, HH9, HR9, HF9⟩
                          case measure => simp [intOf]; try omega
                        · have hkb : (xk == 3) = false := by rw [beq_eq_false_iff_ne]; exact hkd
                          go_wp2_with fail
                          obtain ⟨u0, hu0, ua0, ua1, ua2⟩ := info_parts info_u8
                          have hTl := takeR_length ns rd5
                          obtain ⟨B9, hB9⟩ : ∃ B9, (takeR ns rd5).1 = B9 := ⟨_, rfl⟩
                          obtain ⟨rd6, hr6⟩ : ∃ s, (takeR ns rd5).2 = s := ⟨_, rfl⟩
                          have HTK6 : Hid (takeR ns rd5 = (B9, rd6)) := by show _ = _; rw [← hB9, ← hr6]
                          have hBl : B9.length = ns := by rw [← hB9]; exact hTl
                          have HBL := Lib.hid hBl
                          clear hTl hBl hB9 hr6 c4 f4 hcz
                          have hc3 : wr.cell? ⟨pg, k * 6 + 3, none⟩ = some vb := by
                            have h9 := HS.out.cell HLS.out.symm 3 vb rfl
                            rw [HDA.out] at h9
                            exact h9
                          have hq2 : q + 2 ∉ [q + 1] := by simp
                          have HC3 := Lib.hid hc3
                          clear hc3
                          let f0 : Nat → Value := fun i => match i with
                            | 0 => .pointer (some ⟨q + 2, 0, none⟩)
                            | 1 => .slice (some ⟨pg, 0, none⟩) A sc
                            | 2 => .int .i64 (k : Int)
                            | 4 => .int .i64 (ns : Int)
                            | 7 => .pointer (some ⟨pg, k * 6, none⟩)
                            | 8 => .pointer (some ⟨pg, k * 6 + 3, none⟩)
                            | _ => undef
                          let Mid : World → Value → Prop := fun u v' => Other [q + 1] wr u ∧ OwnB u (q + 3) v' B9 ∧ (∀ k', v'.ownBlock = some k' → wr.heap.size ≤ k') ∧ PartAt u (q + 1) rd6
                          refine wp_region_get (fun i v u => (i = 3 → ∃ z', v = .slice (some ⟨z', 0, none⟩) 0 0 ∧ u.ownsRow (q + 3) 5 1 (.slice (some ⟨z', 0, none⟩) 0 0) 0 [] ∧ wr.heap.size ≤ z') ∧ (i = 5 → BytesAt u v B9) ∧ (i = 6 → Mid u v) ∧ (i ≠ 3 → i ≠ 5 → i ≠ 6 → v = f0 i))
                            (fun _ f u => (f 9 = false → Other [q + 1] wr u) ∧ (f 5 = false → PartAt u (q + 1) rd5) ∧ (f 5 = true → f 9 = false → PartAt u (q + 1) rd6) ∧ (f 9 = true → ∃ v' u1, u = u1.setCell ⟨pg, k * 6 + 3, none⟩ v' ∧ Mid u1 v'))
                            [[], [0], [], [], [], [4], [3, 5], [1, 2], [7], [6, 8]] [[], [0], [], [], [], [4], [3, 4, 5], [0, 1, 2, 3, 4, 5, 6], [0, 1, 2, 3, 4, 5, 6, 7], [0, 1, 2, 3, 4, 5, 6, 7, 8]] [] (by kernel_rfl) (by kernel_rfl) (by kernel_rfl) (by kernel_rfl) (by kernel_rfl)
                            ⟨fun _ => Other.below ((From.start wr).drew).below, fun _ => HP.out.call ((From.start wr).drew).below, (fun h => by cases h), fun h => by cases h⟩ ?ho ?hq
                          case ho =>
                            refine ⟨?_, ?_, ?_, ?_, ?_, ?_, ?_, ?_, ?_, ?_, trivial⟩
                            · intro n f a9 u K' hfr hn hl hS hv hK'
                              have eA8 : a9.tmps.getD 7 undef = .pointer (some ⟨q + 2, 0, none⟩) := hfr 7 (no_dst (by kernel_rfl))
                              have eB8 : (a9.tmps[7]?).getD undef = .pointer (some ⟨q + 2, 0, none⟩) := by simpa using eA8
                              refine owe_run rfl (wp_val (v := .pointer (some ⟨q + 2, 0, none⟩)) ?_ (hK' _ _ ⟨fun h => hS.1 (setl_off h), fun h => hS.2.1 (setl_off h), fun h h2 => hS.2.2.1 (by rwa [setl_ne (by decide)] at h) (setl_off h2), fun h => hS.2.2.2 (by rwa [setl_ne (by decide)] at h)⟩ (fun _ _ _ h => h) (fun _ => ⟨fun e => absurd e (by decide), fun e => absurd e (by decide), fun e => absurd e (by decide), fun _ _ _ => rfl⟩)))
                              first
                                | (go_simp; done)
                                | (go_simp; rfl)
                            · intro n f a9 u K' hfr hn hl hS hv hK'
                              have eA0 : a9.tmps.getD 174 undef = .pointer (some ⟨q + 2, 0, none⟩) := hv.1.2.2.2 (by decide) (by decide) (by decide)
                              have eB0 : (a9.tmps[174]?).getD undef = .pointer (some ⟨q + 2, 0, none⟩) := by simpa using eA0
                              have ho9 := hS.1 (hl.2.2 9 (by decide))
                              have cu := (HX.out.otherB ho9 hq2).cell
                              refine owe_run rfl (wp_val (v := .slice (some ⟨pg, 0, none⟩) A sc) ?_ (hK' _ _ ⟨fun h => hS.1 (setl_off h), fun h => hS.2.1 (setl_off h), fun h h2 => hS.2.2.1 (by rwa [setl_ne (by decide)] at h) (setl_off h2), fun h => hS.2.2.2 (by rwa [setl_ne (by decide)] at h)⟩ (fun _ _ _ h => h) (fun _ => ⟨fun e => absurd e (by decide), fun e => absurd e (by decide), fun e => absurd e (by decide), fun _ _ _ => rfl⟩)))
                              first
                                | (go_simp; done)
                                | (go_simp; rfl)
                            · intro n f a9 u K' hfr hn hl hS hv hK'
                              have eA8 : a9.tmps.getD 21 undef = .int .i64 (k : Int) := hfr 21 (no_dst (by kernel_rfl))
                              have eB8 : (a9.tmps[21]?).getD undef = .int .i64 (k : Int) := by simpa using eA8
                              refine owe_run rfl (wp_val (v := .int .i64 (k : Int)) ?_ (hK' _ _ ⟨fun h => hS.1 (setl_off h), fun h => hS.2.1 (setl_off h), fun h h2 => hS.2.2.1 (by rwa [setl_ne (by decide)] at h) (setl_off h2), fun h => hS.2.2.2 (by rwa [setl_ne (by decide)] at h)⟩ (fun _ _ _ h => h) (fun _ => ⟨fun e => absurd e (by decide), fun e => absurd e (by decide), fun e => absurd e (by decide), fun _ _ _ => rfl⟩)))
                              first
                                | (go_simp; done)
                                | (go_simp; rfl)
                            · intro n f a9 u K' hfr hn hl hS hv hK'
                              have k1 : Below u.heap.size u (u.alloc (.cells #[] 5)) := ((From.start u).alloc _).below
                              have ho9 := hS.1 (hl.2.2 9 (by decide))
                              have hzs := ho9.size
                              have hol : (u.alloc (.cells #[] 5)).ownsRow (q + 3) 5 1 (.slice (some ⟨u.heap.size, 0, none⟩) 0 0) 0 [] := World.ownsRow_lit u #[] 0 (by omega) (by unfold maxLen; omega) rfl
                              refine owe_run rfl (wp_val (v := .slice (some ⟨u.heap.size, 0, none⟩) 0 0) (w' := u.alloc (.cells #[] 5)) ?_ (hK' _ _ ⟨fun h => (hS.1 (setl_off h)).trans (Other.below k1), fun h => (hS.2.1 (setl_off h)).call k1, fun h h2 => (hS.2.2.1 (by rwa [setl_ne (by decide)] at h) (setl_off h2)).call k1, fun h => (by rw [setl_ne (by decide), hl.2.2 9 (by decide)] at h; cases h)⟩ (fun j y hj h => ⟨fun e => (have ⟨z, e1, e2, e3⟩ := h.1 e; ⟨z, e1, owns_call e2 k1, e3⟩), fun e => (h.2.1 e).below (Nat.le_refl _) k1, fun e => by subst e; exact absurd hj (by decide), h.2.2.2⟩) (fun _ => ⟨fun _ => ⟨_, rfl, hol, hzs⟩, fun e => absurd e (by decide), fun e => absurd e (by decide), fun e _ _ => absurd rfl e⟩)))
                              first
                                | (go_simp; done)
                                | (go_simp; rfl)
                            · intro n f a9 u K' hfr hn hl hS hv hK'
                              have eA8 : a9.tmps.getD 22 undef = .int .i64 (ns : Int) := hfr 22 (no_dst (by kernel_rfl))
                              have eB8 : (a9.tmps[22]?).getD undef = .int .i64 (ns : Int) := by simpa using eA8
                              refine owe_run rfl (wp_val (v := .int .i64 (ns : Int)) ?_ (hK' _ _ ⟨fun h => hS.1 (setl_off h), fun h => hS.2.1 (setl_off h), fun h h2 => hS.2.2.1 (by rwa [setl_ne (by decide)] at h) (setl_off h2), fun h => hS.2.2.2 (by rwa [setl_ne (by decide)] at h)⟩ (fun _ _ _ h => h) (fun _ => ⟨fun e => absurd e (by decide), fun e => absurd e (by decide), fun e => absurd e (by decide), fun _ _ _ => rfl⟩)))
                              first
                                | (go_simp; done)
                                | (go_simp; rfl)
                            · intro n f a9 u K' hfr hn hl hS hv hK'
                              have eA9 : a9.tmps.getD 6 undef = .pointer (some ⟨q + 1, 0, none⟩) := hfr 6 (no_dst (by kernel_rfl))
                              have eA0 : a9.tmps.getD 178 undef = .int .i64 (ns : Int) := hv.1.2.2.2 (by decide) (by decide) (by decide)
                              refine owe_run rfl (wp_fn rfl (args2 eA9 eA0) (enter_fn Try.func39 (by kernel_rfl) rfl _ _) ((partTake_any u (q + 1) ns rd5 (hS.2.1 hl.1) (by omega)).mono ?_))
                              rintro e u2 ⟨r, rfl, hTb, hTn, hP, gg⟩
                              rw [HTK6.out] at hTb hP
                              refine ⟨_, rfl, hK' _ _ ⟨fun h => other_new (hS.1 (setl_off h)) gg (fun k' hk' => by simp only [Option.some.injEq] at hk'; left; simp [hk']), fun h => (by rw [setl_at] at h; cases h), fun _ _ => hP, fun h => (by rw [setl_ne (by decide), hl.2.2 9 (by decide)] at h; cases h)⟩ (fun j y hj h => ⟨fun e => (have ⟨z, e1, e2, e3⟩ := h.1 e; ⟨z, e1, owns_drawn e2 gg (by omega), e3⟩), fun e => by subst e; exact absurd hj (by decide), fun e => by subst e; exact absurd hj (by decide), h.2.2.2⟩) (fun _ => ⟨fun e => absurd e (by decide), fun _ => hTb, fun e => absurd e (by decide), fun _ e => absurd rfl e⟩)⟩
                            · intro n f a9 u K' hfr hn hl hS hv hK'
                              obtain ⟨z', e7, hz7, hz8⟩ := hv.1.1 rfl
                              have hTb := hv.2.1.2.1 rfl
                              have ho9 := hS.1 (hl.2.2 9 (by decide))
                              have hp9 := hS.2.2.1 (hl.2.1 5 (by decide)) (hl.2.2 9 (by decide))
                              have hxl := HX.out.lt
                              have hsz := ho9.size
                              have hb9 := HBL.out
                              refine step_append_new rfl (.tmp 177) (.tmp 179) 22 22 rfl (q + 3) 5 u0 (.int .u8 0) 1 1 Try.underlying22 hu0 ua0 ua1 ua2 rfl (by decide) _ _ _ e7 hz7 _ B9.length (bvs B9) rfl (src_reads Try.underlying22 hTb (bvs_one B9)) (by unfold maxLen; omega) (by omega) (by omega) ?_
                              intro v' w1 hown1 hgr1 hpl
                              have hz9 : z' < u.heap.size := (World.ownsRow.lt hz7 z' rfl).2
                              have hrw : ∀ k', (Value.slice (some ⟨z', 0, none⟩) 0 0).ownBlock = some k' → wr.heap.size ≤ k' := fun k' hk' => by
                                simp only [Value.ownBlock, Option.some.injEq] at hk'; omega
                              have hmid : Mid w1 v' := ⟨other_new ho9 hgr1 (fun k' hk' => .inr (hrw k' hk')), (by unfold OwnB; rw [List.nil_append, Nat.zero_add] at hown1; exact hown1), (fun k' hk' => by
                                rcases hpl with e | e
                                · exact hrw k' (e ▸ hk')
                                · rw [e] at hk'; simp only [Option.some.injEq] at hk'; omega), hp9.grown hgr1 (fun k' hk' => by have := hrw k' hk'; omega)⟩
                              exact hK' _ _ ⟨fun _ => hmid.1, fun h => (by rw [setl_ne (by decide), hl.2.1 5 (by decide)] at h; cases h), fun _ _ => hmid.2.2.2, fun h => (by rw [setl_ne (by decide), hl.2.2 9 (by decide)] at h; cases h)⟩ (fun j y hj h => ⟨fun e => by subst e; exact absurd hj (by decide), fun e => by subst e; exact absurd hj (by decide), fun e => by subst e; exact absurd hj (by decide), h.2.2.2⟩) (fun _ => ⟨fun e => absurd e (by decide), fun e => absurd e (by decide), fun _ => hmid, fun _ _ e => absurd rfl e⟩)
                            · intro n f a9 u K' hfr hn hl hS hv hK'
                              have eA0 : a9.tmps.getD 175 undef = .slice (some ⟨pg, 0, none⟩) A sc := hv.1.2.2.2 (by decide) (by decide) (by decide)
                              have eB0 : (a9.tmps[175]?).getD undef = .slice (some ⟨pg, 0, none⟩) A sc := by simpa using eA0
                              have eA1 : a9.tmps.getD 176 undef = .int .i64 (k : Int) := hv.2.1.2.2.2 (by decide) (by decide) (by decide)
                              have eB1 : (a9.tmps[176]?).getD undef = .int .i64 (k : Int) := by simpa using eA1
                              refine owe_run rfl (wp_val (v := .pointer (some ⟨pg, k * 6, none⟩)) ?_ (hK' _ _ ⟨fun h => hS.1 (setl_off h), fun h => hS.2.1 (setl_off h), fun h h2 => hS.2.2.1 (by rwa [setl_ne (by decide)] at h) (setl_off h2), fun h => hS.2.2.2 (by rwa [setl_ne (by decide)] at h)⟩ (fun _ _ _ h => h) (fun _ => ⟨fun e => absurd e (by decide), fun e => absurd e (by decide), fun e => absurd e (by decide), fun _ _ _ => rfl⟩)))
                              first
                                | (go_simp; done)
                                | (go_simp; rfl)
                            · intro n f a9 u K' hfr hn hl hS hv hK'
                              have eA0 : a9.tmps.getD 181 undef = .pointer (some ⟨pg, k * 6, none⟩) := hv.1.2.2.2 (by decide) (by decide) (by decide)
                              have eB0 : (a9.tmps[181]?).getD undef = .pointer (some ⟨pg, k * 6, none⟩) := by simpa using eA0
                              refine owe_run rfl (wp_val (v := .pointer (some ⟨pg, k * 6 + 3, none⟩)) ?_ (hK' _ _ ⟨fun h => hS.1 (setl_off h), fun h => hS.2.1 (setl_off h), fun h h2 => hS.2.2.1 (by rwa [setl_ne (by decide)] at h) (setl_off h2), fun h => hS.2.2.2 (by rwa [setl_ne (by decide)] at h)⟩ (fun _ _ _ h => h) (fun _ => ⟨fun e => absurd e (by decide), fun e => absurd e (by decide), fun e => absurd e (by decide), fun _ _ _ => rfl⟩)))
                              first
                                | (go_simp; done)
                                | (go_simp; rfl)
                            · intro n f a9 u K' hfr hn hl hS hv hK'
                              have hmid := hv.1.2.2.1 rfl
                              have eA1 : a9.tmps.getD 182 undef = .pointer (some ⟨pg, k * 6 + 3, none⟩) := hv.2.1.2.2.2 (by decide) (by decide) (by decide)
                              have eB1 : (a9.tmps[182]?).getD undef = .pointer (some ⟨pg, k * 6 + 3, none⟩) := by simpa using eA1
                              obtain ⟨v', hv'⟩ : ∃ v', (a9.tmps[180]?).getD undef = v' := ⟨_, rfl⟩
                              have e9 : a9.tmps.getD 180 undef = v' := by rw [← hv']; simp
                              rw [e9] at hmid
                              obtain ⟨va9, vc9, e10⟩ : ∃ va9 vc9, v' = .slice va9 B9.length vc9 := owns_form hmid.2.1
                              subst e10
                              have hrow := (HS.out.addByt HLS.out.symm hmid.1 (by omega) hmid.2.1 hmid.2.2.1).2
                              have cq := World.ownsRow.cellAt hrow (k * 6 + 3) (by omega)
                              have cq2 : u.cell? ⟨pg, k * 6 + 3, none⟩ = some vb := by
                                rw [cq, ← HDA.out]
                                exact flat_at secL 6 secL_length _ _ _ _ (by decide)
                              have fq := World.ownsRow.frozenAt hrow (k * 6 + 3)
                              clear cq
                              refine owe_run rfl (wp_skp (w' := u.setCell ⟨pg, k * 6 + 3, none⟩ (.slice va9 B9.length vc9)) ?_ (hK' undef _ ⟨fun h => (by rw [setl_at] at h; cases h), fun h => (by rw [setl_ne (by decide), hl.2.1 5 (by decide)] at h; cases h), fun _ h => (by rw [setl_at] at h; cases h), fun _ => ⟨_, u, rfl, hmid⟩⟩ (fun j y hj h => ⟨fun e => by subst e; exact absurd hj (by decide), fun e => by subst e; exact absurd hj (by decide), fun e => by subst e; exact absurd hj (by decide), h.2.2.2⟩) (fun h => absurd rfl h)))
                              first
                                | (go_simp; done)
                                | (go_simp; rfl)
                          case hq =>
                            intro gg9 u hS hv
                            clear hv f0
                            obtain ⟨v', u1, rfl, ho9, hb9, hp9, hP9⟩ := hS.2.2.2 (by decide)
                            clear hS Mid
                            have HS9 := Lib.hid (HS.out.addByt HLS.out.symm ho9 (by omega) hb9 hp9).1
                            rw [HDA.out] at HS9
                            have hos := other_set ho9 pg (k * 6 + 3) v'
                            have hge : ∀ k' ∈ [pg, q + 1], k' = pg ∨ k' = q + 1 := fun k' hk' => by simpa using hk'
                            have hrow := HS.out.row
                            have HT9 := Lib.hid (HT.out.oth hos (fun v n xs h k' hk' hm => by
                              rcases hge k' hm with rfl | rfl
                              · exact owns_ne h hrow (by decide) _ hk' rfl
                              · have := (World.ownsRow.lt h _ hk').1; omega))
                            have HY9 := Lib.hid (owns_other HY.out hos (fun k' hk' hm => by
                              rcases hge k' hm with rfl | rfl
                              · exact owns_ne HY.out hrow (by decide) _ hk' rfl
                              · have := (World.ownsRow.lt HY.out _ hk').1; omega))
                            have HX9 := Lib.hid (HX.out.otherB hos (fun e => by have := hge _ e; omega))
                            have HP9 := Lib.hid (hP9.set (show q + 1 < pg by omega) (k * 6 + 3) v')
                            have HH9 := Lib.hid (HH2.out.otherB hos (fun e => by have := hge _ e; omega))
                            have HR9 := Lib.hid (HR.out.otherB hos (fun e => by have := hge _ e; omega))
                            have HF9 := Lib.hid (HF.out.other hos (fun k' hk' => by have := hge k' hk'; omega))
                            have HLS9 : Hid ((DA ++ ((⟨xn, xk, xl, B9, xs, xf⟩ : SecD), v', vf) :: RA).length = A) := by show _ = _; rw [← HLS.out]; simp
                            have HBA9 : Hid (((DA ++ ((⟨xn, xk, xl, B9, xs, xf⟩ : SecD), v', vf) :: RA).map (·.1), rd6) = bytAll (L.map (·.size)) S2 rd4 (k + 1)) := by
                              show _ = _
                              unfold bytAll
                              rw [← HBA.out]
                              simp only
                              rw [HKD.out, if_neg hkd, HNS.out, Int.toNat_natCast, HTK6.out]
                              simp only [List.map_append, List.map_cons]
                              rw [upd_at _ _ _ k (by simp [HDA.out])]
                              simp [putByt]
                            clear hge hos hrow ho9 hb9 hp9 hP9 HS HT HY HX HP HH2 HR HF HLS HBA HKD HNS HDA HC3 HTK6 HBL
                            simp only [List.map, putG, List.setIfInBounds_toArray, List.set_cons_succ, List.set_cons_zero]
                            go_wp2_with fail
                            go_roundw
                            case rel => exact ⟨k + 1, _, rd6, by omega, by go_num, HLS9, HBA9, HS9, HT9, HY9, HX9, HP9, HH9, HR9, HF9⟩
                            case measure => simp [intOf]; try omega
                      · obtain rfl : A = k := by omega
                        have HPI : Hid (parseI A C dn D = (⟨LS.map (·.1), YS⟩, rd5)) := by
                          show _ = _
                          unfold parseI
                          dsimp only
                          rw [← HM.out]
                          dsimp only
                          rw [← HM2.out]
                          dsimp only
                          rw [← HFA.out]
                          dsimp only
                          rw [HTK.out]
                          dsimp only
                          rw [← HNM.out]
                          dsimp only
                          rw [← HBA.out]
                        have hnmO := parseI_names A C dn D
                        rw [HPI.out] at hnmO
                        obtain ⟨O, hO⟩ : ∃ O : ObjD, (⟨LS.map (·.1), YS⟩ : ObjD) = O := ⟨_, rfl⟩
                        have HOS : Hid (O.secs = LS.map (·.1)) := by show _ = _; rw [← hO]
                        have HOY : Hid (O.syms = YS) := by show _ = _; rw [← hO]
                        rw [hO] at HPI
                        simp only at hnmO
                        have HNS : Hid ((∀ s ∈ O.secs, s.name.size ≤ maxLen) ∧ ∀ s ∈ O.syms, s.name.size ≤ maxLen) := by
                          rw [← hO]
                          exact ⟨fun x hx => by have := hnmO.1 x hx; unfold maxLen; omega, fun x hx => by have := hnmO.2 x hx; unfold maxLen; omega⟩
                        have HRI : Hid (readI l = if rd5.bad = false ∧ writeL O = l then some O else none) := by
                          show _ = _
                          unfold readI
                          rw [HG.out]
                          simp only [Int.toNat_natCast]
                          rw [HD.out, HPI.out]
                        have HYO : Hid (OwnSyms wr (q + 3) (.slice ya C yc) O.syms) := by
                          show OwnSyms _ _ _ _
                          unfold OwnSyms
                          rw [HOY.out, HYS.out]
                          exact HY.out
                        have HOB : Hid (ObjAt wr (.agg #[.slice so A sc, .slice ya C yc]) O) := ⟨_, _, rfl, by rw [HOS.out]; exact HS.out.at, HYO.out.reads⟩
                        clear hnmO hO HPI HT HH2
                        obtain ⟨v9, hB9, -, -⟩ := HP.out
                        have HB9 := Lib.hid hB9
                        clear hB9 HP
                        obtain ⟨lf, bd⟩ := rd5
                        simp only at HB9 HRI
                        have cP := HB9.out.cell
                        have zP := HB9.out.lt
                        have cX := HX.out.cell
                        have zX := HX.out.lt
                        have cR := HR.out.cell
                        have fR := HR.out.frozen
                        have zR := HR.out.lt
                        cases bd with
                        | true =>
                          have E : Hid (readI l = none) := by show _ = _; rw [HRI.out]; simp
                          go_wp2_with fail
                          refine bodyPost_ret (v := .tuple #[.agg #[.slice none 0 0, .slice none 0 0], .bool false]) (by simp [results, Try.results11, go_sem, cR, zR]) rfl ⟨_, by rw [E.out]; rfl, by rw [E.out]; exact ownObj_zero _ _, ?_⟩
                          have HX := ((HF.out.setCell (p := ⟨w.heap.size, 0, none⟩) (Nat.le_refl _) (.slice none 0 0)).setCell (p := ⟨w.heap.size, 1, none⟩) (Nat.le_refl _) (.slice none 0 0))
                          exact HX.below
                        | false =>
                          go_wp2_with fail
                          refine (i_WriteObject _ (.agg #[.slice so A sc, .slice ya C yc]) O HOB.out HNS.out).mono ?_
                          rintro e w8 ⟨r8, rfl, hr8, k8⟩
                          have HS := Lib.hid (HS.out.call k8)
                          have HYO := Lib.hid (owns_call HYO.out k8)
                          have HX := Lib.hid (HX.out.call k8)
                          have HR := Lib.hid (HR.out.call k8)
                          have HF := Lib.hid (HF.out.call k8)
                          have HE8 := Lib.hid hr8.reads
                          have cX := HX.out.cell
                          have zX := HX.out.lt
                          have cR := HR.out.cell
                          have fR := HR.out.frozen
                          have zR := HR.out.lt
                          obtain ⟨r8a, r8c, rfl⟩ := owns_form hr8
                          clear hr8 k8 HOB HNS HY HB9 cP zP
                          go_wp2_with fail
                          refine (bytesEqual_any _ _ _ (writeL O) l HE8.out (H.out.below (Nat.le_refl _) HF.out.below)).mono ?_
                          rintro e w9 ⟨rfl, rfl⟩
                          cases he : eqB (writeL O) l with
                          | true =>
                            have E : Hid (readI l = some O) := by
                              show _ = _
                              have : writeL O = l := by simpa [eqB] using he
                              rw [HRI.out]
                              simp [this]
                            clear he HRI
                            go_wp2_with fail
                            have hap := secs_row_ne HS.out HYO.out (by decide) (by decide) (by decide)
                            refine bodyPost_ret (v := .tuple #[.agg #[.slice so A sc, .slice ya C yc], .bool true]) (by simp [results, Try.results11, go_sem, cR, zR]) rfl ⟨_, by rw [E.out]; rfl, by rw [E.out]; exact ⟨_, _, LS, rfl, HOS.out, ((HS.out.setBelow (a := ⟨w.heap.size, 0, none⟩) (by show w.heap.size < _; omega) _).setBelow (a := ⟨w.heap.size, 1, none⟩) (by show w.heap.size < _; omega) _).mono (by omega), owns_mono (ownsRow_setCell_below (ownsRow_setCell_below HYO.out (a := ⟨w.heap.size, 0, none⟩) (by show w.heap.size < _; omega) _) (a := ⟨w.heap.size, 1, none⟩) (by show w.heap.size < _; omega) _) (by omega), hap⟩, ?_⟩
                            exact ((HF.out.setCell (p := ⟨w.heap.size, 0, none⟩) (Nat.le_refl _) _).setCell (p := ⟨w.heap.size, 1, none⟩) (Nat.le_refl _) _).below
                          | false =>
                            have E : Hid (readI l = none) := by
                              show _ = _
                              have : ¬ writeL O = l := by simpa [eqB] using he
                              rw [HRI.out, if_neg (fun h => this h.2)]
                            clear he HRI
                            go_wp2_with fail
                            refine bodyPost_ret (v := .tuple #[.agg #[.slice none 0 0, .slice none 0 0], .bool false]) (by simp [results, Try.results11, go_sem, cR, zR]) rfl ⟨_, by rw [E.out]; rfl, by rw [E.out]; exact ownObj_zero _ _, ?_⟩
                            have HX := ((HF.out.setCell (p := ⟨w.heap.size, 0, none⟩) (Nat.le_refl _) (.slice none 0 0)).setCell (p := ⟨w.heap.size, 1, none⟩) (Nat.le_refl _) (.slice none 0 0))
                            exact HX.below
end Go.Proofs.Ytkefbhidfbnipaa
