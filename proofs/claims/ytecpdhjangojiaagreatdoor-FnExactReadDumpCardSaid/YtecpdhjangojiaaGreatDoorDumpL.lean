/- Lines read: the program's readLine. -/
import Derived.Test.YtecpdhjangojiaaGreatDoorDumpK
import Derived.BigQuiet
import Derived.StringKeys
namespace Go.Proofs.YtecpdhjangojiaaGreatDoor
open Go.ChangeShapes Go.WideShapes Go.ChangeAt Go.RowKit Go.Joins
set_option linter.unusedSimpArgs false
set_option linter.unusedVariables false
set_option maxRecDepth 100000
theorem toList_iff (x : ByteArray) (l : List UInt8) : x.toList = l ↔ bytesS x = l := by rw [toList_bytesS]
theorem head_cell {u : World} {W : Nat} {vs : List ByteArray} {zs : List Value} {x0 : ByteArray} {t : TypeId} (h : Blk u W (svs vs ++ zs).toArray t) (hx : vs.head? = some x0) : u.cell? ⟨W, 0, none⟩ = some (.string x0) := by
  rw [h.cell 0]
  cases vs with
  | nil => cases hx
  | cons a r =>
    simp only [List.head?_cons, Option.some.injEq] at hx
    subst hx
    rfl
theorem cells_of {u wA wB wC : World} {W X : Nat} {vs : List ByteArray} {zs : List Value} {x0 : ByteArray} {t : TypeId} (h : Blk u W (svs vs ++ zs).toArray t) (h1 : u.grownBy wA (some X)) (h2 : wA.grownBy wB (some X)) (h3 : wB.grownBy wC (some X)) (hW : W < X) (hx : vs.head? = some x0) : wC.cell? ⟨W, 0, none⟩ = some (.string x0) :=
  head_cell (h.grown ((h1.trans h2).trans h3) (by intro e; simp only [Option.some.injEq] at e; omega)) hx
set_option maxHeartbeats 8000000 in
theorem i_readLine (w : World) (q B N : Nat) (o : ObjD) (hbox : BoxO w q B o) (hN : Few N o) (hN1 : N ≤ 1073741824) (s : ByteArray) (hs : s.size ≤ 1073741824) (he : Env w) :
    Calls Tryz.prog 24 #[.pointer (some ⟨q, 0, none⟩), .string s] w fun e w' => e = .returned (.bool (lineI o (bytesS s)).isSome) ∧ (∀ o1, lineI o (bytesS s) = some o1 → BoxO w' q B o1 ∧ Few (N + 1) o1) ∧ Below q w w' := by
  have HBX := Lib.hid hbox
  have HFW := Lib.hid hN
  have HE := Lib.hid he
  clear hbox hN
  go_enter Tryz.func24, Tryz.ntmps24
  go_wp2_with fail
  refine (split_call s (by omega) w he).mono ?_
  rintro e w1 ⟨ws, rfl, rfl, hws, hwl⟩
  clear he
  have hne : 0 < ws.length := by
    rcases Nat.eq_zero_or_pos ws.length with h0 | h0
    · have := congrArg List.length hws
      rw [List.length_map, h0] at this
      exact absurd (List.eq_nil_of_length_eq_zero this.symm) (wordsL_ne _)
    · exact h0
  have HSZ : Hid (∀ x ∈ ws, x.size ≤ 1073741824) := fun x hx => by
    have h1 := wordsL_le (bytesS s) (bytesS x) (by rw [← hws]; exact List.mem_map.2 ⟨x, hx, rfl⟩)
    have h2 : ∀ y : ByteArray, (bytesS y).length = y.size := fun y => Array.length_toList (xs := y.data)
    rw [h2, h2] at h1
    omega
  have HWS := Lib.hid hws
  obtain ⟨x0, hx0⟩ : ∃ x, ws[0] = x := ⟨_, rfl⟩
  have HX0 : Hid (ws.head? = some x0) := by
    show _ = _
    rw [List.head?_eq_getElem?, List.getElem?_eq_getElem hne, hx0]
  obtain ⟨L, hL⟩ : ∃ L, ws.length = L := ⟨_, rfl⟩
  obtain ⟨W, hW⟩ : ∃ W, w.heap.size = W := ⟨_, rfl⟩
  have HBW := Lib.hid (Blk.newAt w (svs ws).toArray 9 W hW.symm)
  have HF1 := Lib.hid ((From.start w).alloc (.cells (svs ws).toArray 9))
  rw [hL] at hwl ⊢
  rw [hW] at HF1 ⊢
  have HL := Lib.hid hL
  generalize hw1 : w.alloc (.cells (svs ws).toArray 9) = w1 at *
  have cell0 : w1.cell? ⟨W, 0, none⟩ = some (.string x0) := by
    rw [HBW.out.cell 0]
    simp [svs, hx0, hne]
  have hL0 : 0 < L := by omega
  clear hw1 hws hL hx0 hne
  obtain ⟨sb, hsb⟩ : ∃ sb : Bool, decide (bytesS x0 = secT ∧ L = 6) = sb := ⟨_, rfl⟩
  have HSB := Lib.hid hsb
  clear hsb
  go_upto_region 2 with fail
  go_cut [25] (fun c wx => c = .bool sb ∧ wx = w1)
  case first =>
    by_cases h1 : bytesS x0 = secT
    · have e1 := (toList_iff x0 [115, 101, 99, 116, 105, 111, 110]).2 h1
      by_cases h2 : L = 6
      · have E : Hid (sb = true) := by show _ = _; rw [← HSB.out]; simp [h1, h2]
        subst h2
        go_wp2_with fail
        go_meet
        case rel => exact ⟨by rw [E.out], rfl⟩
      · have e2 : ((L : Int) == 6) = false := by rw [beq_eq_false_iff_ne]; omega
        have E : Hid (sb = false) := by show _ = _; rw [← HSB.out]; simp [h2]
        clear h2
        go_wp2_with fail
        go_meet
        case rel => exact ⟨by rw [E.out], rfl⟩
    · have e1 := fun e => h1 ((toList_iff x0 [115, 101, 99, 116, 105, 111, 110]).1 e)
      have E : Hid (sb = false) := by show _ = _; rw [← HSB.out]; simp [h1]
      clear h1
      go_wp2_with fail
      go_meet
      case rel => exact ⟨by rw [E.out], rfl⟩
  case rest =>
    obtain ⟨rfl, rfl⟩ := hcut
    go_upto_if 25 with fail
    go_cut [5, 6] (fun a5 a6 wx => ∃ (n C : Nat) (vs : List ByteArray) (hx : ByteArray) (zs : List Value), a5 = .slice (some ⟨W, 0, none⟩) n C ∧ a6 = .string hx ∧ vs.length = n ∧ 0 < n ∧ n ≤ C ∧ C ≤ 1073741825 ∧ hx.size ≤ 1073741824 ∧ Hid (vs.head? = some x0) ∧ Hid (∀ x ∈ vs, x.size ≤ 1073741824) ∧ Hid (normW (ws.map bytesS) = (vs.map bytesS, bytesS hx)) ∧ Hid (Blk wx W (svs vs ++ zs).toArray 9) ∧ Hid (From W w wx))
    case first =>
      cases sb with
      | true =>
        obtain ⟨h1, h2⟩ := of_decide_eq_true HSB.out
        subst h2
        obtain ⟨x5, hx5⟩ : ∃ x, ws[5]'(by have := HL.out; omega) = x := ⟨_, rfl⟩
        have cell5 : wc.cell? ⟨W, 5, none⟩ = some (.string x5) := by
          have := HL.out
          rw [HBW.out.cell 5]
          simp [svs, hx5, this]
        have hx5s := HSZ.out x5 (by rw [← hx5]; exact List.getElem_mem _)
        have HM : Hid (normW (ws.map bytesS) = ((ws.take 5).map bytesS, bytesS x5)) := by
          show _ = _
          have h9 := HL.out
          unfold normW
          rw [if_pos ⟨by rw [List.length_map]; exact h9, by rw [List.head?_map, HX0.out]; simp [h1]⟩, List.map_take]
          rw [List.getD_eq_getElem?_getD, List.getElem?_eq_getElem (by rw [List.length_map]; omega), Option.getD_some, List.getElem_map, hx5]
        clear hx5
        go_wp2_with fail
        go_quiet (fail)
        go_wp2_with fail
        go_meet
        case rel =>
          have h9 := HL.out
          refine ⟨5, 6, ws.take 5, x5, svs (ws.drop 5), rfl, rfl, by rw [List.length_take]; omega, by omega, by omega, by omega, hx5s, ?_, fun x hx => HSZ.out x (List.mem_of_mem_take hx), HM.out, ?_, HF1.out.drewN _⟩
          · show _ = _
            rw [← HX0.out]
            cases ws with
            | nil => simp at h9
            | cons a b => rfl
          · have h8 : svs (ws.take 5) ++ svs (ws.drop 5) = svs ws := by unfold svs; rw [← List.map_append, List.take_append_drop]
            rw [h8]
            exact HBW.out.drewN _
      | false =>
        go_wp2_with fail
        go_meet
        case rel =>
          have h9 := HL.out
          refine ⟨L, L, ws, ByteArray.empty, [], rfl, rfl, h9, hL0, Nat.le_refl _, by omega, by decide, HX0, HSZ.out, ?_, by rw [List.append_nil]; exact HBW.out, HF1.out⟩
          show _ = _
          have h8 := of_decide_eq_false HSB.out
          unfold normW
          rw [if_neg]
          · rfl
          · rw [List.length_map, List.head?_map, HX0.out, h9]
            intro h7
            exact h8 ⟨by simpa using h7.2, h7.1⟩
    case rest =>
      clear cell0 hwl hL0 HBW HF1 HSB HSZ HX0 HL
      obtain ⟨n, C, vs, hx, zs, rfl, rfl, hvn, hn0, hnC, hC, hxs, HX0, HSZ, HM, HBW, HF1⟩ := hcut
      obtain ⟨X, hX⟩ : ∃ X, wc.heap.size = X := ⟨_, rfl⟩
      have hx0s : x0.size ≤ maxLen := by
        have h1 := HX0.out
        cases vs with
        | nil => cases h1
        | cons a r =>
          simp only [List.head?_cons, Option.some.injEq] at h1
          have := HSZ.out a (by simp)
          rw [h1] at this
          unfold maxLen; omega
      have hm := @run_makeMap Tryz.prog
      have own0 := World.ownsMap_made (H := Unit) wc Tryz.prog 9 (plainElem Tryz.prog 3)
      have HB0 := Lib.hid (HBW.out.alloc (.map #[] 0))
      have HF0 := Lib.hid (HF1.out.alloc (.map #[] 0))
      rw [hX] at own0
      have hWX : W < X := by rw [← hX]; exact HBW.out.lt
      go_upto_region 5 with (first
        | (refine wpList_insert_own (H := Unit) _ rfl _ _ _ 75 rfl 9 3 key_str Tryz.underlying75 (plainElem Tryz.prog 3) X 0 _ rfl own0 (by unfold maxLen; omega) _ _ _ rfl rfl (Go.WideMaps.keyOf_string_mk Tryz.underlying9 (by decide)) _ [] (plainElem_int Tryz.underlying3 (by decide)) ?_; intro wA ownA hgA)
        | (refine wpList_insert_own (H := Unit) _ rfl _ _ _ 75 rfl 9 3 key_str Tryz.underlying75 (plainElem Tryz.prog 3) X 1 _ rfl ownA (by unfold maxLen; omega) _ _ _ rfl rfl (Go.WideMaps.keyOf_string_mk Tryz.underlying9 (by decide)) _ [] (plainElem_int Tryz.underlying3 (by decide)) ?_; intro wB ownB hgB)
        | (refine wpList_insert_own (H := Unit) _ rfl _ _ _ 75 rfl 9 3 key_str Tryz.underlying75 (plainElem Tryz.prog 3) X 2 _ rfl ownB (by unfold maxLen; omega) _ _ _ rfl rfl (Go.WideMaps.keyOf_string_mk Tryz.underlying9 (by decide)) _ [] (plainElem_int Tryz.underlying3 (by decide)) ?_; intro wC ownC hgC; have cell0 := cells_of HB0.out hgA hgB hgC hWX HX0.out)
        | (at_lookup; refine wpList_lookup_own_int (H := Unit) _ rfl _ _ 75 rfl 9 3 .i64 key_str Tryz.underlying75 Tryz.underlying3 (zero_int _) X 3 kwD rfl ownC _ _ rfl (Go.WideMaps.keyOf_string_mk Tryz.underlying9 hx0s) ?_; intro c hat hwc)
        | fail)
      have HBC := Lib.hid (HB0.out.grown ((hgA.trans hgB).trans hgC) (by intro e; simp only [Option.some.injEq] at e; omega))
      have HFC := Lib.hid ((HF0.out.grown ((hgA.trans hgB).trans hgC) (fun k hk => by simp only [Option.some.injEq] at hk; omega)))
      have hc := kw_at _ c hat
      have HHE : Hid (lineI o (bytesS s) = fiveI o (bytesS hx) (vs.map bytesS)) := by
        show _ = _
        unfold lineI
        rw [← HWS.out, wordsI_norm, HM.out]
      have HQW : Hid (q < W) := by
        obtain ⟨_, _, _, h1, _⟩ := HBX.out
        rw [← hW]; exact h1.lt
      have HEC : Hid (∀ u, From W w u → Env u) := fun u hu => HE.out.call (by rw [hW]; exact hu.below)
      obtain ⟨vs0, vy0, LS, hb0, hoLS, hs0, hy0, hqB, hBw⟩ := HBX.out
      have HLT : Hid (∀ k ∈ vs0.ownBlock.toList ++ blksOf LS, k < W) := fun k hk => by rw [← hW]; exact (hs0.lt k hk).2
      have HOL := Lib.hid hoLS
      have HXC : Hid (∀ u, From W w u → Blk u q #[vs0, vy0] 28 ∧ OwnSecs u B vs0 LS ∧ OwnSyms u B vy0 o.syms) := fun u hu => by
        have h9 : Below w.heap.size w u := by rw [hW]; exact hu.below
        exact ⟨hb0.call h9, hs0.call h9, owns_call hy0 h9⟩
      rw [hW] at hBw
      clear hb0 hoLS hs0 hy0
      clear hat hwc hm own0 ownA ownB ownC hgA hgB hgC HB0 HF0 HBW HF1 HM HWS HE HBX hX hWX hW
      by_cases hkw : bytesS x0 = secT ∨ bytesS x0 = fixT ∨ bytesS x0 = symT
      · have hkw2 : (x0.data.toList = secT ∨ x0.data.toList = fixT ∨ x0.data.toList = symT) := hkw
        rw [if_pos hkw2] at hc
        clear hkw2
        subst hc
        by_cases h5 : n = 5
        · subst h5
          obtain ⟨x1, x2, x3, x4, rfl⟩ : ∃ x1 x2 x3 x4, vs = [x0, x1, x2, x3, x4] := by
            have h1 := HX0.out
            match vs, hvn, h1 with
            | [a, b, c, d, e], _, h1 =>
              simp only [List.head?_cons, Option.some.injEq] at h1
              subst h1
              exact ⟨_, _, _, _, rfl⟩
          have cell1 : wC.cell? ⟨W, 1, none⟩ = some (.string x1) := by rw [HBC.out.cell 1]; rfl
          clear HX0 hvn hn0
          have HZ : Hid (∀ x ∈ [x0, x1, x2, x3, x4], x.size ≤ 281474976710656) := fun x hx => by have := HSZ.out x hx; omega
          clear HSZ
          by_cases hfx : bytesS x0 = fixT
          · have g1 := (toList_iff x0 [102, 105, 120, 117, 112]).2 hfx
            have i3 : (1 : Int) ≤ (C : Int) := by omega
            go_wp2_with fail
            refine (i_numbersOf wC _ [x1, x2, x3, x4] (strs_tail (x := x0) (zs := zs) (c := C - 1) HBC.out (by simp; omega) (by unfold maxLen; omega)) (fun x hx => HZ.out x (List.mem_cons_of_mem _ hx)) (by simp) (HEC.out wC HFC.out)).mono ?_
            obtain ⟨nu, hnu⟩ : ∃ nu, numsO [x1, x2, x3, x4] = nu := ⟨_, rfl⟩
            rw [hnu]
            rintro e wE ⟨r, rfl, hro, hbE⟩
            have HFE := Lib.hid (HFC.out.call hbE)
            have HBE := Lib.hid (HBC.out.call hbE)
            clear cell0 cell1 HBC
            have cell0 : wE.cell? ⟨W, 0, none⟩ = some (.string x0) := by rw [HBE.out.cell 0]; rfl
            have HNU := Lib.hid hnu
            cases nu with
            | none =>
              have HN : Hid (lineI o (bytesS s) = none) := by
                show _ = _
                rw [HHE.out]
                show fiveI o (bytesS hx) [bytesS x0, bytesS x1, bytesS x2, bytesS x3, bytesS x4] = none
                rw [hfx]; exact five_fix_none _ _ _ _ _ _ hnu
              clear hnu hkw hfx hro hbE
              simp only [Option.isSome_none]
              go_wp2_with fail
              go_ret
              exact ⟨by rw [HN.out]; rfl, (fun o1 h => by rw [HN.out] at h; cases h), HFE.out.below.mono (Nat.le_of_lt HQW.out)⟩
            | some ns =>
              obtain ⟨nn, a, b, c, rfl⟩ : ∃ n a b c, ns = [n, a, b, c] := by
                have h1 := numsO_length _ _ hnu
                match ns, h1 with
                | [n, a, b, c], _ => exact ⟨_, _, _, _, rfl⟩
              obtain ⟨rg, rc, rfl, hrc, hrm, -, hri⟩ := (OwnI.reads hro : IntsAt _ _ [nn, a, b, c]).form
              obtain ⟨rb, rf, rfl, hrj⟩ := hri (by simp)
              have n0 : wE.cell? ⟨rb, rf, none⟩ = some (.int .i64 nn) := hrj 0 (by simp)
              have n1 : wE.cell? ⟨rb, rf + 1, none⟩ = some (.int .i64 a) := hrj 1 (by simp)
              have n2 : wE.cell? ⟨rb, rf + 2, none⟩ = some (.int .i64 b) := hrj 2 (by simp)
              have n3 : wE.cell? ⟨rb, rf + 3, none⟩ = some (.int .i64 c) := hrj 3 (by simp)
              have hrbE : rb < wE.heap.size := World.block_lt_of_cell? wE _ n0
              unfold maxLen at hrm
              simp only [List.length_cons, List.length_nil, Nat.zero_add, Nat.reduceAdd] at hrc hrm ⊢
              have HLI : Hid (lineI o (bytesS s) = if o.secs = [] then none else some ⟨addLast o.secs (nn, a, b, c), o.syms⟩) := by
                show _ = _
                rw [HHE.out]
                show fiveI o (bytesS hx) [bytesS x0, bytesS x1, bytesS x2, bytesS x3, bytesS x4] = _
                rw [hfx]; exact five_fix_some _ _ _ _ _ _ _ _ _ _ hnu
              clear hnu hri hrj hro hbE HBE HZ
              simp only [Option.isSome_some]
              have e1 : ¬ x0.toList = [115, 101, 99, 116, 105, 111, 110] := fun e => by rw [g1] at e; exact absurd e (by decide)
              have e2 : (x0.toList == [115, 101, 99, 116, 105, 111, 110]) = false := by simpa using e1
              clear hkw hfx
              obtain ⟨hb1, hs1, hy1⟩ := HXC.out wE HFE.out
              obtain ⟨sn, hsn⟩ : ∃ n, LS.length = n := ⟨_, rfl⟩
              obtain ⟨sa, sc, rfl⟩ : ∃ sa sc, vs0 = .slice sa sn sc := by rw [← hsn]; exact owns_form hs1.row
              have hfl : sn ≤ N := by have h1 := HFW.out.1; rw [HOL.out, List.length_map, hsn] at h1; exact h1
              have HB1 := Lib.hid hb1
              have HS1 := Lib.hid hs1
              have HY1 := Lib.hid hy1
              have HSN := Lib.hid hsn
              have cB := hb1.cell
              have zB := hb1.lt
              clear hb1 hs1 hy1 HXC hsn
              have e9 : IntKind.i64.wrap ((sn : Int) - 1) = (sn : Int) - 1 := IntWalk.i64_in _ (by omega)
              by_cases hs0 : sn = 0
              · subst hs0
                have HN : Hid (lineI o (bytesS s) = none) := by
                  show _ = _
                  rw [HLI.out, if_pos]
                  rw [HOL.out, List.eq_nil_of_length_eq_zero HSN.out]
                  rfl
                go_wp2_with fail
                go_ret
                exact ⟨by rw [HN.out]; rfl, (fun o1 h => by rw [HN.out] at h; cases h), HFE.out.below.mono (Nat.le_of_lt HQW.out)⟩
              · have i4 : ¬ ((sn : Int) - 1 < 0) := by omega
                obtain ⟨k, hk⟩ : ∃ k, sn = k + 1 := ⟨sn - 1, by omega⟩
                have hk1 : (sn : Int) - 1 = (k : Int) := by omega
                have i5 : (k : Int) < (sn : Int) := by omega
                have i6 : (0 : Int) ≤ (k : Int) := by omega
                have HK := Lib.hid hk
                clear hk
                go_upto_region 26 with fail
                try simp only [hk1]
                clear hk1 e9 i4
                obtain ⟨pg, rfl⟩ : ∃ pg, sa = some ⟨pg, 0, none⟩ := by
                  rcases HS1.out.row.2 with ⟨h, _⟩ | ⟨g, cap, cur, h, _⟩
                  · injection h with h1 h2 h3; exact absurd h2 hs0
                  · injection h with h1 h2 h3; exact ⟨g, h1⟩
                obtain ⟨D, ⟨⟨xn, xk, xl, xb, xs, F⟩, vb, vf⟩, rfl⟩ : ∃ D x, LS = D ++ [x] := by
                  have h1 := HSN.out
                  have h2 : LS ≠ [] := fun e => by rw [e, HK.out] at h1; cases h1
                  exact ⟨_, _, (List.dropLast_concat_getLast h2).symm⟩
                have hdk : D.length = k := by have h8 := HSN.out; have h9 := HK.out; simp only [List.length_append, List.length_cons, List.length_nil] at h8; omega
                have HDK := Lib.hid hdk
                have hlm := HS1.out.each ((⟨xn, xk, xl, xb, xs, F⟩ : SecD), vb, vf) (by simp)
                obtain ⟨j, hj⟩ : ∃ j, F.length = j := ⟨_, rfl⟩
                obtain ⟨fa, fc, rfl⟩ : ∃ fa fc, vf = .slice fa j fc := by rw [← hj]; exact owns_form hlm.2
                have hmf : wE.ownsRow B 56 4 (.slice fa j fc) j (fixCells F) := by have h9 := hlm.2; unfold OwnF at h9; simp only [hj] at h9; exact h9
                have hjN : j ≤ N := by
                  have h9 := HFW.out.2.2 ⟨xn, xk, xl, xb, xs, F⟩ (by rw [HOL.out]; simp)
                  rw [← hj]; exact h9
                have hc5 : wE.cell? ⟨pg, k * 6 + 5, none⟩ = some (.slice fa j fc) := by
                  have h9 := HS1.out.cell HSN.out.symm 5 _ rfl
                  rw [hdk] at h9
                  exact h9
                have hpgl := World.block_lt_of_cell? wE _ hc5
                have hpgB : B ≤ pg := (World.ownsRow.lt HS1.out.row pg rfl).1
                have HMF := Lib.hid hmf
                have HFJ := Lib.hid hj
                have hqf : q ∉ (Value.slice fa j fc).ownBlock.toList := fun h9 => by have := (World.ownsRow.lt hmf q (by simpa using h9)).1; omega
                clear hlm hmf hdk hj cB zB cell0
                obtain ⟨j0, hj0, ja0, ja1, ja2⟩ := info_parts info_fix
                let f0 : Nat → Value := fun i => match i with
                  | 0 => .pointer (some ⟨q, 0, none⟩)
                  | 1 => .pointer (some ⟨q, 0, none⟩)
                  | 2 => .pointer (some ⟨q, 0, none⟩)
                  | 3 => .slice (some ⟨pg, 0, none⟩) sn sc
                  | 4 => .int .i64 (k : Int)
                  | 5 => .pointer (some ⟨q, 0, none⟩)
                  | 6 => .pointer (some ⟨q, 0, none⟩)
                  | 7 => .pointer (some ⟨q, 0, none⟩)
                  | 8 => .slice (some ⟨pg, 0, none⟩) sn sc
                  | 9 => .int .i64 (k : Int)
                  | 10 => .pointer (some ⟨pg, k * 6, none⟩)
                  | 11 => .pointer (some ⟨pg, k * 6 + 5, none⟩)
                  | 12 => .slice fa j fc
                  | 13 => .slice (some ⟨rb, rf, none⟩) 4 rc
                  | 14 => .pointer (some ⟨rb, rf, none⟩)
                  | 15 => .int .i64 nn
                  | 16 => .slice (some ⟨rb, rf, none⟩) 4 rc
                  | 17 => .pointer (some ⟨rb, rf + 1, none⟩)
                  | 18 => .int .i64 a
                  | 19 => .slice (some ⟨rb, rf, none⟩) 4 rc
                  | 20 => .pointer (some ⟨rb, rf + 2, none⟩)
                  | 21 => .int .i64 b
                  | 22 => .slice (some ⟨rb, rf, none⟩) 4 rc
                  | 23 => .pointer (some ⟨rb, rf + 3, none⟩)
                  | 24 => .int .i64 c
                  | 25 => .agg #[.int .i64 nn, .int .i64 a, .int .i64 b, .int .i64 c]
                  | 28 => .pointer (some ⟨pg, k * 6, none⟩)
                  | 29 => .pointer (some ⟨pg, k * 6 + 5, none⟩)
                  | _ => undef
                let Mid : World → Value → Prop := fun u v' => ∃ u0, Below wE.heap.size wE u0 ∧ u0.grownBy u (Value.slice fa j fc).ownBlock ∧ u.ownsRow B 56 4 v' (j + 1) ((fixCells F) ++ fixL (nn, a, b, c)) ∧ (v'.ownBlock = (Value.slice fa j fc).ownBlock ∨ v'.ownBlock = some u0.heap.size)
                have hW9 := HFE.out.le
                refine wp_region_get (fun i v u => (i = 26 → ∃ z', v = .slice (some ⟨z', 0, none⟩) 1 1 ∧ Blk u z' #[.int .i64 nn, .int .i64 a, .int .i64 b, .int .i64 c] 56) ∧ (i = 27 → Mid u v) ∧ (i ≠ 26 → i ≠ 27 → v = f0 i))
                  (fun _ f u => (f 27 = false → Below wE.heap.size wE u) ∧ (f 30 = false → Other (Value.slice fa j fc).ownBlock.toList wE u) ∧ (f 30 = true → ∃ v' u1, u = u1.setCell ⟨pg, k * 6 + 5, none⟩ v' ∧ Mid u1 v'))
                  [[], [0], [1], [2], [], [], [5], [6], [7], [], [8, 9], [10], [11], [], [13], [14], [], [16], [17], [], [19], [20], [], [22], [23], [15, 18, 21, 24], [25], [12, 26], [3, 4], [28], [27, 29]] [[], [0], [0, 1], [0, 1, 2], [], [], [5], [5, 6], [5, 6, 7], [], [5, 6, 7, 8, 9], [5, 6, 7, 8, 9, 10], [5, 6, 7, 8, 9, 10, 11], [], [13], [13, 14], [], [16], [16, 17], [], [19], [19, 20], [], [22], [22, 23], [13, 14, 15, 16, 17, 18, 19, 20, 21, 22, 23, 24], [13, 14, 15, 16, 17, 18, 19, 20, 21, 22, 23, 24, 25], [5, 6, 7, 8, 9, 10, 11, 12, 13, 14, 15, 16, 17, 18, 19, 20, 21, 22, 23, 24, 25, 26], [0, 1, 2, 3, 4, 5, 6, 7, 8, 9, 10, 11, 12, 13, 14, 15, 16, 17, 18, 19, 20, 21, 22, 23, 24, 25, 26, 27], [0, 1, 2, 3, 4, 5, 6, 7, 8, 9, 10, 11, 12, 13, 14, 15, 16, 17, 18, 19, 20, 21, 22, 23, 24, 25, 26, 27, 28], [0, 1, 2, 3, 4, 5, 6, 7, 8, 9, 10, 11, 12, 13, 14, 15, 16, 17, 18, 19, 20, 21, 22, 23, 24, 25, 26, 27, 28, 29]] [] (by kernel_rfl) (by kernel_rfl) (by kernel_rfl) (by kernel_rfl) (by kernel_rfl)
                  ⟨fun _ => ((From.start wE).drew).below, fun _ => Other.below ((From.start wE).drew).below, fun h => by cases h⟩ ?ho ?hq
                case ho =>
                  refine ⟨?_, ?_, ?_, ?_, ?_, ?_, ?_, ?_, ?_, ?_, ?_, ?_, ?_, ?_, ?_, ?_, ?_, ?_, ?_, ?_, ?_, ?_, ?_, ?_, ?_, ?_, ?_, ?_, ?_, ?_, ?_, trivial⟩
                  · intro n f a9 u K' hfr hn hl hS hv hK'
                    have eA8 : a9.tmps.getD 0 undef = .pointer (some ⟨q, 0, none⟩) := hfr 0 (no_dst (by kernel_rfl))
                    have eB8 : (a9.tmps[0]?).getD undef = .pointer (some ⟨q, 0, none⟩) := by simpa using eA8
                    refine owe_run rfl (wp_val (v := .pointer (some ⟨q, 0, none⟩)) ?_ (hK' _ _ ⟨fun h => hS.1 (setl_off h), fun h => hS.2.1 (setl_off h), fun h => hS.2.2 (by rwa [setl_ne (by decide)] at h)⟩ (fun _ _ _ h => h) (fun _ => ⟨fun e => absurd e (by decide), fun e => absurd e (by decide), fun _ _ => rfl⟩)))
                    first
                      | (go_simp; done)
                      | (go_simp; rfl)
                  · intro n f a9 u K' hfr hn hl hS hv hK'
                    have eA0 : a9.tmps.getD 105 undef = .pointer (some ⟨q, 0, none⟩) := hv.1.2.2 (by decide) (by decide)
                    have eB0 : (a9.tmps[105]?).getD undef = .pointer (some ⟨q, 0, none⟩) := by simpa using eA0
                    refine owe_run rfl (wp_val (v := .pointer (some ⟨q, 0, none⟩)) ?_ (hK' _ _ ⟨fun h => hS.1 (setl_off h), fun h => hS.2.1 (setl_off h), fun h => hS.2.2 (by rwa [setl_ne (by decide)] at h)⟩ (fun _ _ _ h => h) (fun _ => ⟨fun e => absurd e (by decide), fun e => absurd e (by decide), fun _ _ => rfl⟩)))
                    first
                      | (go_simp; done)
                      | (go_simp; rfl)
                  · intro n f a9 u K' hfr hn hl hS hv hK'
                    have eA0 : a9.tmps.getD 106 undef = .pointer (some ⟨q, 0, none⟩) := hv.1.2.2 (by decide) (by decide)
                    have eB0 : (a9.tmps[106]?).getD undef = .pointer (some ⟨q, 0, none⟩) := by simpa using eA0
                    refine owe_run rfl (wp_val (v := .pointer (some ⟨q, 0, none⟩)) ?_ (hK' _ _ ⟨fun h => hS.1 (setl_off h), fun h => hS.2.1 (setl_off h), fun h => hS.2.2 (by rwa [setl_ne (by decide)] at h)⟩ (fun _ _ _ h => h) (fun _ => ⟨fun e => absurd e (by decide), fun e => absurd e (by decide), fun _ _ => rfl⟩)))
                    first
                      | (go_simp; done)
                      | (go_simp; rfl)
                  · intro n f a9 u K' hfr hn hl hS hv hK'
                    have eA0 : a9.tmps.getD 107 undef = .pointer (some ⟨q, 0, none⟩) := hv.1.2.2 (by decide) (by decide)
                    have eB0 : (a9.tmps[107]?).getD undef = .pointer (some ⟨q, 0, none⟩) := by simpa using eA0
                    have ho9 := hS.2.1 (hl.2.2 30 (by decide))
                    have hbo := HB1.out.otherB ho9 hqf
                    have cu := hbo.cell
                    have zu := hbo.lt
                    refine owe_run rfl (wp_val (v := .slice (some ⟨pg, 0, none⟩) sn sc) ?_ (hK' _ _ ⟨fun h => hS.1 (setl_off h), fun h => hS.2.1 (setl_off h), fun h => hS.2.2 (by rwa [setl_ne (by decide)] at h)⟩ (fun _ _ _ h => h) (fun _ => ⟨fun e => absurd e (by decide), fun e => absurd e (by decide), fun _ _ => rfl⟩)))
                    first
                      | (go_simp; done)
                      | (go_simp; rfl)
                  · intro n f a9 u K' hfr hn hl hS hv hK'
                    have eA8 : a9.tmps.getD 14 undef = .int .i64 (k : Int) := hfr 14 (no_dst (by kernel_rfl))
                    have eB8 : (a9.tmps[14]?).getD undef = .int .i64 (k : Int) := by simpa using eA8
                    refine owe_run rfl (wp_val (v := .int .i64 (k : Int)) ?_ (hK' _ _ ⟨fun h => hS.1 (setl_off h), fun h => hS.2.1 (setl_off h), fun h => hS.2.2 (by rwa [setl_ne (by decide)] at h)⟩ (fun _ _ _ h => h) (fun _ => ⟨fun e => absurd e (by decide), fun e => absurd e (by decide), fun _ _ => rfl⟩)))
                    first
                      | (go_simp; done)
                      | (go_simp; rfl)
                  · intro n f a9 u K' hfr hn hl hS hv hK'
                    have eA8 : a9.tmps.getD 0 undef = .pointer (some ⟨q, 0, none⟩) := hfr 0 (no_dst (by kernel_rfl))
                    have eB8 : (a9.tmps[0]?).getD undef = .pointer (some ⟨q, 0, none⟩) := by simpa using eA8
                    refine owe_run rfl (wp_val (v := .pointer (some ⟨q, 0, none⟩)) ?_ (hK' _ _ ⟨fun h => hS.1 (setl_off h), fun h => hS.2.1 (setl_off h), fun h => hS.2.2 (by rwa [setl_ne (by decide)] at h)⟩ (fun _ _ _ h => h) (fun _ => ⟨fun e => absurd e (by decide), fun e => absurd e (by decide), fun _ _ => rfl⟩)))
                    first
                      | (go_simp; done)
                      | (go_simp; rfl)
                  · intro n f a9 u K' hfr hn hl hS hv hK'
                    have eA0 : a9.tmps.getD 110 undef = .pointer (some ⟨q, 0, none⟩) := hv.1.2.2 (by decide) (by decide)
                    have eB0 : (a9.tmps[110]?).getD undef = .pointer (some ⟨q, 0, none⟩) := by simpa using eA0
                    refine owe_run rfl (wp_val (v := .pointer (some ⟨q, 0, none⟩)) ?_ (hK' _ _ ⟨fun h => hS.1 (setl_off h), fun h => hS.2.1 (setl_off h), fun h => hS.2.2 (by rwa [setl_ne (by decide)] at h)⟩ (fun _ _ _ h => h) (fun _ => ⟨fun e => absurd e (by decide), fun e => absurd e (by decide), fun _ _ => rfl⟩)))
                    first
                      | (go_simp; done)
                      | (go_simp; rfl)
                  · intro n f a9 u K' hfr hn hl hS hv hK'
                    have eA0 : a9.tmps.getD 111 undef = .pointer (some ⟨q, 0, none⟩) := hv.1.2.2 (by decide) (by decide)
                    have eB0 : (a9.tmps[111]?).getD undef = .pointer (some ⟨q, 0, none⟩) := by simpa using eA0
                    refine owe_run rfl (wp_val (v := .pointer (some ⟨q, 0, none⟩)) ?_ (hK' _ _ ⟨fun h => hS.1 (setl_off h), fun h => hS.2.1 (setl_off h), fun h => hS.2.2 (by rwa [setl_ne (by decide)] at h)⟩ (fun _ _ _ h => h) (fun _ => ⟨fun e => absurd e (by decide), fun e => absurd e (by decide), fun _ _ => rfl⟩)))
                    first
                      | (go_simp; done)
                      | (go_simp; rfl)
                  · intro n f a9 u K' hfr hn hl hS hv hK'
                    have eA0 : a9.tmps.getD 112 undef = .pointer (some ⟨q, 0, none⟩) := hv.1.2.2 (by decide) (by decide)
                    have eB0 : (a9.tmps[112]?).getD undef = .pointer (some ⟨q, 0, none⟩) := by simpa using eA0
                    have hb9 := hS.1 (hl.2.2 27 (by decide))
                    have cu := (HB1.out.call hb9).cell
                    have zu := (HB1.out.call hb9).lt
                    refine owe_run rfl (wp_val (v := .slice (some ⟨pg, 0, none⟩) sn sc) ?_ (hK' _ _ ⟨fun h => hS.1 (setl_off h), fun h => hS.2.1 (setl_off h), fun h => hS.2.2 (by rwa [setl_ne (by decide)] at h)⟩ (fun _ _ _ h => h) (fun _ => ⟨fun e => absurd e (by decide), fun e => absurd e (by decide), fun _ _ => rfl⟩)))
                    first
                      | (go_simp; done)
                      | (go_simp; rfl)
                  · intro n f a9 u K' hfr hn hl hS hv hK'
                    have eA8 : a9.tmps.getD 14 undef = .int .i64 (k : Int) := hfr 14 (no_dst (by kernel_rfl))
                    have eB8 : (a9.tmps[14]?).getD undef = .int .i64 (k : Int) := by simpa using eA8
                    refine owe_run rfl (wp_val (v := .int .i64 (k : Int)) ?_ (hK' _ _ ⟨fun h => hS.1 (setl_off h), fun h => hS.2.1 (setl_off h), fun h => hS.2.2 (by rwa [setl_ne (by decide)] at h)⟩ (fun _ _ _ h => h) (fun _ => ⟨fun e => absurd e (by decide), fun e => absurd e (by decide), fun _ _ => rfl⟩)))
                    first
                      | (go_simp; done)
                      | (go_simp; rfl)
                  · intro n f a9 u K' hfr hn hl hS hv hK'
                    have eA0 : a9.tmps.getD 113 undef = .slice (some ⟨pg, 0, none⟩) sn sc := hv.1.2.2 (by decide) (by decide)
                    have eB0 : (a9.tmps[113]?).getD undef = .slice (some ⟨pg, 0, none⟩) sn sc := by simpa using eA0
                    have eA1 : a9.tmps.getD 114 undef = .int .i64 (k : Int) := hv.2.1.2.2 (by decide) (by decide)
                    have eB1 : (a9.tmps[114]?).getD undef = .int .i64 (k : Int) := by simpa using eA1
                    refine owe_run rfl (wp_val (v := .pointer (some ⟨pg, k * 6, none⟩)) ?_ (hK' _ _ ⟨fun h => hS.1 (setl_off h), fun h => hS.2.1 (setl_off h), fun h => hS.2.2 (by rwa [setl_ne (by decide)] at h)⟩ (fun _ _ _ h => h) (fun _ => ⟨fun e => absurd e (by decide), fun e => absurd e (by decide), fun _ _ => rfl⟩)))
                    first
                      | (go_simp; done)
                      | (go_simp; rfl)
                  · intro n f a9 u K' hfr hn hl hS hv hK'
                    have eA0 : a9.tmps.getD 115 undef = .pointer (some ⟨pg, k * 6, none⟩) := hv.1.2.2 (by decide) (by decide)
                    have eB0 : (a9.tmps[115]?).getD undef = .pointer (some ⟨pg, k * 6, none⟩) := by simpa using eA0
                    refine owe_run rfl (wp_val (v := .pointer (some ⟨pg, k * 6 + 5, none⟩)) ?_ (hK' _ _ ⟨fun h => hS.1 (setl_off h), fun h => hS.2.1 (setl_off h), fun h => hS.2.2 (by rwa [setl_ne (by decide)] at h)⟩ (fun _ _ _ h => h) (fun _ => ⟨fun e => absurd e (by decide), fun e => absurd e (by decide), fun _ _ => rfl⟩)))
                    first
                      | (go_simp; done)
                      | (go_simp; rfl)
                  · intro n f a9 u K' hfr hn hl hS hv hK'
                    have eA0 : a9.tmps.getD 116 undef = .pointer (some ⟨pg, k * 6 + 5, none⟩) := hv.1.2.2 (by decide) (by decide)
                    have eB0 : (a9.tmps[116]?).getD undef = .pointer (some ⟨pg, k * 6 + 5, none⟩) := by simpa using eA0
                    have hb9 := hS.1 (hl.2.2 27 (by decide))
                    have cu : u.cell? ⟨pg, k * 6 + 5, none⟩ = some (.slice fa j fc) := (hb9.cell (p := ⟨pg, k * 6 + 5, none⟩) hpgl).trans hc5
                    refine owe_run rfl (wp_val (v := .slice fa j fc) ?_ (hK' _ _ ⟨fun h => hS.1 (setl_off h), fun h => hS.2.1 (setl_off h), fun h => hS.2.2 (by rwa [setl_ne (by decide)] at h)⟩ (fun _ _ _ h => h) (fun _ => ⟨fun e => absurd e (by decide), fun e => absurd e (by decide), fun _ _ => rfl⟩)))
                    first
                      | (go_simp; done)
                      | (go_simp; rfl)
                  · intro n f a9 u K' hfr hn hl hS hv hK'
                    have eA8 : a9.tmps.getD 9 undef = .slice (some ⟨rb, rf, none⟩) 4 rc := hfr 9 (no_dst (by kernel_rfl))
                    have eB8 : (a9.tmps[9]?).getD undef = .slice (some ⟨rb, rf, none⟩) 4 rc := by simpa using eA8
                    refine owe_run rfl (wp_val (v := .slice (some ⟨rb, rf, none⟩) 4 rc) ?_ (hK' _ _ ⟨fun h => hS.1 (setl_off h), fun h => hS.2.1 (setl_off h), fun h => hS.2.2 (by rwa [setl_ne (by decide)] at h)⟩ (fun _ _ _ h => h) (fun _ => ⟨fun e => absurd e (by decide), fun e => absurd e (by decide), fun _ _ => rfl⟩)))
                    first
                      | (go_simp; done)
                      | (go_simp; rfl)
                  · intro n f a9 u K' hfr hn hl hS hv hK'
                    have eA0 : a9.tmps.getD 118 undef = .slice (some ⟨rb, rf, none⟩) 4 rc := hv.1.2.2 (by decide) (by decide)
                    have eB0 : (a9.tmps[118]?).getD undef = .slice (some ⟨rb, rf, none⟩) 4 rc := by simpa using eA0
                    refine owe_run rfl (wp_val (v := .pointer (some ⟨rb, rf, none⟩)) ?_ (hK' _ _ ⟨fun h => hS.1 (setl_off h), fun h => hS.2.1 (setl_off h), fun h => hS.2.2 (by rwa [setl_ne (by decide)] at h)⟩ (fun _ _ _ h => h) (fun _ => ⟨fun e => absurd e (by decide), fun e => absurd e (by decide), fun _ _ => rfl⟩)))
                    first
                      | (go_simp; done)
                      | (go_simp; rfl)
                  · intro n f a9 u K' hfr hn hl hS hv hK'
                    have eA0 : a9.tmps.getD 119 undef = .pointer (some ⟨rb, rf, none⟩) := hv.1.2.2 (by decide) (by decide)
                    have eB0 : (a9.tmps[119]?).getD undef = .pointer (some ⟨rb, rf, none⟩) := by simpa using eA0
                    have hb9 := hS.1 (hl.2.2 27 (by decide))
                    have cu := (hb9.cell (p := ⟨rb, rf, none⟩) hrbE).trans n0
                    refine owe_run rfl (wp_val (v := .int .i64 nn) ?_ (hK' _ _ ⟨fun h => hS.1 (setl_off h), fun h => hS.2.1 (setl_off h), fun h => hS.2.2 (by rwa [setl_ne (by decide)] at h)⟩ (fun _ _ _ h => h) (fun _ => ⟨fun e => absurd e (by decide), fun e => absurd e (by decide), fun _ _ => rfl⟩)))
                    first
                      | (go_simp; done)
                      | (go_simp; rfl)
                  · intro n f a9 u K' hfr hn hl hS hv hK'
                    have eA8 : a9.tmps.getD 9 undef = .slice (some ⟨rb, rf, none⟩) 4 rc := hfr 9 (no_dst (by kernel_rfl))
                    have eB8 : (a9.tmps[9]?).getD undef = .slice (some ⟨rb, rf, none⟩) 4 rc := by simpa using eA8
                    refine owe_run rfl (wp_val (v := .slice (some ⟨rb, rf, none⟩) 4 rc) ?_ (hK' _ _ ⟨fun h => hS.1 (setl_off h), fun h => hS.2.1 (setl_off h), fun h => hS.2.2 (by rwa [setl_ne (by decide)] at h)⟩ (fun _ _ _ h => h) (fun _ => ⟨fun e => absurd e (by decide), fun e => absurd e (by decide), fun _ _ => rfl⟩)))
                    first
                      | (go_simp; done)
                      | (go_simp; rfl)
                  · intro n f a9 u K' hfr hn hl hS hv hK'
                    have eA0 : a9.tmps.getD 121 undef = .slice (some ⟨rb, rf, none⟩) 4 rc := hv.1.2.2 (by decide) (by decide)
                    have eB0 : (a9.tmps[121]?).getD undef = .slice (some ⟨rb, rf, none⟩) 4 rc := by simpa using eA0
                    refine owe_run rfl (wp_val (v := .pointer (some ⟨rb, rf + 1, none⟩)) ?_ (hK' _ _ ⟨fun h => hS.1 (setl_off h), fun h => hS.2.1 (setl_off h), fun h => hS.2.2 (by rwa [setl_ne (by decide)] at h)⟩ (fun _ _ _ h => h) (fun _ => ⟨fun e => absurd e (by decide), fun e => absurd e (by decide), fun _ _ => rfl⟩)))
                    first
                      | (go_simp; done)
                      | (go_simp; rfl)
                  · intro n f a9 u K' hfr hn hl hS hv hK'
                    have eA0 : a9.tmps.getD 122 undef = .pointer (some ⟨rb, rf + 1, none⟩) := hv.1.2.2 (by decide) (by decide)
                    have eB0 : (a9.tmps[122]?).getD undef = .pointer (some ⟨rb, rf + 1, none⟩) := by simpa using eA0
                    have hb9 := hS.1 (hl.2.2 27 (by decide))
                    have cu := (hb9.cell (p := ⟨rb, rf + 1, none⟩) hrbE).trans n1
                    refine owe_run rfl (wp_val (v := .int .i64 a) ?_ (hK' _ _ ⟨fun h => hS.1 (setl_off h), fun h => hS.2.1 (setl_off h), fun h => hS.2.2 (by rwa [setl_ne (by decide)] at h)⟩ (fun _ _ _ h => h) (fun _ => ⟨fun e => absurd e (by decide), fun e => absurd e (by decide), fun _ _ => rfl⟩)))
                    first
                      | (go_simp; done)
                      | (go_simp; rfl)
                  · intro n f a9 u K' hfr hn hl hS hv hK'
                    have eA8 : a9.tmps.getD 9 undef = .slice (some ⟨rb, rf, none⟩) 4 rc := hfr 9 (no_dst (by kernel_rfl))
                    have eB8 : (a9.tmps[9]?).getD undef = .slice (some ⟨rb, rf, none⟩) 4 rc := by simpa using eA8
                    refine owe_run rfl (wp_val (v := .slice (some ⟨rb, rf, none⟩) 4 rc) ?_ (hK' _ _ ⟨fun h => hS.1 (setl_off h), fun h => hS.2.1 (setl_off h), fun h => hS.2.2 (by rwa [setl_ne (by decide)] at h)⟩ (fun _ _ _ h => h) (fun _ => ⟨fun e => absurd e (by decide), fun e => absurd e (by decide), fun _ _ => rfl⟩)))
                    first
                      | (go_simp; done)
                      | (go_simp; rfl)
                  · intro n f a9 u K' hfr hn hl hS hv hK'
                    have eA0 : a9.tmps.getD 124 undef = .slice (some ⟨rb, rf, none⟩) 4 rc := hv.1.2.2 (by decide) (by decide)
                    have eB0 : (a9.tmps[124]?).getD undef = .slice (some ⟨rb, rf, none⟩) 4 rc := by simpa using eA0
                    refine owe_run rfl (wp_val (v := .pointer (some ⟨rb, rf + 2, none⟩)) ?_ (hK' _ _ ⟨fun h => hS.1 (setl_off h), fun h => hS.2.1 (setl_off h), fun h => hS.2.2 (by rwa [setl_ne (by decide)] at h)⟩ (fun _ _ _ h => h) (fun _ => ⟨fun e => absurd e (by decide), fun e => absurd e (by decide), fun _ _ => rfl⟩)))
                    first
                      | (go_simp; done)
                      | (go_simp; rfl)
                  · intro n f a9 u K' hfr hn hl hS hv hK'
                    have eA0 : a9.tmps.getD 125 undef = .pointer (some ⟨rb, rf + 2, none⟩) := hv.1.2.2 (by decide) (by decide)
                    have eB0 : (a9.tmps[125]?).getD undef = .pointer (some ⟨rb, rf + 2, none⟩) := by simpa using eA0
                    have hb9 := hS.1 (hl.2.2 27 (by decide))
                    have cu := (hb9.cell (p := ⟨rb, rf + 2, none⟩) hrbE).trans n2
                    refine owe_run rfl (wp_val (v := .int .i64 b) ?_ (hK' _ _ ⟨fun h => hS.1 (setl_off h), fun h => hS.2.1 (setl_off h), fun h => hS.2.2 (by rwa [setl_ne (by decide)] at h)⟩ (fun _ _ _ h => h) (fun _ => ⟨fun e => absurd e (by decide), fun e => absurd e (by decide), fun _ _ => rfl⟩)))
                    first
                      | (go_simp; done)
                      | (go_simp; rfl)
                  · intro n f a9 u K' hfr hn hl hS hv hK'
                    have eA8 : a9.tmps.getD 9 undef = .slice (some ⟨rb, rf, none⟩) 4 rc := hfr 9 (no_dst (by kernel_rfl))
                    have eB8 : (a9.tmps[9]?).getD undef = .slice (some ⟨rb, rf, none⟩) 4 rc := by simpa using eA8
                    refine owe_run rfl (wp_val (v := .slice (some ⟨rb, rf, none⟩) 4 rc) ?_ (hK' _ _ ⟨fun h => hS.1 (setl_off h), fun h => hS.2.1 (setl_off h), fun h => hS.2.2 (by rwa [setl_ne (by decide)] at h)⟩ (fun _ _ _ h => h) (fun _ => ⟨fun e => absurd e (by decide), fun e => absurd e (by decide), fun _ _ => rfl⟩)))
                    first
                      | (go_simp; done)
                      | (go_simp; rfl)
                  · intro n f a9 u K' hfr hn hl hS hv hK'
                    have eA0 : a9.tmps.getD 127 undef = .slice (some ⟨rb, rf, none⟩) 4 rc := hv.1.2.2 (by decide) (by decide)
                    have eB0 : (a9.tmps[127]?).getD undef = .slice (some ⟨rb, rf, none⟩) 4 rc := by simpa using eA0
                    refine owe_run rfl (wp_val (v := .pointer (some ⟨rb, rf + 3, none⟩)) ?_ (hK' _ _ ⟨fun h => hS.1 (setl_off h), fun h => hS.2.1 (setl_off h), fun h => hS.2.2 (by rwa [setl_ne (by decide)] at h)⟩ (fun _ _ _ h => h) (fun _ => ⟨fun e => absurd e (by decide), fun e => absurd e (by decide), fun _ _ => rfl⟩)))
                    first
                      | (go_simp; done)
                      | (go_simp; rfl)
                  · intro n f a9 u K' hfr hn hl hS hv hK'
                    have eA0 : a9.tmps.getD 128 undef = .pointer (some ⟨rb, rf + 3, none⟩) := hv.1.2.2 (by decide) (by decide)
                    have eB0 : (a9.tmps[128]?).getD undef = .pointer (some ⟨rb, rf + 3, none⟩) := by simpa using eA0
                    have hb9 := hS.1 (hl.2.2 27 (by decide))
                    have cu := (hb9.cell (p := ⟨rb, rf + 3, none⟩) hrbE).trans n3
                    refine owe_run rfl (wp_val (v := .int .i64 c) ?_ (hK' _ _ ⟨fun h => hS.1 (setl_off h), fun h => hS.2.1 (setl_off h), fun h => hS.2.2 (by rwa [setl_ne (by decide)] at h)⟩ (fun _ _ _ h => h) (fun _ => ⟨fun e => absurd e (by decide), fun e => absurd e (by decide), fun _ _ => rfl⟩)))
                    first
                      | (go_simp; done)
                      | (go_simp; rfl)
                  · intro n f a9 u K' hfr hn hl hS hv hK'
                    have eA0 : a9.tmps.getD 120 undef = .int .i64 nn := hv.1.2.2 (by decide) (by decide)
                    have eB0 : (a9.tmps[120]?).getD undef = .int .i64 nn := by simpa using eA0
                    have eA1 : a9.tmps.getD 123 undef = .int .i64 a := hv.2.1.2.2 (by decide) (by decide)
                    have eB1 : (a9.tmps[123]?).getD undef = .int .i64 a := by simpa using eA1
                    have eA2 : a9.tmps.getD 126 undef = .int .i64 b := hv.2.2.1.2.2 (by decide) (by decide)
                    have eB2 : (a9.tmps[126]?).getD undef = .int .i64 b := by simpa using eA2
                    have eA3 : a9.tmps.getD 129 undef = .int .i64 c := hv.2.2.2.1.2.2 (by decide) (by decide)
                    have eB3 : (a9.tmps[129]?).getD undef = .int .i64 c := by simpa using eA3
                    refine owe_run rfl (wp_val (v := .agg #[.int .i64 nn, .int .i64 a, .int .i64 b, .int .i64 c]) ?_ (hK' _ _ ⟨fun h => hS.1 (setl_off h), fun h => hS.2.1 (setl_off h), fun h => hS.2.2 (by rwa [setl_ne (by decide)] at h)⟩ (fun _ _ _ h => h) (fun _ => ⟨fun e => absurd e (by decide), fun e => absurd e (by decide), fun _ _ => rfl⟩)))
                    first
                      | (go_simp; done)
                      | (go_simp; rfl)
                  · intro n f a9 u K' hfr hn hl hS hv hK'
                    have eA0 : a9.tmps.getD 130 undef = .agg #[.int .i64 nn, .int .i64 a, .int .i64 b, .int .i64 c] := hv.1.2.2 (by decide) (by decide)
                    have eB0 : (a9.tmps[130]?).getD undef = .agg #[.int .i64 nn, .int .i64 a, .int .i64 b, .int .i64 c] := by simpa using eA0
                    have k1 : Below u.heap.size u (u.alloc (.cells #[.int .i64 nn, .int .i64 a, .int .i64 b, .int .i64 c] 56)) := ((From.start u).alloc _).below
                    refine owe_run rfl (wp_val (v := .slice (some ⟨u.heap.size, 0, none⟩) 1 1) (w' := u.alloc (.cells #[.int .i64 nn, .int .i64 a, .int .i64 b, .int .i64 c] 56)) ?_ (hK' _ _ ⟨fun h => (have hb := hS.1 (setl_off h); ((⟨hb, hb.size⟩ : From _ wE u).alloc _).below), fun h => (hS.2.1 (setl_off h)).trans (Other.below k1), fun h => (by rw [setl_ne (by decide), hl.2.2 30 (by decide)] at h; cases h)⟩ (fun j y hj h => ⟨fun e => (have ⟨z, e1, e2⟩ := h.1 e; ⟨z, e1, e2.call k1⟩), fun e => by subst e; exact absurd hj (by decide), h.2.2⟩) (fun _ => ⟨fun _ => ⟨_, rfl, Blk.new u _ _⟩, fun e => absurd e (by decide), fun e _ => absurd rfl e⟩)))
                    first
                      | (go_simp; done)
                      | (go_simp; rfl)
                  · intro n f a9 u K' hfr hn hl hS hv hK'
                    have eA0 : a9.tmps.getD 117 undef = .slice fa j fc := hv.1.2.2 (by decide) (by decide)
                    obtain ⟨z', e8, hz8⟩ := hv.2.1.1 rfl
                    have hb9 := hS.1 hl.1
                    have hown : u.ownsRow B 56 4 (.slice fa j fc) j (fixCells F) := owns_call HMF.out hb9
                    have hsz := hb9.size
                    refine step_append_newD rfl (.tmp 117) (.tmp 131) 50 50 rfl B 56 j0 _ 4 32 Tryz.underlying50 hj0 ja0 ja1 ja2 rfl (by decide) _ _ _ eA0 hown _ 1 (fixL (nn, a, b, c)) e8 (src_blk Tryz.underlying50 u z' (fixL (nn, a, b, c)) 4 1 1 56 hz8 rfl (by intro u hu; simp only [fixL, List.mem_cons, List.not_mem_nil, or_false] at hu; rcases hu with rfl | rfl | rfl | rfl <;> rfl)) (by unfold maxLen; omega) (by omega) (by omega) ?_
                    intro v' w1 hown1 hgr1 hpl
                    have hmid : Mid w1 v' := ⟨u, hb9, hgr1, hown1, hpl⟩
                    exact hK' _ _ ⟨fun h => (by rw [setl_at] at h; cases h), fun h => (hS.2.1 (setl_off h)).trans (Other.grown hgr1 (fun k' hk' => by simpa using hk')), fun h => (by rw [setl_ne (by decide), hl.2.2 30 (by decide)] at h; cases h)⟩ (fun j y hj h => ⟨fun e => by subst e; exact absurd hj (by decide), fun e => by subst e; exact absurd hj (by decide), h.2.2⟩) (fun _ => ⟨fun e => absurd e (by decide), fun _ => hmid, fun _ e => absurd rfl e⟩)
                  · intro n f a9 u K' hfr hn hl hS hv hK'
                    have eA0 : a9.tmps.getD 108 undef = .slice (some ⟨pg, 0, none⟩) sn sc := hv.1.2.2 (by decide) (by decide)
                    have eB0 : (a9.tmps[108]?).getD undef = .slice (some ⟨pg, 0, none⟩) sn sc := by simpa using eA0
                    have eA1 : a9.tmps.getD 109 undef = .int .i64 (k : Int) := hv.2.1.2.2 (by decide) (by decide)
                    have eB1 : (a9.tmps[109]?).getD undef = .int .i64 (k : Int) := by simpa using eA1
                    refine owe_run rfl (wp_val (v := .pointer (some ⟨pg, k * 6, none⟩)) ?_ (hK' _ _ ⟨fun h => hS.1 (setl_off h), fun h => hS.2.1 (setl_off h), fun h => hS.2.2 (by rwa [setl_ne (by decide)] at h)⟩ (fun _ _ _ h => h) (fun _ => ⟨fun e => absurd e (by decide), fun e => absurd e (by decide), fun _ _ => rfl⟩)))
                    first
                      | (go_simp; done)
                      | (go_simp; rfl)
                  · intro n f a9 u K' hfr hn hl hS hv hK'
                    have eA0 : a9.tmps.getD 133 undef = .pointer (some ⟨pg, k * 6, none⟩) := hv.1.2.2 (by decide) (by decide)
                    have eB0 : (a9.tmps[133]?).getD undef = .pointer (some ⟨pg, k * 6, none⟩) := by simpa using eA0
                    refine owe_run rfl (wp_val (v := .pointer (some ⟨pg, k * 6 + 5, none⟩)) ?_ (hK' _ _ ⟨fun h => hS.1 (setl_off h), fun h => hS.2.1 (setl_off h), fun h => hS.2.2 (by rwa [setl_ne (by decide)] at h)⟩ (fun _ _ _ h => h) (fun _ => ⟨fun e => absurd e (by decide), fun e => absurd e (by decide), fun _ _ => rfl⟩)))
                    first
                      | (go_simp; done)
                      | (go_simp; rfl)
                  · intro n f a9 u K' hfr hn hl hS hv hK'
                    have hmid := hv.1.2.1 rfl
                    have eA1 : a9.tmps.getD 134 undef = .pointer (some ⟨pg, k * 6 + 5, none⟩) := hv.2.1.2.2 (by decide) (by decide)
                    have eB1 : (a9.tmps[134]?).getD undef = .pointer (some ⟨pg, k * 6 + 5, none⟩) := by simpa using eA1
                    obtain ⟨v', hv'⟩ : ∃ v', (a9.tmps[132]?).getD undef = v' := ⟨_, rfl⟩
                    have e9 : a9.tmps.getD 132 undef = v' := by rw [← hv']; simp
                    rw [e9] at hmid
                    have hmid2 := hmid
                    obtain ⟨u0, hb0, hgr0, hown0, hpl0⟩ := hmid
                    obtain ⟨va9, vc9, e10⟩ : ∃ va9 vc9, v' = .slice va9 (j + 1) vc9 := owns_form hown0
                    subst e10
                    have ho9 : Other (Value.slice fa j fc).ownBlock.toList wE u := (Other.below hb0).trans (Other.grown hgr0 (fun k' hk' => by simpa using hk'))
                    have hf9 : OwnF u B (Value.slice va9 (j + 1) vc9) (F ++ [((nn, a, b, c) : FixD)]) := fix_snoc (by rw [HFJ.out]; exact hown0)
                    have hp9 : ∀ k', (Value.slice va9 (j + 1) vc9).ownBlock = some k' → (Value.slice fa j fc).ownBlock = some k' ∨ wE.heap.size ≤ k' := fun k' hk' => by
                      rcases hpl0 with e | e
                      · exact .inl (e ▸ hk')
                      · rw [e] at hk'; simp only [Option.some.injEq] at hk'; have := hb0.size; right; omega
                    have hrow := (HS1.out.addFix HSN.out.symm ho9 hf9 hp9).2
                    have cq := World.ownsRow.cellAt hrow (k * 6 + 5) (by have := HK.out; omega)
                    have cq2 : u.cell? ⟨pg, k * 6 + 5, none⟩ = some (.slice fa j fc) := by
                      rw [cq, ← HDK.out]
                      exact flat_at secL 6 secL_length _ _ _ _ (by decide)
                    have fq := World.ownsRow.frozenAt hrow (k * 6 + 5)
                    clear cq
                    refine owe_run rfl (wp_skp (w' := u.setCell ⟨pg, k * 6 + 5, none⟩ (.slice va9 (j + 1) vc9)) ?_ (hK' undef _ ⟨fun h => (by rw [setl_ne (by decide), hl.2.1 27 (by decide)] at h; cases h), fun h => (by rw [setl_at] at h; cases h), fun _ => ⟨_, u, rfl, hmid2⟩⟩ (fun j y hj h => ⟨fun e => by subst e; exact absurd hj (by decide), fun e => by subst e; exact absurd hj (by decide), h.2.2⟩) (fun h => absurd rfl h)))
                    first
                      | (go_simp; done)
                      | (go_simp; rfl)
                case hq =>
                  intro gg9 u hS hv
                  clear hv f0
                  obtain ⟨v', u1, rfl, u0, hb0, hgr0, hown0, hpl0⟩ := hS.2.2 (by decide)
                  clear hS Mid
                  have ho9 : Other (Value.slice fa j fc).ownBlock.toList wE u1 := (Other.below hb0).trans (Other.grown hgr0 (fun k' hk' => by simpa using hk'))
                  have hf9 : OwnF u1 B (v') (F ++ [((nn, a, b, c) : FixD)]) := fix_snoc (by rw [HFJ.out]; exact hown0)
                  have hp9 : ∀ k', (v').ownBlock = some k' → (Value.slice fa j fc).ownBlock = some k' ∨ wE.heap.size ≤ k' := fun k' hk' => by
                    rcases hpl0 with e | e
                    · exact .inl (e ▸ hk')
                    · rw [e] at hk'; simp only [Option.some.injEq] at hk'; have := hb0.size; right; omega
                  have hbx := box_fix HB1.out HOL.out HSN.out.symm HS1.out HY1.out hqB (by omega) ho9 hf9 hp9
                  rw [HDK.out] at hbx
                  have HBOX := Lib.hid hbx.1
                  have hqW := HQW.out
                  have HLO := Lib.hid (((⟨HFE.out.below.mono (Nat.le_of_lt hqW), by omega⟩ : From q w wE).other hbx.2 (fun g hg => by
                    rcases List.mem_cons.1 hg with rfl | hg
                    · omega
                    · have := (World.ownsRow.lt HMF.out g (by simpa using hg)).1
                      omega)).below)
                  have hli := HLI.out
                  rw [if_neg (by rw [HOL.out]; simp)] at hli
                  have HLI := Lib.hid hli
                  clear hli hbx hqW hb0 hgr0 hown0 hpl0 ho9 hf9 hp9 HB1 HS1 HY1 HFE HMF
                  generalize u1.setCell ⟨pg, k * 6 + 5, none⟩ v' = u2 at *
                  simp only [List.map, putG, List.setIfInBounds_toArray, List.set_cons_succ, List.set_cons_zero, Nat.zero_add, Nat.reduceAdd]
                  go_wp2_with fail
                  go_ret
                  refine ⟨by rw [HLI.out]; rfl, fun o1 h => ?_, HLO.out⟩
                  rw [HLI.out] at h
                  simp only [Option.some.injEq] at h
                  subst h
                  exact ⟨HBOX.out, few_addLast HFW.out _⟩
          · have g1 : ¬ x0.toList = [102, 105, 120, 117, 112] := fun e => hfx ((toList_iff x0 [102, 105, 120, 117, 112]).1 e)
            have g2 : (x0.toList == [102, 105, 120, 117, 112]) = false := by simpa using g1
            go_wp2_with fail
            refine (delete_call wC W C x0 x1 x2 x3 x4 zs HBC.out hnC (by omega)).mono ?_
            rintro e wD ⟨rfl, hbD, hgD⟩
            have HBD := Lib.hid hbD
            have HFD := Lib.hid (HFC.out.grown hgD (fun k hk => by simp only [Option.some.injEq] at hk; omega))
            clear hbD hgD HBC cell0 cell1
            have cell0 : wD.cell? ⟨W, 0, none⟩ = some (.string x0) := by rw [HBD.out.cell 0]; rfl
            have i3 : (1 : Int) ≤ (C : Int) := by omega
            go_wp2_with fail
            refine (i_numbersOf wD _ [x2, x3, x4] (strs_tail (x := x0) (zs := .string ByteArray.empty :: zs) (c := C - 1) HBD.out (by simp; omega) (by unfold maxLen; omega)) (fun x hx => HZ.out x (List.mem_cons_of_mem _ (List.mem_cons_of_mem _ hx))) (by simp) (HEC.out wD HFD.out)).mono ?_
            obtain ⟨nu, hnu⟩ : ∃ nu, numsO [x2, x3, x4] = nu := ⟨_, rfl⟩
            rw [hnu]
            rintro e wE ⟨r, rfl, hro, hbE⟩
            have HFE := Lib.hid (HFD.out.call hbE)
            have HBE := Lib.hid (HBD.out.call hbE)
            have cell0 : wE.cell? ⟨W, 0, none⟩ = some (.string x0) := by rw [HBE.out.cell 0]; rfl
            have HNU := Lib.hid hnu
            cases nu with
            | none =>
              have HN : Hid (lineI o (bytesS s) = none) := by
                show _ = _
                rw [HHE.out]
                show fiveI o (bytesS hx) [bytesS x0, bytesS x1, bytesS x2, bytesS x3, bytesS x4] = none
                rcases hkw with h | h | h
                · rw [h]; exact five_sec_none _ _ _ _ _ _ hnu
                · exact absurd h hfx
                · rw [h]; exact five_sym_none _ _ _ _ _ _ hnu
              clear hnu hkw hfx hro hbE
              simp only [Option.isSome_none]
              go_wp2_with fail
              go_ret
              exact ⟨by rw [HN.out]; rfl, (fun o1 h => by rw [HN.out] at h; cases h), HFE.out.below.mono (Nat.le_of_lt HQW.out)⟩
            | some ns =>
              obtain ⟨a, b, c, rfl⟩ : ∃ a b c, ns = [a, b, c] := by
                have h1 := numsO_length _ _ hnu
                match ns, h1 with
                | [a, b, c], _ => exact ⟨_, _, _, rfl⟩
              obtain ⟨rg, rc, rfl, hrc, hrm, -, hri⟩ := (OwnI.reads hro : IntsAt _ _ [a, b, c]).form
              obtain ⟨rb, rf, rfl, hrj⟩ := hri (by simp)
              have n0 : wE.cell? ⟨rb, rf, none⟩ = some (.int .i64 a) := hrj 0 (by simp)
              have n1 : wE.cell? ⟨rb, rf + 1, none⟩ = some (.int .i64 b) := hrj 1 (by simp)
              have n2 : wE.cell? ⟨rb, rf + 2, none⟩ = some (.int .i64 c) := hrj 2 (by simp)
              have hrbE : rb < wE.heap.size := World.block_lt_of_cell? wE _ n0
              unfold maxLen at hrm
              simp only [List.length_cons, List.length_nil, Nat.zero_add, Nat.reduceAdd] at hrc hrm ⊢
              clear hnu hri hrj hro hbE HBD HBE HZ
              simp only [Option.isSome_some]
              by_cases hse : bytesS x0 = secT
              · have e1 := (toList_iff x0 [115, 101, 99, 116, 105, 111, 110]).2 hse
                clear hkw hfx
                go_wp2_with fail
                obtain ⟨bo, hbo⟩ : ∃ bo, readHexL (bytesS hx) = bo := ⟨_, rfl⟩
                have HBO := Lib.hid hbo
                have hbo2 : readHexL (bytesT hx) = bo := hbo
                refine (i_ReadHex wE hx hxs).mono ?_
                rw [hbo2]
                rintro e wR ⟨vb, rfl, hvb, hbR⟩
                clear hbo hbo2
                obtain ⟨va, vc, rfl⟩ : ∃ va vc, vb = .slice va (bo.getD []).length vc := owns_form hvb
                have HVB := Lib.hid hvb
                have HFR := Lib.hid (HFE.out.call hbR)
                have n0 := (hbR.cell (p := ⟨rb, rf, none⟩) hrbE).trans n0
                have n1 := (hbR.cell (p := ⟨rb, rf + 1, none⟩) hrbE).trans n1
                have n2 := (hbR.cell (p := ⟨rb, rf + 2, none⟩) hrbE).trans n2
                have hrbR : rb < wR.heap.size := Nat.lt_of_lt_of_le hrbE hbR.size
                have HER : Hid (W ≤ wE.heap.size) := HFE.out.le
                have HYE : Hid (wE.heap.size ≤ wR.heap.size) := hbR.size
                have HVY : Hid (∀ k, (Value.slice va (bo.getD []).length vc).ownBlock = some k → k ≠ wR.heap.size) := fun k hk e => by have := (World.ownsRow.lt hvb k hk).2; omega
                clear hvb hbR cell0
                obtain ⟨nb, hnb⟩ : ∃ nb, (bo.getD []).length = nb := ⟨_, rfl⟩
                rw [hnb] at HVB HVY ⊢
                have HNB := Lib.hid hnb
                clear hnb
                go_wp2_with fail
                go_region
                go_upto_if 79 with fail
                obtain ⟨Y, hY⟩ : ∃ Y, wR.heap.size = Y := ⟨_, rfl⟩
                have HBS := Lib.hid (Blk.newAt wR #[.string x1, .int .i64 a, .int .i64 b, .slice va nb vc, .int .i64 0, .slice none 0 0] 52 Y hY.symm).drew
                have HFS := Lib.hid (HFR.out.alloc (.cells #[.string x1, .int .i64 a, .int .i64 b, .slice va nb vc, .int .i64 0, .slice none 0 0] 52)).drew
                have HVS := Lib.hid (owns_call HVB.out (((From.start wR).alloc (.cells #[.string x1, .int .i64 a, .int .i64 b, .slice va nb vc, .int .i64 0, .slice none 0 0] 52)).drew).below)
                have HYR : Hid (wE.heap.size ≤ Y ∧ W ≤ Y) := ⟨by rw [← hY]; exact HYE.out, by rw [← hY]; exact HFR.out.le⟩
                have n2S := ((((From.start wR).alloc (.cells #[.string x1, .int .i64 a, .int .i64 b, .slice va nb vc, .int .i64 0, .slice none 0 0] 52)).drew).below.cell (p := ⟨rb, rf + 2, none⟩) hrbR).trans n2
                have HVY2 : Hid (∀ k, (Value.slice va nb vc).ownBlock = some k → k ≠ Y) := fun k hk => by rw [← hY]; exact HVY.out k hk
                rw [hY]
                generalize hwS : (wR.alloc (.cells #[.string x1, .int .i64 a, .int .i64 b, .slice va nb vc, .int .i64 0, .slice none 0 0] 52)).drew = wS at *
                clear hwS hY n0 n1 n2 hrbR HVB HFR
                go_cut [] (fun wx => Hid (Blk wx Y #[.string x1, .int .i64 a, .int .i64 b, .slice va nb vc, .int .i64 (if a = 3 then c else 0), .slice none 0 0] 52) ∧ Hid (OwnB wx wE.heap.size (.slice va nb vc) (bo.getD [])) ∧ Hid (From W w wx))
                case first =>
                  by_cases ha : a = 3
                  · subst ha
                    have cY := HBS.out.cell
                    have fY := HBS.out.frozen
                    go_wp2_with fail
                    go_meet
                    case rel => exact ⟨HBS.out.set (o := 4) (.int .i64 c), owns_other HVS.out (Other.setCell (bs := [Y]) (by simp) _) (fun k hk hm => by
                      obtain rfl := List.mem_singleton.1 hm
                      exact HVY2.out _ hk rfl), HFS.out.setCell HYR.out.2 _⟩
                  · have e2 : (a == 3) = false := by rw [beq_eq_false_iff_ne]; exact ha
                    go_wp2_with fail
                    go_meet
                    case rel => exact ⟨by rw [if_neg ha]; exact HBS.out, HVS.out, HFS.out⟩
                case rest =>
                  clear n2S HBS HFS HVS HVY HVY2
                  obtain ⟨HBS, HVS, HFS⟩ := hcut
                  obtain ⟨hb1, hs1, hy1⟩ := HXC.out wc HFS.out
                  obtain ⟨sa, sc, rfl⟩ : ∃ sa sc, vs0 = .slice sa LS.length sc := owns_form hs1.row
                  have HB1 := Lib.hid hb1
                  have HS1 := Lib.hid hs1
                  have HY1 := Lib.hid hy1
                  clear hb1 hs1 hy1 HXC
                  obtain ⟨z, hz⟩ : ∃ z, (if a = 3 then c else 0) = z := ⟨_, rfl⟩
                  rw [hz] at HBS
                  have HZZ := Lib.hid hz
                  clear hz
                  obtain ⟨j0, hj0, ja0, ja1, ja2⟩ := info_parts info_sec
                  have hfl : LS.length ≤ N := by have h1 := HFW.out.1; rw [HOL.out, List.length_map] at h1; exact h1
                  have hqr : some q ≠ (Value.slice sa LS.length sc).ownBlock := fun e => by have := (World.ownsRow.lt HS1.out.row q e.symm).1; omega
                  go_upto_region 20 with fail
                  let f0 : Nat → Value := fun i => match i with
                    | 0 => .pointer (some ⟨q, 0, none⟩)
                    | 1 => .pointer (some ⟨q, 0, none⟩)
                    | 2 => .pointer (some ⟨q, 0, none⟩)
                    | 3 => .pointer (some ⟨q, 0, none⟩)
                    | 4 => .slice sa LS.length sc
                    | 5 => .agg #[.string x1, .int .i64 a, .int .i64 b, .slice va nb vc, .int .i64 z, .slice none 0 0]
                    | 8 => .pointer (some ⟨q, 0, none⟩)
                    | 9 => .pointer (some ⟨q, 0, none⟩)
                    | _ => undef
                  let Mid : World → Value → Prop := fun u v' => ∃ u0, Below wc.heap.size wc u0 ∧ u0.grownBy u (Value.slice sa LS.length sc).ownBlock ∧ u.ownsRow B 52 6 v' (LS.length + 1) ((LS.flatMap secL) ++ secL ((⟨x1, a, b, bo.getD [], z, []⟩ : SecD), Value.slice va nb vc, Value.slice none 0 0)) ∧ (v'.ownBlock = (Value.slice sa LS.length sc).ownBlock ∨ v'.ownBlock = some u0.heap.size)
                  have hW9 := HFS.out.le
                  refine wp_region_get (fun i v u => (i = 6 → ∃ z', v = .slice (some ⟨z', 0, none⟩) 1 1 ∧ Blk u z' #[.string x1, .int .i64 a, .int .i64 b, .slice va nb vc, .int .i64 z, .slice none 0 0] 52) ∧ (i = 7 → Mid u v) ∧ (i ≠ 6 → i ≠ 7 → v = f0 i))
                    (fun _ f u => (f 7 = false → Below wc.heap.size wc u) ∧ (f 10 = true → ∃ v' u1, u = u1.setCell ⟨q, 0, none⟩ v' ∧ Mid u1 v'))
                    [[], [], [1], [2], [3], [], [5], [4, 6], [0], [8], [7, 9]] [[], [], [1], [1, 2], [1, 2, 3], [], [5], [1, 2, 3, 4, 5, 6], [0, 1, 2, 3, 4, 5, 6, 7], [0, 1, 2, 3, 4, 5, 6, 7, 8], [0, 1, 2, 3, 4, 5, 6, 7, 8, 9]] [] (by kernel_rfl) (by kernel_rfl) (by kernel_rfl) (by kernel_rfl) (by kernel_rfl)
                    ⟨fun _ => ((From.start wc).drew).below, fun h => by cases h⟩ ?ho ?hq
                  case ho =>
                    refine ⟨?_, ?_, ?_, ?_, ?_, ?_, ?_, ?_, ?_, ?_, ?_, trivial⟩
                    · intro n f a9 u K' hfr hn hl hS hv hK'
                      have eA8 : a9.tmps.getD 0 undef = .pointer (some ⟨q, 0, none⟩) := hfr 0 (no_dst (by kernel_rfl))
                      have eB8 : (a9.tmps[0]?).getD undef = .pointer (some ⟨q, 0, none⟩) := by simpa using eA8
                      refine owe_run rfl (wp_val (v := .pointer (some ⟨q, 0, none⟩)) ?_ (hK' _ _ ⟨fun h => hS.1 (setl_off h), fun h => hS.2 (by rwa [setl_ne (by decide)] at h)⟩ (fun _ _ _ h => h) (fun _ => ⟨fun e => absurd e (by decide), fun e => absurd e (by decide), fun _ _ => rfl⟩)))
                      first
                        | (go_simp; done)
                        | (go_simp; rfl)
                    · intro n f a9 u K' hfr hn hl hS hv hK'
                      have eA8 : a9.tmps.getD 0 undef = .pointer (some ⟨q, 0, none⟩) := hfr 0 (no_dst (by kernel_rfl))
                      have eB8 : (a9.tmps[0]?).getD undef = .pointer (some ⟨q, 0, none⟩) := by simpa using eA8
                      refine owe_run rfl (wp_val (v := .pointer (some ⟨q, 0, none⟩)) ?_ (hK' _ _ ⟨fun h => hS.1 (setl_off h), fun h => hS.2 (by rwa [setl_ne (by decide)] at h)⟩ (fun _ _ _ h => h) (fun _ => ⟨fun e => absurd e (by decide), fun e => absurd e (by decide), fun _ _ => rfl⟩)))
                      first
                        | (go_simp; done)
                        | (go_simp; rfl)
                    · intro n f a9 u K' hfr hn hl hS hv hK'
                      have eA0 : a9.tmps.getD 85 undef = .pointer (some ⟨q, 0, none⟩) := hv.1.2.2 (by decide) (by decide)
                      have eB0 : (a9.tmps[85]?).getD undef = .pointer (some ⟨q, 0, none⟩) := by simpa using eA0
                      refine owe_run rfl (wp_val (v := .pointer (some ⟨q, 0, none⟩)) ?_ (hK' _ _ ⟨fun h => hS.1 (setl_off h), fun h => hS.2 (by rwa [setl_ne (by decide)] at h)⟩ (fun _ _ _ h => h) (fun _ => ⟨fun e => absurd e (by decide), fun e => absurd e (by decide), fun _ _ => rfl⟩)))
                      first
                        | (go_simp; done)
                        | (go_simp; rfl)
                    · intro n f a9 u K' hfr hn hl hS hv hK'
                      have eA0 : a9.tmps.getD 86 undef = .pointer (some ⟨q, 0, none⟩) := hv.1.2.2 (by decide) (by decide)
                      have eB0 : (a9.tmps[86]?).getD undef = .pointer (some ⟨q, 0, none⟩) := by simpa using eA0
                      refine owe_run rfl (wp_val (v := .pointer (some ⟨q, 0, none⟩)) ?_ (hK' _ _ ⟨fun h => hS.1 (setl_off h), fun h => hS.2 (by rwa [setl_ne (by decide)] at h)⟩ (fun _ _ _ h => h) (fun _ => ⟨fun e => absurd e (by decide), fun e => absurd e (by decide), fun _ _ => rfl⟩)))
                      first
                        | (go_simp; done)
                        | (go_simp; rfl)
                    · intro n f a9 u K' hfr hn hl hS hv hK'
                      have eA0 : a9.tmps.getD 87 undef = .pointer (some ⟨q, 0, none⟩) := hv.1.2.2 (by decide) (by decide)
                      have eB0 : (a9.tmps[87]?).getD undef = .pointer (some ⟨q, 0, none⟩) := by simpa using eA0
                      have hb9 := hS.1 (hl.2.2 7 (by decide))
                      have cu := (HB1.out.call hb9).cell
                      have zu := (HB1.out.call hb9).lt
                      refine owe_run rfl (wp_val (v := .slice sa LS.length sc) ?_ (hK' _ _ ⟨fun h => hS.1 (setl_off h), fun h => hS.2 (by rwa [setl_ne (by decide)] at h)⟩ (fun _ _ _ h => h) (fun _ => ⟨fun e => absurd e (by decide), fun e => absurd e (by decide), fun _ _ => rfl⟩)))
                      first
                        | (go_simp; done)
                        | (go_simp; rfl)
                    · intro n f a9 u K' hfr hn hl hS hv hK'
                      have eA8 : a9.tmps.getD 13 undef = .pointer (some ⟨Y, 0, none⟩) := hfr 13 (no_dst (by kernel_rfl))
                      have eB8 : (a9.tmps[13]?).getD undef = .pointer (some ⟨Y, 0, none⟩) := by simpa using eA8
                      have hb9 := hS.1 (hl.2.2 7 (by decide))
                      have cu := (HBS.out.call hb9).cell
                      have zu := (HBS.out.call hb9).lt
                      refine owe_run rfl (wp_val (v := .agg #[.string x1, .int .i64 a, .int .i64 b, .slice va nb vc, .int .i64 z, .slice none 0 0]) ?_ (hK' _ _ ⟨fun h => hS.1 (setl_off h), fun h => hS.2 (by rwa [setl_ne (by decide)] at h)⟩ (fun _ _ _ h => h) (fun _ => ⟨fun e => absurd e (by decide), fun e => absurd e (by decide), fun _ _ => rfl⟩)))
                      first
                        | (go_simp; done)
                        | (go_simp; rfl)
                    · intro n f a9 u K' hfr hn hl hS hv hK'
                      have eA0 : a9.tmps.getD 89 undef = .agg #[.string x1, .int .i64 a, .int .i64 b, .slice va nb vc, .int .i64 z, .slice none 0 0] := hv.1.2.2 (by decide) (by decide)
                      have eB0 : (a9.tmps[89]?).getD undef = .agg #[.string x1, .int .i64 a, .int .i64 b, .slice va nb vc, .int .i64 z, .slice none 0 0] := by simpa using eA0
                      have k1 : Below u.heap.size u (u.alloc (.cells #[.string x1, .int .i64 a, .int .i64 b, .slice va nb vc, .int .i64 z, .slice none 0 0] 52)) := ((From.start u).alloc _).below
                      refine owe_run rfl (wp_val (v := .slice (some ⟨u.heap.size, 0, none⟩) 1 1) (w' := u.alloc (.cells #[.string x1, .int .i64 a, .int .i64 b, .slice va nb vc, .int .i64 z, .slice none 0 0] 52)) ?_ (hK' _ _ ⟨fun h => (have hb := hS.1 (setl_off h); ((⟨hb, hb.size⟩ : From _ wc u).alloc _).below), fun h => (by rw [setl_ne (by decide), hl.2.2 10 (by decide)] at h; cases h)⟩ (fun j y hj h => ⟨fun e => (have ⟨z, e1, e2⟩ := h.1 e; ⟨z, e1, e2.call k1⟩), fun e => by subst e; exact absurd hj (by decide), h.2.2⟩) (fun _ => ⟨fun _ => ⟨_, rfl, Blk.new u _ _⟩, fun e => absurd e (by decide), fun e _ => absurd rfl e⟩)))
                      first
                        | (go_simp; done)
                        | (go_simp; rfl)
                    · intro n f a9 u K' hfr hn hl hS hv hK'
                      have eA0 : a9.tmps.getD 88 undef = .slice sa LS.length sc := hv.1.2.2 (by decide) (by decide)
                      obtain ⟨z', e8, hz8⟩ := hv.2.1.1 rfl
                      have hb9 := hS.1 hl.1
                      have hown : u.ownsRow B 52 6 (.slice sa LS.length sc) LS.length (LS.flatMap secL) := owns_call HS1.out.row hb9
                      have hsz := hb9.size
                      refine step_append_newD rfl (.tmp 88) (.tmp 90) 25 25 rfl B 52 j0 _ 6 88 Tryz.underlying25 hj0 ja0 ja1 ja2 rfl (by decide) _ _ _ eA0 hown _ 1 (secL ((⟨x1, a, b, bo.getD [], z, []⟩ : SecD), Value.slice va nb vc, Value.slice none 0 0)) e8 (src_blk Tryz.underlying25 u z' (secL ((⟨x1, a, b, bo.getD [], z, []⟩ : SecD), Value.slice va nb vc, Value.slice none 0 0)) 6 1 1 52 hz8 rfl (by intro u hu; simp only [secL, List.mem_cons, List.not_mem_nil, or_false] at hu; rcases hu with rfl | rfl | rfl | rfl | rfl | rfl <;> rfl)) (by unfold maxLen; omega) (by omega) (by omega) ?_
                      intro v' w1 hown1 hgr1 hpl
                      have hmid : Mid w1 v' := ⟨u, hb9, hgr1, hown1, hpl⟩
                      exact hK' _ _ ⟨fun h => (by rw [setl_at] at h; cases h), fun h => (by rw [setl_ne (by decide), hl.2.2 10 (by decide)] at h; cases h)⟩ (fun j y hj h => ⟨fun e => by subst e; exact absurd hj (by decide), fun e => by subst e; exact absurd hj (by decide), h.2.2⟩) (fun _ => ⟨fun e => absurd e (by decide), fun _ => hmid, fun _ e => absurd rfl e⟩)
                    · intro n f a9 u K' hfr hn hl hS hv hK'
                      have eA0 : a9.tmps.getD 84 undef = .pointer (some ⟨q, 0, none⟩) := hv.1.2.2 (by decide) (by decide)
                      have eB0 : (a9.tmps[84]?).getD undef = .pointer (some ⟨q, 0, none⟩) := by simpa using eA0
                      refine owe_run rfl (wp_val (v := .pointer (some ⟨q, 0, none⟩)) ?_ (hK' _ _ ⟨fun h => hS.1 (setl_off h), fun h => hS.2 (by rwa [setl_ne (by decide)] at h)⟩ (fun _ _ _ h => h) (fun _ => ⟨fun e => absurd e (by decide), fun e => absurd e (by decide), fun _ _ => rfl⟩)))
                      first
                        | (go_simp; done)
                        | (go_simp; rfl)
                    · intro n f a9 u K' hfr hn hl hS hv hK'
                      have eA0 : a9.tmps.getD 92 undef = .pointer (some ⟨q, 0, none⟩) := hv.1.2.2 (by decide) (by decide)
                      have eB0 : (a9.tmps[92]?).getD undef = .pointer (some ⟨q, 0, none⟩) := by simpa using eA0
                      refine owe_run rfl (wp_val (v := .pointer (some ⟨q, 0, none⟩)) ?_ (hK' _ _ ⟨fun h => hS.1 (setl_off h), fun h => hS.2 (by rwa [setl_ne (by decide)] at h)⟩ (fun _ _ _ h => h) (fun _ => ⟨fun e => absurd e (by decide), fun e => absurd e (by decide), fun _ _ => rfl⟩)))
                      first
                        | (go_simp; done)
                        | (go_simp; rfl)
                    · intro n f a9 u K' hfr hn hl hS hv hK'
                      have hmid := hv.1.2.1 rfl
                      have eA1 : a9.tmps.getD 93 undef = .pointer (some ⟨q, 0, none⟩) := hv.2.1.2.2 (by decide) (by decide)
                      have eB1 : (a9.tmps[93]?).getD undef = .pointer (some ⟨q, 0, none⟩) := by simpa using eA1
                      obtain ⟨v', hv'⟩ : ∃ v', (a9.tmps[91]?).getD undef = v' := ⟨_, rfl⟩
                      have e9 : a9.tmps.getD 91 undef = v' := by rw [← hv']; simp
                      rw [e9] at hmid
                      have hmid2 := hmid
                      obtain ⟨u0, hb0, hgr0, hown0, hpl0⟩ := hmid
                      obtain ⟨va9, vc9, e10⟩ : ∃ va9 vc9, v' = .slice va9 (LS.length + 1) vc9 := owns_form hown0
                      subst e10
                      have hbq := (HB1.out.call hb0).grown hgr0 hqr
                      have cq := hbq.cell
                      have fq := hbq.frozen
                      have zq := hbq.lt
                      refine owe_run rfl (wp_skp (w' := u.setCell ⟨q, 0, none⟩ (.slice va9 (LS.length + 1) vc9)) ?_ (hK' undef _ ⟨fun h => (by rw [setl_ne (by decide), hl.2.1 7 (by decide)] at h; cases h), fun _ => ⟨_, u, rfl, hmid2⟩⟩ (fun j y hj h => ⟨fun e => by subst e; exact absurd hj (by decide), fun e => by subst e; exact absurd hj (by decide), h.2.2⟩) (fun h => absurd rfl h)))
                      first
                        | (go_simp; done)
                        | (go_simp; rfl)
                  case hq =>
                    intro gg9 u hS hv
                    clear hv f0
                    obtain ⟨v', u1, rfl, u0, hb0, hgr0, hown0, hpl0⟩ := hS.2 (by decide)
                    clear hS Mid
                    have HBOX := Lib.hid (box_sec (m := wE.heap.size) (x := ((⟨x1, a, b, bo.getD [], z, []⟩ : SecD), Value.slice va nb vc, Value.slice none 0 0)) (HB1.out.call hb0) HOL.out (HS1.out.call hb0) (owns_call HY1.out hb0) hqB (by have := hb0.size; omega) (fun k hk => Nat.lt_of_lt_of_le (HLT.out k hk) HER.out) (Nat.le_trans hBw HER.out) (owns_call HVS.out hb0) (World.ownsRow_nil _ _ _ _) hgr0 hown0 hpl0)
                    have hqW := HQW.out
                    have HLO := Lib.hid ((((⟨HFS.out.below.mono (Nat.le_of_lt hqW), by omega⟩ : From q w wc).call hb0).grown hgr0 (fun k hk => by have := (World.ownsRow.lt HS1.out.row k hk).1; omega)).setCell (p := ⟨q, 0, none⟩) (Nat.le_refl q) v').below
                    clear hqW hb0 hgr0 hown0 hpl0 HB1 HS1 HY1 HBS HVS HFS
                    generalize u1.setCell ⟨q, 0, none⟩ v' = u2 at *
                    simp only [List.map, putG, List.setIfInBounds_toArray, List.set_cons_succ, List.set_cons_zero, Nat.zero_add, Nat.reduceAdd]
                    go_wp2_with fail
                    go_ret
                    have hli : lineI o (bytesS s) = (readHexL (bytesS hx)).map fun bs => ⟨o.secs ++ [⟨x1, a, b, bs, if a = 3 then c else 0, []⟩], o.syms⟩ := by
                      rw [HHE.out]
                      show fiveI o (bytesS hx) [bytesS x0, bytesS x1, bytesS x2, bytesS x3, bytesS x4] = _
                      rw [hse]
                      exact five_sec_some _ _ _ _ _ _ _ _ _ HNU.out
                    rw [HBO.out, HZZ.out] at hli
                    refine ⟨by rw [hli]; cases bo <;> rfl, fun o1 h => ?_, HLO.out⟩
                    rw [hli] at h
                    cases bo with
                    | none => cases h
                    | some bs =>
                      simp only [Option.map_some, Option.some.injEq] at h
                      subst h
                      refine ⟨HBOX.out, ?_, Nat.le_succ_of_le HFW.out.2.1, fun y hy => ?_⟩
                      · have := HFW.out.1
                        simp only [List.length_append, List.length_cons, List.length_nil]; omega
                      · rcases List.mem_append.1 hy with hy | hy
                        · exact Nat.le_succ_of_le (HFW.out.2.2 y hy)
                        · obtain rfl := List.mem_singleton.1 hy
                          exact Nat.zero_le _
              · have hsy : bytesS x0 = symT := by
                  rcases hkw with h | h | h
                  · exact absurd h hse
                  · exact absurd h hfx
                  · exact h
                have e1 : ¬ x0.toList = [115, 101, 99, 116, 105, 111, 110] := fun e => hse ((toList_iff x0 [115, 101, 99, 116, 105, 111, 110]).1 e)
                have e2 : (x0.toList == [115, 101, 99, 116, 105, 111, 110]) = false := by simpa using e1
                have e3 := (toList_iff x0 [115, 121, 109, 98, 111, 108]).2 hsy
                clear hkw hfx hse
                go_upto_region 28 with fail
                obtain ⟨hb1, hs1, hy1⟩ := HXC.out wE HFE.out
                obtain ⟨ny, hny⟩ : ∃ ny, o.syms.length = ny := ⟨_, rfl⟩
                obtain ⟨ya, yc, rfl⟩ : ∃ ya yc, vy0 = .slice ya ny yc := by rw [← hny]; exact owns_form hy1
                have HN2 := Lib.hid hny
                have hfl : ny ≤ N := by rw [← hny]; exact HFW.out.2.1
                have hy2 : wE.ownsRow B 58 4 (.slice ya ny yc) ny (o.syms.flatMap symL) := by rw [← hny] at hy1 ⊢; exact hy1
                have hqr : some q ≠ (Value.slice ya ny yc).ownBlock := fun e => by have := (World.ownsRow.lt hy2 q e.symm).1; omega
                have HB1 := Lib.hid hb1
                have HS1 := Lib.hid hs1
                have HY1 := Lib.hid hy2
                clear hb1 hs1 hy1 hy2 HXC hny
                obtain ⟨j0, hj0, ja0, ja1, ja2⟩ := info_parts info_sym
                let f0 : Nat → Value := fun i => match i with
                  | 0 => .pointer (some ⟨q, 0, none⟩)
                  | 1 => .pointer (some ⟨q, 0, none⟩)
                  | 2 => .pointer (some ⟨q, 0, none⟩)
                  | 3 => .pointer (some ⟨q, 1, none⟩)
                  | 4 => .slice ya ny yc
                  | 5 => .string x1
                  | 6 => .slice (some ⟨rb, rf, none⟩) 3 rc
                  | 7 => .pointer (some ⟨rb, rf, none⟩)
                  | 8 => .int .i64 a
                  | 9 => .slice (some ⟨rb, rf, none⟩) 3 rc
                  | 10 => .pointer (some ⟨rb, rf + 1, none⟩)
                  | 11 => .int .i64 b
                  | 12 => .slice (some ⟨rb, rf, none⟩) 3 rc
                  | 13 => .pointer (some ⟨rb, rf + 2, none⟩)
                  | 14 => .int .i64 c
                  | 15 => .agg #[.string x1, .int .i64 a, .int .i64 b, .int .i64 c]
                  | 18 => .pointer (some ⟨q, 0, none⟩)
                  | 19 => .pointer (some ⟨q, 1, none⟩)
                  | _ => undef
                let Mid : World → Value → Prop := fun u v' => ∃ u0, Below wE.heap.size wE u0 ∧ u0.grownBy u (Value.slice ya ny yc).ownBlock ∧ u.ownsRow B 58 4 v' (ny + 1) ((o.syms.flatMap symL) ++ symL (⟨x1, a, b, c⟩ : SymD)) ∧ (v'.ownBlock = (Value.slice ya ny yc).ownBlock ∨ v'.ownBlock = some u0.heap.size)
                have hW9 := HFE.out.le
                refine wp_region_get (fun i v u => (i = 16 → ∃ z', v = .slice (some ⟨z', 0, none⟩) 1 1 ∧ Blk u z' #[.string x1, .int .i64 a, .int .i64 b, .int .i64 c] 58) ∧ (i = 17 → Mid u v) ∧ (i ≠ 16 → i ≠ 17 → v = f0 i))
                  (fun _ f u => (f 17 = false → Below wE.heap.size wE u) ∧ (f 20 = true → ∃ v' u1, u = u1.setCell ⟨q, 1, none⟩ v' ∧ Mid u1 v'))
                  [[], [], [1], [2], [3], [], [], [6], [7], [], [9], [10], [], [12], [13], [5, 8, 11, 14], [15], [4, 16], [0], [18], [17, 19]] [[], [], [1], [1, 2], [1, 2, 3], [], [], [6], [6, 7], [], [9], [9, 10], [], [12], [12, 13], [5, 6, 7, 8, 9, 10, 11, 12, 13, 14], [5, 6, 7, 8, 9, 10, 11, 12, 13, 14, 15], [1, 2, 3, 4, 5, 6, 7, 8, 9, 10, 11, 12, 13, 14, 15, 16], [0, 1, 2, 3, 4, 5, 6, 7, 8, 9, 10, 11, 12, 13, 14, 15, 16, 17], [0, 1, 2, 3, 4, 5, 6, 7, 8, 9, 10, 11, 12, 13, 14, 15, 16, 17, 18], [0, 1, 2, 3, 4, 5, 6, 7, 8, 9, 10, 11, 12, 13, 14, 15, 16, 17, 18, 19]] [] (by kernel_rfl) (by kernel_rfl) (by kernel_rfl) (by kernel_rfl) (by kernel_rfl)
                  ⟨fun _ => ((From.start wE).drew).below, fun h => by cases h⟩ ?ho ?hq
                case ho =>
                  refine ⟨?_, ?_, ?_, ?_, ?_, ?_, ?_, ?_, ?_, ?_, ?_, ?_, ?_, ?_, ?_, ?_, ?_, ?_, ?_, ?_, ?_, trivial⟩
                  · intro n f a9 u K' hfr hn hl hS hv hK'
                    have eA8 : a9.tmps.getD 0 undef = .pointer (some ⟨q, 0, none⟩) := hfr 0 (no_dst (by kernel_rfl))
                    have eB8 : (a9.tmps[0]?).getD undef = .pointer (some ⟨q, 0, none⟩) := by simpa using eA8
                    refine owe_run rfl (wp_val (v := .pointer (some ⟨q, 0, none⟩)) ?_ (hK' _ _ ⟨fun h => hS.1 (setl_off h), fun h => hS.2 (by rwa [setl_ne (by decide)] at h)⟩ (fun _ _ _ h => h) (fun _ => ⟨fun e => absurd e (by decide), fun e => absurd e (by decide), fun _ _ => rfl⟩)))
                    first
                      | (go_simp; done)
                      | (go_simp; rfl)
                  · intro n f a9 u K' hfr hn hl hS hv hK'
                    have eA8 : a9.tmps.getD 0 undef = .pointer (some ⟨q, 0, none⟩) := hfr 0 (no_dst (by kernel_rfl))
                    have eB8 : (a9.tmps[0]?).getD undef = .pointer (some ⟨q, 0, none⟩) := by simpa using eA8
                    refine owe_run rfl (wp_val (v := .pointer (some ⟨q, 0, none⟩)) ?_ (hK' _ _ ⟨fun h => hS.1 (setl_off h), fun h => hS.2 (by rwa [setl_ne (by decide)] at h)⟩ (fun _ _ _ h => h) (fun _ => ⟨fun e => absurd e (by decide), fun e => absurd e (by decide), fun _ _ => rfl⟩)))
                    first
                      | (go_simp; done)
                      | (go_simp; rfl)
                  · intro n f a9 u K' hfr hn hl hS hv hK'
                    have eA0 : a9.tmps.getD 138 undef = .pointer (some ⟨q, 0, none⟩) := hv.1.2.2 (by decide) (by decide)
                    have eB0 : (a9.tmps[138]?).getD undef = .pointer (some ⟨q, 0, none⟩) := by simpa using eA0
                    refine owe_run rfl (wp_val (v := .pointer (some ⟨q, 0, none⟩)) ?_ (hK' _ _ ⟨fun h => hS.1 (setl_off h), fun h => hS.2 (by rwa [setl_ne (by decide)] at h)⟩ (fun _ _ _ h => h) (fun _ => ⟨fun e => absurd e (by decide), fun e => absurd e (by decide), fun _ _ => rfl⟩)))
                    first
                      | (go_simp; done)
                      | (go_simp; rfl)
                  · intro n f a9 u K' hfr hn hl hS hv hK'
                    have eA0 : a9.tmps.getD 139 undef = .pointer (some ⟨q, 0, none⟩) := hv.1.2.2 (by decide) (by decide)
                    have eB0 : (a9.tmps[139]?).getD undef = .pointer (some ⟨q, 0, none⟩) := by simpa using eA0
                    refine owe_run rfl (wp_val (v := .pointer (some ⟨q, 1, none⟩)) ?_ (hK' _ _ ⟨fun h => hS.1 (setl_off h), fun h => hS.2 (by rwa [setl_ne (by decide)] at h)⟩ (fun _ _ _ h => h) (fun _ => ⟨fun e => absurd e (by decide), fun e => absurd e (by decide), fun _ _ => rfl⟩)))
                    first
                      | (go_simp; done)
                      | (go_simp; rfl)
                  · intro n f a9 u K' hfr hn hl hS hv hK'
                    have eA0 : a9.tmps.getD 140 undef = .pointer (some ⟨q, 1, none⟩) := hv.1.2.2 (by decide) (by decide)
                    have eB0 : (a9.tmps[140]?).getD undef = .pointer (some ⟨q, 1, none⟩) := by simpa using eA0
                    have hb9 := hS.1 (hl.2.2 17 (by decide))
                    have cu := (HB1.out.call hb9).cell
                    have zu := (HB1.out.call hb9).lt
                    refine owe_run rfl (wp_val (v := .slice ya ny yc) ?_ (hK' _ _ ⟨fun h => hS.1 (setl_off h), fun h => hS.2 (by rwa [setl_ne (by decide)] at h)⟩ (fun _ _ _ h => h) (fun _ => ⟨fun e => absurd e (by decide), fun e => absurd e (by decide), fun _ _ => rfl⟩)))
                    first
                      | (go_simp; done)
                      | (go_simp; rfl)
                  · intro n f a9 u K' hfr hn hl hS hv hK'
                    have eA8 : a9.tmps.getD 8 undef = .string x1 := hfr 8 (no_dst (by kernel_rfl))
                    have eB8 : (a9.tmps[8]?).getD undef = .string x1 := by simpa using eA8
                    refine owe_run rfl (wp_val (v := .string x1) ?_ (hK' _ _ ⟨fun h => hS.1 (setl_off h), fun h => hS.2 (by rwa [setl_ne (by decide)] at h)⟩ (fun _ _ _ h => h) (fun _ => ⟨fun e => absurd e (by decide), fun e => absurd e (by decide), fun _ _ => rfl⟩)))
                    first
                      | (go_simp; done)
                      | (go_simp; rfl)
                  · intro n f a9 u K' hfr hn hl hS hv hK'
                    have eA8 : a9.tmps.getD 9 undef = .slice (some ⟨rb, rf, none⟩) 3 rc := hfr 9 (no_dst (by kernel_rfl))
                    have eB8 : (a9.tmps[9]?).getD undef = .slice (some ⟨rb, rf, none⟩) 3 rc := by simpa using eA8
                    refine owe_run rfl (wp_val (v := .slice (some ⟨rb, rf, none⟩) 3 rc) ?_ (hK' _ _ ⟨fun h => hS.1 (setl_off h), fun h => hS.2 (by rwa [setl_ne (by decide)] at h)⟩ (fun _ _ _ h => h) (fun _ => ⟨fun e => absurd e (by decide), fun e => absurd e (by decide), fun _ _ => rfl⟩)))
                    first
                      | (go_simp; done)
                      | (go_simp; rfl)
                  · intro n f a9 u K' hfr hn hl hS hv hK'
                    have eA0 : a9.tmps.getD 143 undef = .slice (some ⟨rb, rf, none⟩) 3 rc := hv.1.2.2 (by decide) (by decide)
                    have eB0 : (a9.tmps[143]?).getD undef = .slice (some ⟨rb, rf, none⟩) 3 rc := by simpa using eA0
                    refine owe_run rfl (wp_val (v := .pointer (some ⟨rb, rf, none⟩)) ?_ (hK' _ _ ⟨fun h => hS.1 (setl_off h), fun h => hS.2 (by rwa [setl_ne (by decide)] at h)⟩ (fun _ _ _ h => h) (fun _ => ⟨fun e => absurd e (by decide), fun e => absurd e (by decide), fun _ _ => rfl⟩)))
                    first
                      | (go_simp; done)
                      | (go_simp; rfl)
                  · intro n f a9 u K' hfr hn hl hS hv hK'
                    have eA0 : a9.tmps.getD 144 undef = .pointer (some ⟨rb, rf, none⟩) := hv.1.2.2 (by decide) (by decide)
                    have eB0 : (a9.tmps[144]?).getD undef = .pointer (some ⟨rb, rf, none⟩) := by simpa using eA0
                    have hb9 := hS.1 (hl.2.2 17 (by decide))
                    have cu := (hb9.cell (p := ⟨rb, rf, none⟩) hrbE).trans n0
                    refine owe_run rfl (wp_val (v := .int .i64 a) ?_ (hK' _ _ ⟨fun h => hS.1 (setl_off h), fun h => hS.2 (by rwa [setl_ne (by decide)] at h)⟩ (fun _ _ _ h => h) (fun _ => ⟨fun e => absurd e (by decide), fun e => absurd e (by decide), fun _ _ => rfl⟩)))
                    first
                      | (go_simp; done)
                      | (go_simp; rfl)
                  · intro n f a9 u K' hfr hn hl hS hv hK'
                    have eA8 : a9.tmps.getD 9 undef = .slice (some ⟨rb, rf, none⟩) 3 rc := hfr 9 (no_dst (by kernel_rfl))
                    have eB8 : (a9.tmps[9]?).getD undef = .slice (some ⟨rb, rf, none⟩) 3 rc := by simpa using eA8
                    refine owe_run rfl (wp_val (v := .slice (some ⟨rb, rf, none⟩) 3 rc) ?_ (hK' _ _ ⟨fun h => hS.1 (setl_off h), fun h => hS.2 (by rwa [setl_ne (by decide)] at h)⟩ (fun _ _ _ h => h) (fun _ => ⟨fun e => absurd e (by decide), fun e => absurd e (by decide), fun _ _ => rfl⟩)))
                    first
                      | (go_simp; done)
                      | (go_simp; rfl)
                  · intro n f a9 u K' hfr hn hl hS hv hK'
                    have eA0 : a9.tmps.getD 146 undef = .slice (some ⟨rb, rf, none⟩) 3 rc := hv.1.2.2 (by decide) (by decide)
                    have eB0 : (a9.tmps[146]?).getD undef = .slice (some ⟨rb, rf, none⟩) 3 rc := by simpa using eA0
                    refine owe_run rfl (wp_val (v := .pointer (some ⟨rb, rf + 1, none⟩)) ?_ (hK' _ _ ⟨fun h => hS.1 (setl_off h), fun h => hS.2 (by rwa [setl_ne (by decide)] at h)⟩ (fun _ _ _ h => h) (fun _ => ⟨fun e => absurd e (by decide), fun e => absurd e (by decide), fun _ _ => rfl⟩)))
                    first
                      | (go_simp; done)
                      | (go_simp; rfl)
                  · intro n f a9 u K' hfr hn hl hS hv hK'
                    have eA0 : a9.tmps.getD 147 undef = .pointer (some ⟨rb, rf + 1, none⟩) := hv.1.2.2 (by decide) (by decide)
                    have eB0 : (a9.tmps[147]?).getD undef = .pointer (some ⟨rb, rf + 1, none⟩) := by simpa using eA0
                    have hb9 := hS.1 (hl.2.2 17 (by decide))
                    have cu := (hb9.cell (p := ⟨rb, rf + 1, none⟩) hrbE).trans n1
                    refine owe_run rfl (wp_val (v := .int .i64 b) ?_ (hK' _ _ ⟨fun h => hS.1 (setl_off h), fun h => hS.2 (by rwa [setl_ne (by decide)] at h)⟩ (fun _ _ _ h => h) (fun _ => ⟨fun e => absurd e (by decide), fun e => absurd e (by decide), fun _ _ => rfl⟩)))
                    first
                      | (go_simp; done)
                      | (go_simp; rfl)
                  · intro n f a9 u K' hfr hn hl hS hv hK'
                    have eA8 : a9.tmps.getD 9 undef = .slice (some ⟨rb, rf, none⟩) 3 rc := hfr 9 (no_dst (by kernel_rfl))
                    have eB8 : (a9.tmps[9]?).getD undef = .slice (some ⟨rb, rf, none⟩) 3 rc := by simpa using eA8
                    refine owe_run rfl (wp_val (v := .slice (some ⟨rb, rf, none⟩) 3 rc) ?_ (hK' _ _ ⟨fun h => hS.1 (setl_off h), fun h => hS.2 (by rwa [setl_ne (by decide)] at h)⟩ (fun _ _ _ h => h) (fun _ => ⟨fun e => absurd e (by decide), fun e => absurd e (by decide), fun _ _ => rfl⟩)))
                    first
                      | (go_simp; done)
                      | (go_simp; rfl)
                  · intro n f a9 u K' hfr hn hl hS hv hK'
                    have eA0 : a9.tmps.getD 149 undef = .slice (some ⟨rb, rf, none⟩) 3 rc := hv.1.2.2 (by decide) (by decide)
                    have eB0 : (a9.tmps[149]?).getD undef = .slice (some ⟨rb, rf, none⟩) 3 rc := by simpa using eA0
                    refine owe_run rfl (wp_val (v := .pointer (some ⟨rb, rf + 2, none⟩)) ?_ (hK' _ _ ⟨fun h => hS.1 (setl_off h), fun h => hS.2 (by rwa [setl_ne (by decide)] at h)⟩ (fun _ _ _ h => h) (fun _ => ⟨fun e => absurd e (by decide), fun e => absurd e (by decide), fun _ _ => rfl⟩)))
                    first
                      | (go_simp; done)
                      | (go_simp; rfl)
                  · intro n f a9 u K' hfr hn hl hS hv hK'
                    have eA0 : a9.tmps.getD 150 undef = .pointer (some ⟨rb, rf + 2, none⟩) := hv.1.2.2 (by decide) (by decide)
                    have eB0 : (a9.tmps[150]?).getD undef = .pointer (some ⟨rb, rf + 2, none⟩) := by simpa using eA0
                    have hb9 := hS.1 (hl.2.2 17 (by decide))
                    have cu := (hb9.cell (p := ⟨rb, rf + 2, none⟩) hrbE).trans n2
                    refine owe_run rfl (wp_val (v := .int .i64 c) ?_ (hK' _ _ ⟨fun h => hS.1 (setl_off h), fun h => hS.2 (by rwa [setl_ne (by decide)] at h)⟩ (fun _ _ _ h => h) (fun _ => ⟨fun e => absurd e (by decide), fun e => absurd e (by decide), fun _ _ => rfl⟩)))
                    first
                      | (go_simp; done)
                      | (go_simp; rfl)
                  · intro n f a9 u K' hfr hn hl hS hv hK'
                    have eA0 : a9.tmps.getD 142 undef = .string x1 := hv.1.2.2 (by decide) (by decide)
                    have eB0 : (a9.tmps[142]?).getD undef = .string x1 := by simpa using eA0
                    have eA1 : a9.tmps.getD 145 undef = .int .i64 a := hv.2.1.2.2 (by decide) (by decide)
                    have eB1 : (a9.tmps[145]?).getD undef = .int .i64 a := by simpa using eA1
                    have eA2 : a9.tmps.getD 148 undef = .int .i64 b := hv.2.2.1.2.2 (by decide) (by decide)
                    have eB2 : (a9.tmps[148]?).getD undef = .int .i64 b := by simpa using eA2
                    have eA3 : a9.tmps.getD 151 undef = .int .i64 c := hv.2.2.2.1.2.2 (by decide) (by decide)
                    have eB3 : (a9.tmps[151]?).getD undef = .int .i64 c := by simpa using eA3
                    refine owe_run rfl (wp_val (v := .agg #[.string x1, .int .i64 a, .int .i64 b, .int .i64 c]) ?_ (hK' _ _ ⟨fun h => hS.1 (setl_off h), fun h => hS.2 (by rwa [setl_ne (by decide)] at h)⟩ (fun _ _ _ h => h) (fun _ => ⟨fun e => absurd e (by decide), fun e => absurd e (by decide), fun _ _ => rfl⟩)))
                    first
                      | (go_simp; done)
                      | (go_simp; rfl)
                  · intro n f a9 u K' hfr hn hl hS hv hK'
                    have eA0 : a9.tmps.getD 152 undef = .agg #[.string x1, .int .i64 a, .int .i64 b, .int .i64 c] := hv.1.2.2 (by decide) (by decide)
                    have eB0 : (a9.tmps[152]?).getD undef = .agg #[.string x1, .int .i64 a, .int .i64 b, .int .i64 c] := by simpa using eA0
                    have k1 : Below u.heap.size u (u.alloc (.cells #[.string x1, .int .i64 a, .int .i64 b, .int .i64 c] 58)) := ((From.start u).alloc _).below
                    refine owe_run rfl (wp_val (v := .slice (some ⟨u.heap.size, 0, none⟩) 1 1) (w' := u.alloc (.cells #[.string x1, .int .i64 a, .int .i64 b, .int .i64 c] 58)) ?_ (hK' _ _ ⟨fun h => (have hb := hS.1 (setl_off h); ((⟨hb, hb.size⟩ : From _ wE u).alloc _).below), fun h => (by rw [setl_ne (by decide), hl.2.2 20 (by decide)] at h; cases h)⟩ (fun j y hj h => ⟨fun e => (have ⟨z, e1, e2⟩ := h.1 e; ⟨z, e1, e2.call k1⟩), fun e => by subst e; exact absurd hj (by decide), h.2.2⟩) (fun _ => ⟨fun _ => ⟨_, rfl, Blk.new u _ _⟩, fun e => absurd e (by decide), fun e _ => absurd rfl e⟩)))
                    first
                      | (go_simp; done)
                      | (go_simp; rfl)
                  · intro n f a9 u K' hfr hn hl hS hv hK'
                    have eA0 : a9.tmps.getD 141 undef = .slice ya ny yc := hv.1.2.2 (by decide) (by decide)
                    obtain ⟨z', e8, hz8⟩ := hv.2.1.1 rfl
                    have hb9 := hS.1 hl.1
                    have hown : u.ownsRow B 58 4 (.slice ya ny yc) ny (o.syms.flatMap symL) := owns_call HY1.out hb9
                    have hsz := hb9.size
                    refine step_append_newD rfl (.tmp 141) (.tmp 153) 26 26 rfl B 58 j0 _ 4 40 Tryz.underlying26 hj0 ja0 ja1 ja2 rfl (by decide) _ _ _ eA0 hown _ 1 (symL (⟨x1, a, b, c⟩ : SymD)) e8 (src_blk Tryz.underlying26 u z' (symL (⟨x1, a, b, c⟩ : SymD)) 4 1 1 58 hz8 rfl (by intro u hu; simp only [symL, List.mem_cons, List.not_mem_nil, or_false] at hu; rcases hu with rfl | rfl | rfl | rfl <;> rfl)) (by unfold maxLen; omega) (by omega) (by omega) ?_
                    intro v' w1 hown1 hgr1 hpl
                    have hmid : Mid w1 v' := ⟨u, hb9, hgr1, hown1, hpl⟩
                    exact hK' _ _ ⟨fun h => (by rw [setl_at] at h; cases h), fun h => (by rw [setl_ne (by decide), hl.2.2 20 (by decide)] at h; cases h)⟩ (fun j y hj h => ⟨fun e => by subst e; exact absurd hj (by decide), fun e => by subst e; exact absurd hj (by decide), h.2.2⟩) (fun _ => ⟨fun e => absurd e (by decide), fun _ => hmid, fun _ e => absurd rfl e⟩)
                  · intro n f a9 u K' hfr hn hl hS hv hK'
                    have eA0 : a9.tmps.getD 137 undef = .pointer (some ⟨q, 0, none⟩) := hv.1.2.2 (by decide) (by decide)
                    have eB0 : (a9.tmps[137]?).getD undef = .pointer (some ⟨q, 0, none⟩) := by simpa using eA0
                    refine owe_run rfl (wp_val (v := .pointer (some ⟨q, 0, none⟩)) ?_ (hK' _ _ ⟨fun h => hS.1 (setl_off h), fun h => hS.2 (by rwa [setl_ne (by decide)] at h)⟩ (fun _ _ _ h => h) (fun _ => ⟨fun e => absurd e (by decide), fun e => absurd e (by decide), fun _ _ => rfl⟩)))
                    first
                      | (go_simp; done)
                      | (go_simp; rfl)
                  · intro n f a9 u K' hfr hn hl hS hv hK'
                    have eA0 : a9.tmps.getD 155 undef = .pointer (some ⟨q, 0, none⟩) := hv.1.2.2 (by decide) (by decide)
                    have eB0 : (a9.tmps[155]?).getD undef = .pointer (some ⟨q, 0, none⟩) := by simpa using eA0
                    refine owe_run rfl (wp_val (v := .pointer (some ⟨q, 1, none⟩)) ?_ (hK' _ _ ⟨fun h => hS.1 (setl_off h), fun h => hS.2 (by rwa [setl_ne (by decide)] at h)⟩ (fun _ _ _ h => h) (fun _ => ⟨fun e => absurd e (by decide), fun e => absurd e (by decide), fun _ _ => rfl⟩)))
                    first
                      | (go_simp; done)
                      | (go_simp; rfl)
                  · intro n f a9 u K' hfr hn hl hS hv hK'
                    have hmid := hv.1.2.1 rfl
                    have eA1 : a9.tmps.getD 156 undef = .pointer (some ⟨q, 1, none⟩) := hv.2.1.2.2 (by decide) (by decide)
                    have eB1 : (a9.tmps[156]?).getD undef = .pointer (some ⟨q, 1, none⟩) := by simpa using eA1
                    obtain ⟨v', hv'⟩ : ∃ v', (a9.tmps[154]?).getD undef = v' := ⟨_, rfl⟩
                    have e9 : a9.tmps.getD 154 undef = v' := by rw [← hv']; simp
                    rw [e9] at hmid
                    have hmid2 := hmid
                    obtain ⟨u0, hb0, hgr0, hown0, hpl0⟩ := hmid
                    obtain ⟨va9, vc9, e10⟩ : ∃ va9 vc9, v' = .slice va9 (ny + 1) vc9 := owns_form hown0
                    subst e10
                    have hbq := (HB1.out.call hb0).grown hgr0 hqr
                    have cq := hbq.cell
                    have fq := hbq.frozen
                    have zq := hbq.lt
                    refine owe_run rfl (wp_skp (w' := u.setCell ⟨q, 1, none⟩ (.slice va9 (ny + 1) vc9)) ?_ (hK' undef _ ⟨fun h => (by rw [setl_ne (by decide), hl.2.1 17 (by decide)] at h; cases h), fun _ => ⟨_, u, rfl, hmid2⟩⟩ (fun j y hj h => ⟨fun e => by subst e; exact absurd hj (by decide), fun e => by subst e; exact absurd hj (by decide), h.2.2⟩) (fun h => absurd rfl h)))
                    first
                      | (go_simp; done)
                      | (go_simp; rfl)
                case hq =>
                  intro gg9 u hS hv
                  clear hv f0
                  obtain ⟨v', u1, rfl, u0, hb0, hgr0, hown0, hpl0⟩ := hS.2 (by decide)
                  clear hS Mid
                  have hrowY : OwnSyms wE B (.slice ya ny yc) o.syms := by have h9 := HY1.out; rw [← HN2.out] at h9 ⊢; exact h9
                  have HBOX := Lib.hid (box_sym (x := (⟨x1, a, b, c⟩ : SymD)) (HB1.out.call hb0) HOL.out (HS1.out.call hb0) (owns_call hrowY hb0) hqB (by have := hb0.size; omega) hgr0 (by rw [HN2.out]; exact hown0))
                  have hqW := HQW.out
                  have HLO := Lib.hid ((((⟨HFE.out.below.mono (Nat.le_of_lt hqW), by omega⟩ : From q w wE).call hb0).grown hgr0 (fun k hk => by have := (World.ownsRow.lt HY1.out k hk).1; omega)).setCell (p := ⟨q, 1, none⟩) (Nat.le_refl q) v').below
                  clear hqW hb0 hgr0 hown0 hpl0 HB1 HS1 HY1 HFE hrowY
                  generalize u1.setCell ⟨q, 1, none⟩ v' = u2 at *
                  simp only [List.map, putG, List.setIfInBounds_toArray, List.set_cons_succ, List.set_cons_zero, Nat.zero_add, Nat.reduceAdd]
                  go_wp2_with fail
                  go_ret
                  have hli : lineI o (bytesS s) = some ⟨o.secs, o.syms ++ [⟨x1, a, b, c⟩]⟩ := by
                    rw [HHE.out]
                    show fiveI o (bytesS hx) [bytesS x0, bytesS x1, bytesS x2, bytesS x3, bytesS x4] = _
                    rw [hsy]
                    exact five_sym_some _ _ _ _ _ _ _ _ _ HNU.out
                  refine ⟨by rw [hli]; rfl, fun o1 h => ?_, HLO.out⟩
                  rw [hli] at h
                  simp only [Option.some.injEq] at h
                  subst h
                  refine ⟨HBOX.out, Nat.le_succ_of_le HFW.out.1, ?_, fun y hy => Nat.le_succ_of_le (HFW.out.2.2 y hy)⟩
                  have := HFW.out.2.1
                  simp only [List.length_append, List.length_cons, List.length_nil]; omega
        · have i1 : ((n : Int) != 5) = true := by rw [bne_iff_ne]; omega
          have HN : Hid (lineI o (bytesS s) = none) := by show _ = _; rw [HHE.out]; exact fiveI_len _ _ _ (by rw [List.length_map]; omega)
          clear hkw h5
          go_wp2_with fail
          go_ret
          exact ⟨by rw [HN.out]; rfl, (fun o1 h => by rw [HN.out] at h; cases h), HFC.out.below.mono (Nat.le_of_lt HQW.out)⟩
      · have hkw2 : ¬ (x0.data.toList = secT ∨ x0.data.toList = fixT ∨ x0.data.toList = symT) := hkw
        rw [if_neg hkw2] at hc
        subst hc
        have i1 : ((n : Int) != 0) = true := by rw [bne_iff_ne]; omega
        have HN : Hid (lineI o (bytesS s) = none) := by
          show _ = _
          rw [HHE.out]
          refine fiveI_kw _ _ _ fun x hx' => ?_
          rw [List.head?_map, HX0.out] at hx'
          simp only [Option.map_some, Option.some.injEq] at hx'
          subst hx'
          exact hkw
        clear hkw hkw2
        go_wp2_with fail
        go_ret
        exact ⟨by rw [HN.out]; rfl, (fun o1 h => by rw [HN.out] at h; cases h), HFC.out.below.mono (Nat.le_of_lt HQW.out)⟩
end Go.Proofs.YtecpdhjangojiaaGreatDoor
