/- Kept sections are sections; there are as many as different numbers of sections in the list; with all of them nothing changes. No condition. -/
import Derived.Test.YthccjimckjecjaaBase
import Derived.Test.YthccjimckjecjaaDrawK
import Derived.Test.YthccjimckjecjaaDrawW
import Derived.Test.YthccjimckjecjaaSame
import Derived.Test.YthccjimckjecjaaKeepSec
namespace Go.Proofs.Ythccjimckjecjaa
open Go.ChangeShapes Go.WideShapes Go.ChangeAt Go.RowKit Go.Joins
set_option linter.unusedSimpArgs false
set_option linter.unusedVariables false
set_option maxRecDepth 100000
def fnd (b : Bool) : Int := if b = true then 1 else 0
theorem inI_stepL (L : List Int) (k : Nat) (hk : k < L.length) (n : Int) : inI (L.take (k + 1)) n = (inI (L.take k) n || decide (L[k] = n)) := by
  unfold inI
  rw [List.take_succ_eq_append_getElem hk, List.any_append]
  simp
theorem keptN_fnd (L : List Int) (n k : Nat) (hk : k < n) : ((keptN (secK L n) (k + 1) : Nat) : Int) = ((keptN (secK L n) k : Nat) : Int) + fnd (inI L (k : Int)) := by
  rw [keptN_step (secK L n) k (by rw [secK_length]; exact hk), secK_get L n k hk]
  unfold fnd
  split <;> simp
theorem keepSO_len {o : ObjD} {L : List Int} (h : keepSB o L = true) : (keepSO o L).secs.length = keptN (secK L o.secs.length) o.secs.length := by
  unfold keepSO
  rw [if_pos h]
  unfold keepSec
  have h1 := keepL_len (secK L o.secs.length) (o.secs.map (secTo (symK o L))) (by rw [secK_length, List.length_map]) o.secs.length
  rw [List.take_of_length_le (by rw [secK_length]; exact Nat.le_refl _), List.take_of_length_le (by rw [List.length_map]; exact Nat.le_refl _)] at h1
  exact h1
theorem keepSO_valid {o : ObjD} {L : List Int} (h : keepSB o L = true) : objB o = true ∧ objB (keepSO o L) = true := by
  have h' := h
  unfold keepSB at h'
  rw [Bool.and_eq_true] at h'
  refine ⟨h'.1, ?_⟩
  unfold keepSO
  rw [if_pos h]
  exact keepSec_valid h'.1 h'.2
theorem keepSO_names {o : ObjD} {k : Nat} (L : List Int) (h1 : ∀ s ∈ o.secs, s.name.size ≤ k) (h2 : ∀ s ∈ o.syms, s.name.size ≤ k) : (∀ s ∈ (keepSO o L).secs, s.name.size ≤ k) ∧ ∀ s ∈ (keepSO o L).syms, s.name.size ≤ k := by
  unfold keepSO
  split
  · refine ⟨fun s hs => ?_, fun s hs => ?_⟩
    · have hs' : s ∈ keepL (secK L o.secs.length) (o.secs.map (secTo (symK o L))) := hs
      obtain ⟨x, hx, rfl⟩ := List.mem_map.1 ((keepL_sub _ _).subset hs')
      exact h1 x hx
    · have hs' : s ∈ (keepL (symK o L) o.syms).map (whrTo (secK L o.secs.length)) := hs
      obtain ⟨x, hx, rfl⟩ := List.mem_map.1 hs'
      have := h2 x ((keepL_sub _ _).subset hx)
      unfold whrTo
      split <;> exact this
  · exact ⟨fun s hs => (by cases hs), fun s hs => (by cases hs)⟩
theorem allI_step (k : Nat) : allI (k + 1) = allI k ++ [(k : Int)] := by
  unfold allI; rw [List.range_succ, List.map_append]; rfl
theorem allI_len (k : Nat) : (allI k).length = k := by simp [allI]
set_option maxHeartbeats 1000000 in
theorem walk_FnKeepSections (w : World) (v : Value) (l : List UInt8) (h : BytesAt w v l) :
    Calls Try.prog 12 #[v] w fun e w' => e = .returned (.bool true) ∧ Below w.heap.size w w' := by
  obtain ⟨a, cap, hv, hcap, hmax, hnone, hcell⟩ := h.form
  clear hnone hcell
  by_cases hl : (l.length : Int) ≤ 1048576
  · have H := Lib.hid h
    clear h
    subst hv
    unfold maxLen at hmax
    go_enter Try.func12, Try.ntmps12
    go_wp2_with fail
    obtain ⟨i0, hi0, ia0, ia1, ia2⟩ := info_parts info_int
    refine (s_DrawKeepSections_any _ _ l H.out).mono ?_
    rintro e w1 ⟨_, rfl, ⟨vo, vl, o, L, rfl, ho, hn1, hn2, hL, hfw⟩, hF⟩
    obtain ⟨sa, sc, ya, yc, rfl⟩ := ho.agg
    obtain ⟨la, lc, rfl, hLc, hLm, -, hcl⟩ := hL.form
    have HE := Lib.hid hcl
    have F := Lib.hid hF
    have HO := Lib.hid ho
    have HL := Lib.hid hL
    unfold maxLen at hLm
    have HN := Lib.hid (⟨fun s hs => by have := hn1 s hs; unfold maxLen; omega, fun s hs => by have := hn2 s hs; unfold maxLen; omega⟩ : (∀ s ∈ o.secs, s.name.size ≤ maxLen) ∧ ∀ s ∈ o.syms, s.name.size ≤ maxLen)
    have HNT : Hid ((∀ s ∈ (keepSO o L).secs, s.name.size ≤ maxLen) ∧ ∀ s ∈ (keepSO o L).syms, s.name.size ≤ maxLen) := by
      have h := keepSO_names L hn1 hn2
      exact ⟨fun s hs => by have := h.1 s hs; unfold maxLen; omega, fun s hs => by have := h.2 s hs; unfold maxLen; omega⟩
    have HFW := Lib.hid hfw
    obtain ⟨n1, hn1'⟩ : ∃ n1, o.secs.length = n1 := ⟨_, rfl⟩
    obtain ⟨n2, hn2'⟩ : ∃ n2, o.syms.length = n2 := ⟨_, rfl⟩
    obtain ⟨n3, hn3'⟩ : ∃ n3, L.length = n3 := ⟨_, rfl⟩
    have HN1 := Lib.hid hn1'
    have HN2 := Lib.hid hn2'
    have HN3 := Lib.hid hn3'
    rw [hn1', hn2'] at HO
    rw [hn3'] at HL hLc
    rw [hn1', hn2', hn3']
    obtain ⟨T, hT⟩ : ∃ T, keepSO o L = T := ⟨_, rfl⟩
    obtain ⟨TB, hTB⟩ : ∃ TB, keepSB o L = TB := ⟨_, rfl⟩
    rw [hT] at HNT
    have HT := Lib.hid hT
    have HTB := Lib.hid hTB
    have eB2 : (TB != TB) = false := by cases TB <;> rfl
    clear hF ho hn1 hn2 hL hcl hn1' hn2' hn3' hT hTB hfw
    have G := Lib.hid (From.start w1)
    go_wp2_with fail
    have gg := ((From.start w1).alloc (.cells #[.slice sa n1 sc, .slice ya n2 yc] 26)).below
    have F := Lib.hid (F.out.call gg)
    have G := Lib.hid (G.out.call gg)
    clear gg
    have B3 := Lib.hid (Blk.new w1 #[.slice sa n1 sc, .slice ya n2 yc] 26)
    have cB3 := B3.out.cell
    have zB3 := B3.out.lt
    go_wp2_with fail
    clear cB3 zB3
    refine (i_KeepSections _ _ _ o L (HO.out.below (Nat.le_refl _) G.out.below) (HL.out.below (Nat.le_refl _) G.out.below) HN.out).mono ?_
    rw [HT.out, HTB.out]
    rintro e w2 ⟨X, rfl, oX, gg⟩
    have F := Lib.hid (F.out.call gg)
    have G := Lib.hid (G.out.call gg)
    have B3 := Lib.hid (B3.out.call gg)
    obtain ⟨bs, oX⟩ := oX.blocks
    obtain ⟨xa, xc, xb, xd, rfl⟩ := oX.agg
    have OX := Lib.hid oX
    clear gg oX
    have gg := ((From.start w2).alloc (.cells #[.slice xa T.secs.length xc, .slice xb T.syms.length xd] 26)).below
    have F := Lib.hid (F.out.call gg)
    have G := Lib.hid (G.out.call gg)
    have B3 := Lib.hid (B3.out.call gg)
    have OX := Lib.hid (OX.out.call gg)
    clear gg
    have B5 := Lib.hid (Blk.new w2 #[.slice xa T.secs.length xc, .slice xb T.syms.length xd] 26)
    have cB3 := B3.out.cell
    have zB3 := B3.out.lt
    have cB5 := B5.out.cell
    have zB5 := B5.out.lt
    go_wp2_with fail
    clear cB3 zB3 cB5 zB5
    refine (s_KeepSections _ _ _ o L (HO.out.below (Nat.le_refl _) G.out.below) (HL.out.below (Nat.le_refl _) G.out.below) HFW.out HN.out).mono ?_
    rw [HT.out, HTB.out]
    rintro e w3 ⟨Y, rfl, oY, gg⟩
    have F := Lib.hid (F.out.call gg)
    have G := Lib.hid (G.out.call gg)
    have B3 := Lib.hid (B3.out.call gg)
    have OX := Lib.hid (OX.out.call gg)
    have B5 := Lib.hid (B5.out.call gg)
    obtain ⟨bs2, oY⟩ := oY.blocks
    obtain ⟨wa, wc, wb, wd, rfl⟩ := oY.agg
    have OY := Lib.hid oY
    clear gg oY
    have gg := ((From.start w3).alloc (.cells #[.slice wa T.secs.length wc, .slice wb T.syms.length wd] 26)).below
    have F := Lib.hid (F.out.call gg)
    have G := Lib.hid (G.out.call gg)
    have B3 := Lib.hid (B3.out.call gg)
    have OX := Lib.hid (OX.out.call gg)
    have B5 := Lib.hid (B5.out.call gg)
    have OY := Lib.hid (OY.out.call gg)
    clear gg
    have B7 := Lib.hid (Blk.new w3 #[.slice wa T.secs.length wc, .slice wb T.syms.length wd] 26)
    have cB3 := B3.out.cell
    have zB3 := B3.out.lt
    have cB5 := B5.out.cell
    have zB5 := B5.out.lt
    have cB7 := B7.out.cell
    have zB7 := B7.out.lt
    go_wp2_with fail
    clear cB3 zB3 cB5 zB5 cB7 zB7
    refine (sameObject_same _ _ _ T OX.out.obj.reads OY.out.obj.reads).mono ?_
    rintro e w4 ⟨rfl, gg⟩
    have F := Lib.hid (F.out.call gg)
    have G := Lib.hid (G.out.call gg)
    have B3 := Lib.hid (B3.out.call gg)
    have OX := Lib.hid (OX.out.call gg)
    have B5 := Lib.hid (B5.out.call gg)
    have OY := Lib.hid (OY.out.call gg)
    have B7 := Lib.hid (B7.out.call gg)
    clear gg
    clear OY B7
    have cB3 := B3.out.cell
    have zB3 := B3.out.lt
    have cB5 := B5.out.cell
    have zB5 := B5.out.lt
    have FIN := Lib.hid F.out.below
    cases TB
    · have hT0 : T = ⟨[], []⟩ := by rw [← HT.out]; unfold keepSO; rw [HTB.out]; rfl
      subst hT0
      have e0 : ((([] : List SecD).length : Int) == 0) = true := rfl
      have e1 : ((([] : List SymD).length : Int) == 0) = true := rfl
      simp only [List.length_nil] at cB5
      go_wp2_with (first | (go_at_call 18; (with_reducible refine (alive_any _).mono ?_); rintro e w' ⟨rfl, rfl⟩))
      go_ret
      exact ⟨rfl, FIN.out⟩
    clear FIN
    have HV := Lib.hid (keepSO_valid HTB.out)
    have HVT : Hid (objB T = true) := by show _ = _; rw [← HT.out]; exact HV.out.2
    have HLT : Hid (T.secs.length = keptN (secK L n1) n1) := by show _ = _; rw [← HT.out, keepSO_len HTB.out, HN1.out]
    have HAL : Hid (keepSB o (allI n1) = true ∧ keepSO o (allI n1) = o) := by have := keep_all HV.out.1; rw [HN1.out] at this; exact this
    have hf1 : n1 ≤ 1048576 := by have := (objB_few HV.out.1).1; have := HN1.out; omega
    have KF : Hid (∀ k, k < n1 → ((keptN (secK L n1) (k + 1) : Nat) : Int) = ((keptN (secK L n1) k : Nat) : Int) + fnd (inI L (k : Int))) := fun k hk => keptN_fnd L n1 k hk
    have KL : Hid (∀ k, keptN (secK L n1) k ≤ k) := fun k => keptN_le _ k
    have K0 : Hid (keptN (secK L n1) 0 = 0) := Nat.le_zero.1 (keptN_le _ 0)
    generalize hkn : keptN (secK L n1) = kn at *
    clear hkn
    clear cB3 zB3 cB5 zB5
    obtain ⟨A, hA⟩ : ∃ A, w4.heap.size = A := ⟨_, rfl⟩
    have hal := World.ownsRow_lit w4 #[] (e := 3) (size := 1) (base := A) 0 (Nat.le_of_eq hA.symm) (Nat.zero_le _) rfl
    rw [hA] at hal
    have AL : Hid ((w4.alloc (.cells #[] 3)).ownsRow A 3 1 (.slice (some ⟨A, 0, none⟩) 0 0) 0 (ivs (allI 0))) := hal
    have Z : Hid (From A w4 (w4.alloc (.cells #[] 3))) := From.alloc ⟨Below.refl _ _, Nat.le_of_eq hA.symm⟩ _
    clear hal
    have cB3 := B3.out.cell
    have zB3 := B3.out.lt
    have cB5 := B5.out.cell
    have zB5 := B5.out.lt
    go_wp2_with fail
    try simp only [hA]
    clear cB3 zB3 cB5 zB5
    generalize hw5 : w4.alloc (.cells #[] 3) = w5 at *
    clear hw5
    go_loopw [9, 10, 11] (fun q p i wr => ∃ (k : Nat) (aa : Option Addr) (ac : Nat), k ≤ n1 ∧ i = .int .i64 k ∧ q = .slice aa k ac ∧ p = .int .i64 ((kn k : Nat) : Int) ∧ Hid (wr.ownsRow A 3 1 (.slice aa k ac) k (ivs (allI k))) ∧ Hid (From A w4 wr)) (fun _ _ i _ => n1 - (intOf i).toNat)
    case atStart => exact ⟨0, _, _, Nat.zero_le _, rfl, rfl, by rw [K0.out]; rfl, AL, Z⟩
    case round =>
      clear AL Z
      obtain ⟨k, aa, ac, hk, rfl, rfl, rfl, AL, Z⟩ := hrel
      have zz := Z.out.below
      rw [← hA] at zz
      have cB3 := (B3.out.call zz).cell
      have zB3 := (B3.out.call zz).lt
      by_cases hlt : k < n1
      · have i1 : (k : Int) < (n1 : Int) := by omega
        have i3 : (0 : Int) ≤ (k : Int) := by omega
        have hkf := KF.out k hlt
        have hkl := KL.out k
        have hkl2 := KL.out (k + 1)
        have hAw : A ≤ wr.heap.size := Z.out.le
        go_wp2_with (at_builtin; refine wpList_append_own rfl (.tmp 68) (.tmp 70) 52 52 rfl A 3 i0 (.int .i64 0) 1 8 Try.underlying52 hi0 ia0 ia1 ia2 rfl (by decide) _ _ _ rfl (World.ownsRow.alloc AL.out _) _ 1 [_] rfl (src_new Try.underlying52 _ [_] 1 1 1 _ rfl ?c0) ?c1 ?c2 ?c3 ?_)
        case c0 => first | rfl | (intro u hu; obtain rfl := List.mem_singleton.1 hu; rfl)
        case c1 => unfold maxLen; omega
        case c2 => omega
        case c3 => first | omega | (simp; omega)
        intro v' w6 hown hgr hpl
        have hA6 : w6.ownsRow A 3 1 v' (k + 1) (ivs (allI (k + 1))) := by rw [allI_step, ivs_append]; exact hown
        obtain ⟨aa2, ac2, rfl⟩ := owns_form hA6
        have AL6 := Lib.hid hA6
        have Z6 := Lib.hid (From.grown (Z.out.alloc (.cells #[.int .i64 (k : Int)] 3)) hgr (fun k' hk' => (World.ownsRow.lt AL.out k' hk').1))
        clear hown hgr hpl hA6 AL Z zz cB3 zB3
        have zz := Z6.out.below
        rw [← hA] at zz
        have G6 := Lib.hid (G.out.call zz)
        have E0 : Hid (fnd (inI (L.take 0) (k : Int)) = 0) := by show _ = _; simp [inI, fnd]
        clear zz
        go_wp2_with fail
        go_loop [12, 13] (fun f i => ∃ j : Nat, j ≤ n3 ∧ i = .int .i64 j ∧ f = .int .i64 (fnd (inI (L.take j) (k : Int)))) (fun _ i => n3 - (intOf i).toNat)
        case atStart => exact ⟨0, Nat.zero_le _, rfl, by rw [E0.out]⟩
        case round =>
          obtain ⟨j, hj, rfl, rfl⟩ := hrel
          by_cases hltj : j < n3
          · have j1 : (j : Int) < (n3 : Int) := by omega
            have j3 : (0 : Int) ≤ (j : Int) := by omega
            have hjL : j < L.length := by rw [HN3.out]; exact hltj
            obtain ⟨b5, off5, rfl, hc5⟩ := HE.out (by omega)
            have c5 := hc5 j hjL
            have hbl5 : b5 < w1.heap.size := World.block_lt_of_cell? w1 _ c5
            have g5 := (G6.out.below.cell (p := ⟨b5, off5 + j, none⟩) hbl5).trans c5
            have HI := Lib.hid (inI_stepL L j hjL (k : Int))
            clear c5 hc5
            generalize L[j] = nj at *
            by_cases m0 : nj = (k : Int)
            · have e1 : (nj == (k : Int)) = true := by simpa using m0
              have HQ : Hid (fnd (inI (L.take (j + 1)) (k : Int)) = 1) := by show _ = _; rw [HI.out, decide_eq_true m0, Bool.or_true]; rfl
              clear m0 HI
              go_wp2_with fail
              go_round
              case rel => exact ⟨j + 1, by omega, by go_num, by rw [HQ.out]⟩
              case measure => simp [intOf]; try omega
            · have e1 : (nj == (k : Int)) = false := by simpa using m0
              have HQ : Hid (fnd (inI (L.take (j + 1)) (k : Int)) = fnd (inI (L.take j) (k : Int))) := by show _ = _; rw [HI.out, decide_eq_false m0, Bool.or_false]
              clear m0 HI
              go_wp2_with fail
              go_round
              case rel => exact ⟨j + 1, by omega, by go_num, by rw [HQ.out]⟩
              case measure => simp [intOf]; try omega
          · obtain rfl : n3 = j := by omega
            have HQ : Hid (fnd (inI (L.take n3) (k : Int)) = fnd (inI L (k : Int))) := by show _ = _; rw [← HN3.out, List.take_length]
            rw [HQ.out]
            generalize fnd (inI L (k : Int)) = fk at *
            have hwk : IntKind.i64.wrap (((kn k : Nat) : Int) + fk) = ((kn (k + 1) : Nat) : Int) := by rw [← hkf]; exact IntWalk.i64_in _ (by omega)
            go_wp2_with fail
            go_roundw
            case rel => exact ⟨k + 1, aa2, ac2, by omega, by go_num, rfl, by first | rfl | rw [hkf] | (rw [hwk]), AL6, Z6⟩
            case measure => simp [intOf]; try omega
      · obtain rfl : n1 = k := by omega
        have zg := zz
        clear zz hlt hk cB3 zB3
        have gg := zg
        have F := Lib.hid (F.out.call gg)
        have G := Lib.hid (G.out.call gg)
        have B3 := Lib.hid (B3.out.call gg)
        have OX := Lib.hid (OX.out.call gg)
        have B5 := Lib.hid (B5.out.call gg)
        clear gg zg
        have HLL : Hid (IntsAt wr (.slice aa n1 ac) (allI n1)) := by
          have h9 := reads_of_owns AL.out
          unfold IntsAt
          rw [allI_len]
          exact h9
        have cB3 := B3.out.cell
        have zB3 := B3.out.lt
        have cB5 := B5.out.cell
        have zB5 := B5.out.lt
        go_wp2_with fail
        clear cB3 zB3 cB5 zB5
        refine (i_KeepSections _ _ _ o (allI n1) (HO.out.below (Nat.le_refl _) G.out.below) HLL.out HN.out).mono ?_
        rw [HAL.out.1, HAL.out.2]
        rintro e w7 ⟨S, rfl, oS, gg⟩
        have F := Lib.hid (F.out.call gg)
        have G := Lib.hid (G.out.call gg)
        have B3 := Lib.hid (B3.out.call gg)
        have OX := Lib.hid (OX.out.call gg)
        have B5 := Lib.hid (B5.out.call gg)
        obtain ⟨bs3, oS⟩ := oS.blocks
        obtain ⟨ra, rc, rb, rd, rfl⟩ := oS.agg
        rw [HN1.out, HN2.out] at oS ⊢
        have OS := Lib.hid oS
        clear gg oS
        have gg := ((From.start w7).alloc (.cells #[.slice ra n1 rc, .slice rb n2 rd] 26)).below
        have F := Lib.hid (F.out.call gg)
        have G := Lib.hid (G.out.call gg)
        have B3 := Lib.hid (B3.out.call gg)
        have OX := Lib.hid (OX.out.call gg)
        have B5 := Lib.hid (B5.out.call gg)
        have OS := Lib.hid (OS.out.call gg)
        clear gg
        have B14 := Lib.hid (Blk.new w7 #[.slice ra n1 rc, .slice rb n2 rd] 26)
        have eN : ((T.secs.length : Int) == ((kn n1 : Nat) : Int)) = true := by rw [HLT.out]; simp
        have cB3 := B3.out.cell
        have zB3 := B3.out.lt
        have cB5 := B5.out.cell
        have zB5 := B5.out.lt
        have cB14 := B14.out.cell
        have zB14 := B14.out.lt
        go_wp2_with fail
        clear cB3 zB3 cB5 zB5 cB14 zB14
        refine (i_ObjectValid _ _ T OX.out.obj.reads HNT.out).mono ?_
        rw [HVT.out]
        rintro e w8 ⟨rfl, gg⟩
        have F := Lib.hid (F.out.call gg)
        have G := Lib.hid (G.out.call gg)
        have B3 := Lib.hid (B3.out.call gg)
        have OX := Lib.hid (OX.out.call gg)
        have B5 := Lib.hid (B5.out.call gg)
        have OS := Lib.hid (OS.out.call gg)
        have B14 := Lib.hid (B14.out.call gg)
        clear gg
        have cB3 := B3.out.cell
        have zB3 := B3.out.lt
        have cB5 := B5.out.cell
        have zB5 := B5.out.lt
        have cB14 := B14.out.cell
        have zB14 := B14.out.lt
        go_wp2_with fail
        clear cB3 zB3 cB5 zB5 cB14 zB14
        refine (sameObject_same _ _ _ o OS.out.obj.reads (HO.out.below (Nat.le_refl _) G.out.below)).mono ?_
        rintro e w9 ⟨rfl, gg⟩
        have F := Lib.hid (F.out.call gg)
        have G := Lib.hid (G.out.call gg)
        have B3 := Lib.hid (B3.out.call gg)
        have OX := Lib.hid (OX.out.call gg)
        have B5 := Lib.hid (B5.out.call gg)
        have OS := Lib.hid (OS.out.call gg)
        have B14 := Lib.hid (B14.out.call gg)
        clear gg
        have cB3 := B3.out.cell
        have zB3 := B3.out.lt
        have cB5 := B5.out.cell
        have zB5 := B5.out.lt
        have cB14 := B14.out.cell
        have zB14 := B14.out.lt
        go_wp2_with fail
        clear cB3 zB3 cB5 zB5 cB14 zB14
        go_ret
        exact ⟨rfl, F.out.below⟩
  · subst hv
    have hl' : (1048576 : Int) < (l.length : Int) := by omega
    clear hl h
    unfold maxLen at hmax
    go_enter Try.func12, Try.ntmps12
    go_wp2_with fail
    go_ret
    exact ⟨rfl, Below.refl _ _⟩
set_option maxRecDepth 100000 in
theorem lifted_FnKeepSections (os : Os) (started : os.Started) (H : Type) (enc : TypeId × Value → H) :
    ReturnsInHanded {} Try.checked os 12 .any (Rows.fnKeepSectionsSpec.pre6 enc Try.prog Try.f12 Rows.fnKeepSectionsRow.domain false) (Rows.fnKeepSectionsSpec.post enc Try.prog Try.f12 false true false false) := by
  refine returnsInHanded_of_change (C := Try.checked) own_knob started (by kernel_rfl) Try.func12
    (ChangeSpec.witness6 (enc := enc) (C := Try.checked) false ⟨#[], #[.slice none 0 0], []⟩ 8 (by kernel_rfl) (by kernel_rfl) (by kernel_rfl) (by kernel_rfl)) ?_
  intro W base args ds gs before hval0 hW hcnd _
  have hval : ∀ (j : Nat) t v, Try.f12.params[j]? = some t → args[j]? = some v → Value.okWide Try.prog W .any base t v := hval0
  have hW' := hW
  obtain ⟨p, q, hA0, hV, rfl, hfz, hnd⟩ := hW
  have hA : DataW.TrodAll enc Try.prog W 0 (fun _ => true) true Try.f12.params.toList args.toList ds p := hA0
  rw [Try.params12] at hA hval
  obtain ⟨v0, vs0, d0, ds0, p0, q0, hargs, rfl, rfl, h0, r0⟩ := trodAll_cons hA
  obtain ⟨rfl, rfl, rfl⟩ := trodAll_nil r0
  obtain rfl : args = #[v0] := by cases args; simp_all
  obtain ⟨rfl, rfl⟩ := trodVars_none hV
  clear hA0 hval0
  have k0 := h0
  have t0 : ∀ x ∈ p0, x.block < W.heap.size := fun x hx => by simpa using hW'.lt x (by simp [hx])
  obtain ⟨l0, o0⟩ := open_bytesAt (hval 0 22 v0 rfl rfl) h0
  refine (walk_FnKeepSections W v0 l0 o0).mono fun e W' ⟨he, hg⟩ => ?_
  subst he
  exact ⟨_, rfl, _, _, _, _, _, _, hW', (trodAll_cons_mk (shut_bool Try.underlying4 _) trodAll_mk0), (trodAll_cons_mk (Below.trod laid_out (by kernel_rfl) (of_decide_eq_true (by kernel_rfl)) k0 hg t0) trodAll_mk0), rfl, hg.frame _, fun h => by cases h⟩

set_option maxHeartbeats 2000000 in
theorem facts_FnKeepSections : joinedFacts Try.prog 12 Try.f12 Rows.fnKeepSectionsSpec Rows.fnKeepSectionsRow = true := by
  unfold joinedFacts
  simp only [Bool.and_eq_true]
  repeat' apply And.intro
  all_goals first
    | with_reducible exact laid_out
    | with_reducible exact may_enter
    | (with_reducible rw [lifts_final]; as_aux_lemma => kernel_rfl)
    | (with_reducible rw [make_cut]; as_aux_lemma => kernel_rfl)
    | as_aux_lemma => kernel_rfl
theorem inst_FnKeepSections : Try.f12.isInstance Try.prog Rows.fnKeepSectionsRow.origin Rows.fnKeepSectionsRow.targs := of_decide_eq_true (by kernel_rfl)
theorem wrap_FnKeepSections : Try.f12.isWrapper Try.prog Rows.fnKeepSectionsRow.wrapper Rows.fnKeepSectionsRow.mainSum := by
  unfold Func.isWrapper
  first | (rw [if_pos (by decide +kernel)]; kernel_rfl) | (rw [if_neg (by decide +kernel)]; exact ⟨rfl, rfl⟩)
theorem named_FnKeepSections : Try.prog.funcNamed Rows.fnKeepSectionsRow.func = some 12 := by kernel_rfl
theorem over_FnKeepSections : Rows.fnKeepSectionsRow.holds Try.pinned (OpenSpec.ofChange Rows.fnKeepSectionsSpec) :=
  OpenClaim.holds_of_wide 12 Try.f12 rfl rfl rfl rfl rfl rfl rfl ⟨rfl, rfl, rfl, rfl, rfl⟩ rfl rfl rfl rfl rfl named_FnKeepSections Try.func12 facts_FnKeepSections inst_FnKeepSections wrap_FnKeepSections
    (fun os started H enc _ => lifted_FnKeepSections os started H enc)

/-- The statement. -/
theorem holds_FnKeepSections : Rows.FnKeepSectionsSaid :=
  over_FnKeepSections
#print axioms holds_FnKeepSections
end Go.Proofs.Ythccjimckjecjaa
