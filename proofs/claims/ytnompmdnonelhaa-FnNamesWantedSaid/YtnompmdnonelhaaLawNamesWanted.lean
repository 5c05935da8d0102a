/- Wanted names are not there: each is that of a symbol that is SymbolNone; they ascend; none of them is given by the object, too. No condition. -/
import Derived.Test.YtnompmdnonelhaaFacts
import Derived.Test.YtnompmdnonelhaaDrawK
import Derived.Test.YtnompmdnonelhaaDrawP
import Derived.Test.YtnompmdnonelhaaNames
import Derived.Test.YtnompmdnonelhaaMarkS
namespace Go.Proofs.Ytnompmdnonelhaa
open Go.ChangeShapes Go.WideShapes Go.ChangeAt Go.RowKit Go.Joins
set_option linter.unusedSimpArgs false
set_option linter.unusedVariables false
set_option maxRecDepth 100000
theorem sortB_mem (l : List ByteArray) (x : ByteArray) (h : x ∈ sortB l) : ∃ y ∈ l, bytesS y = bytesS x := by
  have h1 : bytesS x ∈ (sortB l).map bytesS := List.mem_map.2 ⟨x, h, rfl⟩
  rw [sortB_map, mem_sortS] at h1
  obtain ⟨y, hy, e⟩ := List.mem_map.1 h1
  exact ⟨y, hy, e⟩
theorem sortB_asc (l : List ByteArray) : ∀ (i j : Nat) (hij : i < j) (hj : j < (sortB l).length), less (bytesS ((sortB l)[i]'(by omega))) (bytesS (sortB l)[j]) = true := by
  intro i j hij hj
  have h1 := sortS_asc (l.map bytesS)
  rw [← sortB_map] at h1
  have h2 := (List.pairwise_iff_getElem.1 h1) i j (by simp; omega) (by simpa using hj) hij
  simpa using h2
theorem wanted_given {o : ObjD} (h : objB o = true) {s t : SymD} (hs : s ∈ o.syms) (ht : t ∈ o.syms) (h1 : wantB s = true) (h2 : gvnB t = true) : bytesS s.name ≠ bytesS t.name := by
  intro e
  have hn : s.name = t.name := bytesS_inj e
  have ok := (objB_iff o).1 h
  have hb := ok.syms s hs
  have w1 : s.whr = -1 := by simpa [wantB] using h1
  have w2 : t.whr ≠ -1 ∧ t.bind ≠ 0 := by simpa [gvnB] using h2
  have b1 : s.bind ≠ 0 := by
    unfold symB at hb
    rw [if_pos w1] at hb
    simp only [Bool.and_eq_true, decide_eq_true_eq] at hb
    exact hb.2.2
  obtain ⟨i, hi, rfl⟩ := List.getElem_of_mem hs
  obtain ⟨j, hj, rfl⟩ := List.getElem_of_mem ht
  have g1 : globB o.syms[i] = true := by unfold globB; simpa using b1
  have g2 : globB o.syms[j] = true := by unfold globB; simpa using w2.2
  have dup : ∀ (a b : Nat) (ha : a < b) (hb : b < o.syms.length), globB (o.syms[a]'(by omega)) = true → globB o.syms[b] = true → (o.syms[a]'(by omega)).name = o.syms[b].name → False := by
    intro a b hab hb ga gb hnn
    have := ok.once b hb
    rw [dupB, gb, Bool.true_and, List.any_eq_false] at this
    have h3 := this (o.syms[a]'(by omega)) (by rw [List.mem_take_iff_getElem]; exact ⟨a, by omega, rfl⟩)
    rw [ga, hnn] at h3
    simp at h3
  rcases Nat.lt_trichotomy i j with hij | rfl | hij
  · exact dup i j hij hj g1 g2 hn
  · exact w2.1 w1
  · exact dup j i hij hi g2 g1 hn.symm
theorem names_apart (o : ObjD) : ∀ x ∈ namesL wantB o, ∀ y ∈ namesL gvnB o, bytesS x ≠ bytesS y := by
  intro x hx y hy e
  unfold namesL at hx hy
  cases h : objB o with
  | false => rw [h] at hx; simp at hx
  | true =>
    rw [h] at hx hy
    simp only [if_true] at hx hy
    obtain ⟨x', hx', ex⟩ := sortB_mem _ _ hx
    obtain ⟨y', hy', ey⟩ := sortB_mem _ _ hy
    unfold namesOfL at hx' hy'
    obtain ⟨s, hs, rfl⟩ := List.mem_map.1 hx'
    obtain ⟨t, ht, rfl⟩ := List.mem_map.1 hy'
    rw [List.mem_filter] at hs ht
    exact wanted_given h hs.1 ht.1 hs.2 ht.2 (ex.trans (e.trans ey.symm))
theorem names_asc (p : SymD → Bool) (o : ObjD) (L : List ByteArray) (hL : namesL p o = L) : ∀ (i j : Nat) (hij : i < j) (hj : j < L.length), less (bytesS (L[i]'(by omega))) (bytesS L[j]) = true := by
  unfold namesL at hL
  split at hL
  · subst hL; exact sortB_asc _
  · subst hL; intro i j hij hj; simp at hj
set_option maxHeartbeats 1000000 in
theorem walk_FnNamesWanted (w : World) (v : Value) (l : List UInt8) (h : BytesAt w v l) :
    Calls Try.prog 16 #[v] w fun e w' => e = .returned (.bool true) ∧ Below w.heap.size w w' := by
  obtain ⟨a, cap, hv, hcap, hmax, hnone, hcell⟩ := h.form
  clear hnone hcell
  by_cases hl : (l.length : Int) ≤ 1048576
  · have H := Lib.hid h
    clear h
    subst hv
    unfold maxLen at hmax
    go_enter Try.func16, Try.ntmps16
    go_wp2_with fail
    refine (s_DrawNamesWanted_any _ _ l H.out).mono ?_
    rintro e w1 ⟨_, rfl, ⟨o, ho, hn1, hn2, hl1, hl2, -⟩, hF⟩
    obtain ⟨sa, sc, ya, yc, rfl⟩ := ho.agg
    have HF := Lib.hid hF
    have HO := Lib.hid ho
    have HN := Lib.hid (⟨fun s hs => by have := hn1 s hs; unfold maxLen; omega, fun s hs => by have := hn2 s hs; unfold maxLen; omega⟩ : (∀ s ∈ o.secs, s.name.size ≤ maxLen) ∧ ∀ s ∈ o.syms, s.name.size ≤ maxLen)
    have hTl := Nat.le_trans (namesL_length wantB o) hl2
    have hGl := Nat.le_trans (namesL_length gvnB o) hl2
    have HDis := Lib.hid (names_apart o)
    clear hF ho hn1 hn2 hl1 hl2
    obtain ⟨T, hT⟩ : ∃ T, namesL wantB o = T := ⟨_, rfl⟩
    obtain ⟨G, hG⟩ : ∃ G, namesL gvnB o = G := ⟨_, rfl⟩
    have HT := Lib.hid hT
    have HG := Lib.hid hG
    rw [hT] at hTl HDis
    rw [hG] at hGl HDis
    have HAsc2 := Lib.hid (names_asc wantB o T hT)
    clear hT hG
    go_wp2_with fail
    have B2 := Lib.hid (Blk.new w1 #[.slice sa o.secs.length sc, .slice ya o.syms.length yc] 41)
    refine (i_NamesWanted _ _ o (HO.out.below (Nat.le_refl _) ((From.start w1).alloc _).below) HN.out).mono ?_
    rw [HT.out]
    rintro e w2 ⟨r, rfl, o2, h2⟩
    obtain ⟨ta, tc, rfl⟩ := owns_form o2
    have HG2 := Lib.hid (((From.start w1).alloc _).call h2)
    have HF2 := Lib.hid ((HF.out.alloc _).call h2)
    have HB2 := Lib.hid (B2.out.call h2)
    have HX2 := Lib.hid o2.reads
    have c2 := HB2.out.cell
    have z2 := HB2.out.lt
    clear h2 HF B2 o2
    go_wp2_with fail
    refine (s_NamesWanted _ _ o (HO.out.below (Nat.le_refl _) HG2.out.below) HN.out).mono ?_
    rw [HT.out]
    rintro e w3 ⟨r, rfl, o3, h3⟩
    have HG3 := Lib.hid (HG2.out.call h3)
    have HF3 := Lib.hid (HF2.out.call h3)
    have HB3 := Lib.hid (HB2.out.call h3)
    have HX3 : Hid (StrsAt w3 (.slice ta T.length tc) T) := HX2.out.below (Nat.le_refl _) h3
    clear c2 z2 h3 HG2 HF2 HB2 HX2
    have c2 := HB3.out.cell
    have z2 := HB3.out.lt
    go_wp2_with fail
    refine (l_sameTexts_same _ _ _ T HX3.out o3.reads).mono ?_
    rintro e w4 ⟨rfl, h4⟩
    have HG4 := Lib.hid (HG3.out.call h4)
    have HF4 := Lib.hid (HF3.out.call h4)
    have HB4 := Lib.hid (HB3.out.call h4)
    have HX4 : Hid (StrsAt w4 (.slice ta T.length tc) T) := HX3.out.below (Nat.le_refl _) h4
    clear c2 z2 h4 HG3 HF3 HB3 HX3 o3
    have c2 := HB4.out.cell
    have z2 := HB4.out.lt
    go_wp2_with fail
    refine (i_NamesGiven _ _ o (HO.out.below (Nat.le_refl _) HG4.out.below) HN.out).mono ?_
    rw [HG.out]
    rintro e w5 ⟨r, rfl, o5, h5⟩
    obtain ⟨ga, gc, rfl⟩ := owns_form o5
    have HF5 := Lib.hid (HF4.out.call h5)
    have HX5 : Hid (StrsAt w5 (.slice ta T.length tc) T) := HX4.out.below (Nat.le_refl _) h5
    have HY5 : Hid (StrsAt w5 (.slice ga G.length gc) G) := o5.reads
    obtain ⟨a1, c1, e1, k1, k2, k3, hc1⟩ := HX5.out.form
    simp only [Value.slice.injEq] at e1
    obtain ⟨rfl, -, rfl⟩ := e1
    obtain ⟨a2, cc2, e2, k4, k5, k6, hc2⟩ := HY5.out.form
    simp only [Value.slice.injEq] at e2
    obtain ⟨rfl, -, rfl⟩ := e2
    have HC1 := Lib.hid hc1
    have HC2 := Lib.hid hc2
    unfold maxLen at k2 k5
    clear c2 z2 h5 HG4 HF4 HB4 HX4 o5 k3 k6 hc1 hc2 HX5 HY5
    go_wp2_with fail
    go_loopw [6] (fun i wr => ∃ k : Nat, k ≤ T.length ∧ i = .int .i64 k ∧ Hid (From w5.heap.size w5 wr)) (fun i _ => T.length - (intOf i).toNat)
    case atStart => exact ⟨0, Nat.zero_le _, rfl, From.start w5⟩
    case round =>
      obtain ⟨k, hk, rfl, HX⟩ := hrel
      by_cases hlt : k < T.length
      · obtain ⟨b1, f1, rfl, hc1⟩ := HC1.out (by omega)
        have d1 := hc1 k hlt
        have l1 : b1 < w5.heap.size := World.block_lt_of_cell? w5 _ d1
        have D1 := Lib.hid d1
        have i1 : (k : Int) < (T.length : Int) := by omega
        have HD := Lib.hid (HDis.out T[k] (List.getElem_mem hlt))
        have HPrev : Hid (0 < k → ∃ s, w5.cell? ⟨b1, f1 + (k - 1), none⟩ = some (.string s) ∧ less (bytesS s) (bytesS T[k]) = true) := fun h0 => ⟨_, hc1 (k - 1) (by omega), HAsc2.out (k - 1) k (by omega) hlt⟩
        clear hc1 d1
        generalize T[k] = x at *
        go_wp2_with fail
        go_loopw [7] (fun i wz => ∃ j : Nat, j ≤ G.length ∧ i = .int .i64 j ∧ Hid (From w5.heap.size w5 wz)) (fun i _ => G.length - (intOf i).toNat)
        case atStart => exact ⟨0, Nat.zero_le _, rfl, HX⟩
        case round =>
          clear HX
          obtain ⟨j, hj, rfl, HX⟩ := hrel
          by_cases hlj : j < G.length
          · obtain ⟨b2, f2, rfl, hc2⟩ := HC2.out (by omega)
            have d2 := hc2 j hlj
            have l2 : b2 < w5.heap.size := World.block_lt_of_cell? w5 _ d2
            have g1 := (HX.out.below.cell (p := ⟨b1, f1 + k, none⟩) l1).trans D1.out
            have g2 := (HX.out.below.cell (p := ⟨b2, f2 + j, none⟩) l2).trans d2
            have i2 : (j : Int) < (G.length : Int) := by omega
            have i3 : (0 : Int) ≤ (j : Int) := by omega
            have i4 : (0 : Int) ≤ (k : Int) := by omega
            have e9 := str_ne (HD.out G[j] (List.getElem_mem hlj)).symm
            clear hc2 d2
            generalize G[j] = y at *
            go_wp2_with fail
            go_quiet (fail)
            have HX2 := Lib.hid (HX.out.drewN nq)
            clear g1 g2 e9
            go_wp2_with fail
            go_roundw
            case rel => exact ⟨j + 1, by omega, by go_num, HX2⟩
            case measure => simp [intOf]; try omega
          · obtain rfl : j = G.length := by omega
            have g1 := (HX.out.below.cell (p := ⟨b1, f1 + k, none⟩) l1).trans D1.out
            have i4 : (0 : Int) ≤ (k : Int) := by omega
            by_cases h0 : 0 < k
            · obtain ⟨s, d3, hless⟩ := HPrev.out h0
              have g3 := (HX.out.below.cell (p := ⟨b1, f1 + (k - 1), none⟩) l1).trans d3
              obtain ⟨m, rfl⟩ : ∃ m, k = m + 1 := ⟨k - 1, by omega⟩
              rw [Nat.add_sub_cancel] at g3
              have e5 := lss_of (a := x) (b := s) (c := false) (by
                cases h9 : less (bytesS x) (bytesS s) with
                | false => rfl
                | true => have := less_trans hless h9; rw [less_irrefl] at this; cases this)
              have e6 := str_ne (b := x) (s := s) (fun e => by rw [e, less_irrefl] at hless; cases hless)
              have i5 : (0 : Int) < ((m + 1 : Nat) : Int) := by omega
              have i6 : (m : Int) < (T.length : Int) := by omega
              have i7 : (0 : Int) ≤ (m : Int) := by omega
              clear HPrev d3 hless
              go_wp2_with fail
              go_quiet (fail)
              have HX2 := Lib.hid (HX.out.drewN nq)
              clear g1 g3 e5 e6
              go_wp2_with fail
              go_roundw
              case rel => exact ⟨m + 1 + 1, by omega, by go_num, HX2⟩
              case measure => simp [intOf]; try omega
            · obtain rfl : k = 0 := by omega
              clear HPrev
              go_wp2_with fail
              go_quiet (fail)
              have HX2 := Lib.hid (HX.out.drewN nq)
              clear g1
              go_wp2_with fail
              go_roundw
              case rel => exact ⟨0 + 1, by omega, by go_num, HX2⟩
              case measure => simp [intOf]; try omega
      · obtain rfl : k = T.length := by omega
        have HL := Lib.hid (HF5.out.call HX.out.below)
        go_wp2_with (first | (go_at_call 20; (with_reducible refine (alive_any _).mono ?_); rintro e w' ⟨rfl, rfl⟩))
        go_ret
        exact ⟨rfl, HL.out.below⟩
  · subst hv
    have hl' : (1048576 : Int) < (l.length : Int) := by omega
    clear hl h
    unfold maxLen at hmax
    go_enter Try.func16, Try.ntmps16
    go_wp2_with fail
    go_ret
    exact ⟨rfl, Below.refl _ _⟩
set_option maxRecDepth 100000 in
theorem lifted_FnNamesWanted (os : Os) (started : os.Started) (H : Type) (enc : TypeId × Value → H) :
    ReturnsInHanded {} Try.checked os 16 .any (Rows.fnNamesWantedSpec.pre6 enc Try.prog Try.f16 Rows.fnNamesWantedRow.domain false) (Rows.fnNamesWantedSpec.post enc Try.prog Try.f16 false true false false) := by
  refine returnsInHanded_of_change (C := Try.checked) own_knob started (by kernel_rfl) Try.func16
    (ChangeSpec.witness6 (enc := enc) (C := Try.checked) false ⟨#[], #[.slice none 0 0], []⟩ 8 (by kernel_rfl) (by kernel_rfl) (by kernel_rfl) (by kernel_rfl)) ?_
  intro W base args ds gs before hval0 hW hcnd _
  have hval : ∀ (j : Nat) t v, Try.f16.params[j]? = some t → args[j]? = some v → Value.okWide Try.prog W .any base t v := hval0
  have hW' := hW
  obtain ⟨p, q, hA0, hV, rfl, hfz, hnd⟩ := hW
  have hA : DataW.TrodAll enc Try.prog W 0 (fun _ => true) true Try.f16.params.toList args.toList ds p := hA0
  rw [Try.params16] at hA hval
  obtain ⟨v0, vs0, d0, ds0, p0, q0, hargs, rfl, rfl, h0, r0⟩ := trodAll_cons hA
  obtain ⟨rfl, rfl, rfl⟩ := trodAll_nil r0
  obtain rfl : args = #[v0] := by cases args; simp_all
  obtain ⟨rfl, rfl⟩ := trodVars_none hV
  clear hA0 hval0
  have k0 := h0
  have t0 : ∀ x ∈ p0, x.block < W.heap.size := fun x hx => by simpa using hW'.lt x (by simp [hx])
  obtain ⟨l0, o0⟩ := open_bytesAt (hval 0 22 v0 rfl rfl) h0
  refine (walk_FnNamesWanted W v0 l0 o0).mono fun e W' ⟨he, hg⟩ => ?_
  subst he
  exact ⟨_, rfl, _, _, _, _, _, _, hW', (trodAll_cons_mk (shut_bool Try.underlying4 _) trodAll_mk0), (trodAll_cons_mk (Below.trod laid_out (by kernel_rfl) (of_decide_eq_true (by kernel_rfl)) k0 hg t0) trodAll_mk0), rfl, hg.frame _, fun h => by cases h⟩

set_option maxHeartbeats 2000000 in
theorem facts_FnNamesWanted : joinedFacts Try.prog 16 Try.f16 Rows.fnNamesWantedSpec Rows.fnNamesWantedRow = true := by
  unfold joinedFacts
  simp only [Bool.and_eq_true]
  repeat' apply And.intro
  all_goals first
    | with_reducible exact laid_out
    | with_reducible exact may_enter
    | (with_reducible rw [lifts_final]; as_aux_lemma => kernel_rfl)
    | (with_reducible rw [make_cut]; as_aux_lemma => kernel_rfl)
    | as_aux_lemma => kernel_rfl
theorem inst_FnNamesWanted : Try.f16.isInstance Try.prog Rows.fnNamesWantedRow.origin Rows.fnNamesWantedRow.targs := of_decide_eq_true (by kernel_rfl)
theorem wrap_FnNamesWanted : Try.f16.isWrapper Try.prog Rows.fnNamesWantedRow.wrapper Rows.fnNamesWantedRow.mainSum := by
  unfold Func.isWrapper
  first | (rw [if_pos (by decide +kernel)]; kernel_rfl) | (rw [if_neg (by decide +kernel)]; exact ⟨rfl, rfl⟩)
theorem named_FnNamesWanted : Try.prog.funcNamed Rows.fnNamesWantedRow.func = some 16 := by kernel_rfl
theorem over_FnNamesWanted : Rows.fnNamesWantedRow.holds Try.pinned (OpenSpec.ofChange Rows.fnNamesWantedSpec) :=
  OpenClaim.holds_of_wide 16 Try.f16 rfl rfl rfl rfl rfl rfl rfl ⟨rfl, rfl, rfl, rfl, rfl⟩ rfl rfl rfl rfl rfl named_FnNamesWanted Try.func16 facts_FnNamesWanted inst_FnNamesWanted wrap_FnNamesWanted
    (fun os started H enc _ => lifted_FnNamesWanted os started H enc)

/-- The statement. -/
theorem holds_FnNamesWanted : Rows.FnNamesWantedSaid :=
  over_FnNamesWanted
#print axioms holds_FnNamesWanted
end Go.Proofs.Ytnompmdnonelhaa
