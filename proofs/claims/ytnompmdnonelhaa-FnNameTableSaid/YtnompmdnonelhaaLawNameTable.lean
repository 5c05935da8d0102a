/- Tables have all names: PlaceOf finds each of them, and NameAt leads back; the order of the names does not matter. No condition. -/
import Derived.Test.YtnompmdnonelhaaFacts
import Derived.Test.YtnompmdnonelhaaDrawK
import Derived.Test.YtnompmdnonelhaaDrawN
import Derived.Test.YtnompmdnonelhaaNameTab
import Derived.Test.YtnompmdnonelhaaPlainTab
import Derived.Test.YtnompmdnonelhaaPlace
import Derived.Test.YtnompmdnonelhaaNameAt
namespace Go.Proofs.Ytnompmdnonelhaa
open Go.ChangeShapes Go.WideShapes Go.ChangeAt Go.RowKit Go.Joins
set_option linter.unusedSimpArgs false
set_option linter.unusedVariables false
set_option maxRecDepth 100000
set_option maxHeartbeats 1000000 in
theorem walk_FnNameTable (w : World) (v : Value) (l : List UInt8) (h : BytesAt w v l) :
    Calls Try.prog 11 #[v] w fun e w' => e = .returned (.bool true) ∧ Below w.heap.size w w' := by
  obtain ⟨a, cap, hv, hcap, hmax, hnone, hcell⟩ := h.form
  clear hnone hcell
  by_cases hl : (l.length : Int) ≤ 1048576
  · have H := Lib.hid h
    clear h
    subst hv
    unfold maxLen at hmax
    go_enter Try.func11, Try.ntmps11
    go_wp2_with fail
    refine (drawNameTable_any _ _ l H.out).mono ?_
    rintro e w1 ⟨_, rfl, ⟨L, nb, no, nc, rfl, hR, hL, hs⟩, hF⟩
    obtain ⟨i0, hi, hz0, hz1, hz2⟩ := info_parts info_str
    have HF := Lib.hid hF
    have HR := Lib.hid hR
    have HSz : Hid (∀ s ∈ L, s.size ≤ maxLen) := fun s h => by have := hs s h; unfold maxLen; omega
    have HC : Hid (∀ j (hj : j < L.length), w1.cell? ⟨nb, no + j, none⟩ = some (.string L[j])) := fun j hj => by
      obtain ⟨a', c', hv, -, -, -, hc⟩ := hR.form
      simp only [Value.slice.injEq] at hv
      obtain ⟨rfl, -, rfl⟩ := hv
      obtain ⟨b', o', e, hc⟩ := hc (by omega)
      simp only [Option.some.injEq, Addr.mk.injEq] at e
      obtain ⟨rfl, rfl, -⟩ := e
      exact hc j hj
    clear hF hR hs
    go_wp2_with fail
    refine (i_NameTable w1 nb no nc L HR.out HSz.out (by omega)).mono ?_
    rintro e w2 ⟨r, rfl, o2, h2⟩
    obtain ⟨ra, rc, rfl⟩ := owns_form o2
    obtain ⟨T, hT⟩ : ∃ T, tableL L = T := ⟨_, rfl⟩
    rw [hT] at o2
    rw [hT]
    have HT := Lib.hid hT
    have HO2 := Lib.hid o2
    have HF2 := Lib.hid ((From.start w1).call h2)
    clear o2 h2 hT
    go_wp2_with fail
    refine (s_NameTable w2 _ L (HR.out.below (Nat.le_refl _) HF2.out.below) HSz.out (by omega)).mono ?_
    rw [HT.out]
    rintro e w3 ⟨r2, rfl, o3, h3⟩
    obtain ⟨sa, sc, rfl⟩ := owns_form o3
    have HF3 := Lib.hid (HF2.out.call h3)
    have HO3 := Lib.hid (owns_call HO2.out h3)
    have HR3 := Lib.hid o3.reads
    clear o3 h3 HF2 HO2
    go_wp2_with fail
    refine (l_sameBytes w3 _ _ T T (reads_of_owns HO3.out) HR3.out).mono ?_
    rw [eqB_self]
    rintro e w4 ⟨rfl, h4⟩
    have HF4 := Lib.hid (HF3.out.call h4)
    have HO4 : Hid (OwnB w4 w1.heap.size (.slice ra T.length rc) T) := owns_call HO3.out h4
    have HG4 := Lib.hid (HF.out.call HF4.out.below)
    clear h4 HF3 HO3 HR3
    by_cases hz : T.length = 0
    · have e0 : ((T.length : Int) == 0) = true := by simpa using hz
      clear hz
      go_wp2_with (first | (go_at_call 20; (with_reducible refine (alive_any _).mono ?_); rintro e w' ⟨rfl, rfl⟩))
      go_ret
      exact ⟨rfl, HG4.out.below⟩
    have e0 : ((T.length : Int) == 0) = false := by simpa using hz
    obtain ⟨hN, T', hT'⟩ := tableL_zero L (by rw [HT.out]; omega)
    rw [HT.out] at hT'
    have HN := Lib.hid hN
    obtain ⟨a', c', hv, -, -, -, hcx⟩ := HO4.out.reads.form
    simp only [Value.slice.injEq] at hv
    obtain ⟨rfl, -, rfl⟩ := hv
    obtain ⟨rb, ro, rfl, hcy⟩ := hcx (by omega)
    have hT0 : T[0]'(by omega) = 0 := by simp [hT']
    have HC0 : Hid (w4.cell? ⟨rb, ro, none⟩ = some (.int .u8 0)) := by
      have h0 := hcy 0 (by omega)
      rw [hT0] at h0
      exact h0
    have HTl : Hid (0 < T.length) := Nat.pos_of_ne_zero hz
    clear hcx hcy hT0 hT' hN hz
    go_wp2_with fail
    go_loopw [5, 6] (fun tv i wr => ∃ q : Int, -1 ≤ q ∧ q < (L.length : Int) ∧ i = .int .i64 q ∧ Hid (OwnS wr w4.heap.size tv (L.drop (q + 1).toNat).reverse) ∧ Hid (tv ≠ .slice none 0 0) ∧ Hid (From w4.heap.size w4 wr)) (fun _ i _ => (intOf i + 1).toNat)
    case atStart =>
      refine ⟨_, by omega, by omega, rfl, ?_, (fun e => by cases e), (From.start w4).alloc _⟩
      have : L.drop ((L.length : Int) - 1 + 1).toNat = [] := by rw [show ((L.length : Int) - 1 + 1).toNat = L.length by omega, List.drop_length]
      rw [this]
      exact World.ownsRow_lit w4 #[] 0 (Nat.le_refl _) (Nat.zero_le _) rfl
    case round =>
      obtain ⟨q, hq1, hq2, rfl, HO, HNN, HX⟩ := hrel
      by_cases hlt : 0 ≤ q
      · obtain ⟨j, rfl⟩ := Int.eq_ofNat_of_zero_le hlt
        have hj : j < L.length := by omega
        have cj := (HX.out.below.cell (p := ⟨nb, no + j, none⟩) (Nat.lt_of_lt_of_le (World.block_lt_of_cell? w1 _ (HC.out j hj)) HF4.out.le)).trans ((HF4.out.below.cell (p := ⟨nb, no + j, none⟩) (World.block_lt_of_cell? w1 _ (HC.out j hj))).trans (HC.out j hj))
        have HRev : Hid ((L.drop j).reverse = (L.drop (j + 1)).reverse ++ [L[j]]) := by show _ = _; rw [List.drop_eq_getElem_cons hj, List.reverse_cons]
        have hHas := tableL_has HN.out (List.getElem_mem hj)
        rw [HT.out] at hHas
        have hql : ((j : Int) + 1).toNat = j + 1 := by omega
        rw [hql] at HO
        have hll : (L.drop (j + 1)).reverse.length ≤ 41 := by rw [List.length_reverse, List.length_drop]; omega
        obtain ⟨pl, hpl⟩ : ∃ pl, placeOf T (bytesS L[j]) = pl := ⟨_, rfl⟩
        rw [hpl] at hHas
        have HPl := Lib.hid hpl
        have HNa := Lib.hid hHas.1
        generalize hx : L[j] = x at *
        obtain ⟨R, hR⟩ : ∃ R, (L.drop (j + 1)).reverse = R := ⟨_, rfl⟩
        rw [hR] at HO HRev hll
        have HRR := Lib.hid hR
        clear hpl hHas hql hR hx
        obtain ⟨ta, tc, rfl⟩ := owns_form HO.out
        go_wp2_with (at_builtin; refine wpList_append_src rfl (.tmp 33) (.tmp 38) 53 53 rfl w4.heap.size 9 i0 (.string ⟨#[]⟩) 1 16 Try.underlying53 hi hz0 hz1 hz2 rfl (by decide) _ _ _ rfl (World.ownsRow.alloc HO.out _) _ 1 [_] rfl (src_new Try.underlying53 _ [_] 1 1 1 _ rfl ?c0) ?c1 ?c2 ?c3 ?_)
        case c0 => intro u hu; obtain rfl := List.mem_singleton.1 hu; rfl
        case c1 => unfold maxLen; omega
        case c2 => omega
        case c3 => have := HX.out.le; simp; omega
        intro v' w5 hown hgr
        have HNN5 := Lib.hid (owns_more_some hown)
        have HO5 : Hid (OwnS w5 w4.heap.size v' (L.drop j).reverse) := by show OwnS _ _ _ _; rw [HRev.out]; exact owns_snocS hown
        have HX5 := Lib.hid ((HX.out.alloc _).grown hgr (owns_block HO.out))
        have hbl := Nat.lt_of_lt_of_le (World.block_lt_of_cell? w1 _ (HC.out j hj)) HF4.out.le
        have cj5 := (HX5.out.below.cell (p := ⟨nb, no + j, none⟩) hbl).trans ((HX.out.below.cell (p := ⟨nb, no + j, none⟩) hbl).symm.trans cj)
        have HB5 : Hid (BytesAt w5 (.slice (some ⟨rb, ro, none⟩) T.length rc) T) := (HO4.out.reads).below (Nat.le_refl _) HX5.out.below
        obtain ⟨sb, hsb⟩ : ∃ sb : ByteArray, ⟨(bytesS x).toArray⟩ = sb := ⟨_, rfl⟩
        have hbb : bytesS sb = bytesS x := by rw [← hsb]; exact bytesS_mk _
        have e1 : optV (some (bytesS x)) = .returned (.tuple #[.string sb, .bool true]) := by unfold optV; simp [hsb]
        have HE1 := Lib.hid e1
        have es := str_eq hbb
        clear hown hgr HO HX cj hbl hsb hbb e1 HRev
        go_wp2_with fail
        refine (i_PlaceOf w5 _ T HB5.out x).mono ?_
        rw [HPl.out]
        rintro e w' ⟨rfl, rfl⟩
        go_wp2_with fail
        refine (i_NameAt w5 _ T HB5.out pl).mono ?_
        rw [HNa.out, HE1.out]
        rintro e w' ⟨rfl, rfl⟩
        go_wp2_with fail
        go_roundw
        case rel => exact ⟨(j : Int) - 1, by omega, by omega, by go_num, by rw [show ((j : Int) - 1 + 1).toNat = j by omega]; exact HO5, HNN5, HX5⟩
        case measure => simp [intOf]; try omega
      · obtain rfl : q = -1 := by omega
        have hOr : OwnS wr w4.heap.size u5 L.reverse := HO.out
        obtain ⟨gb, gc, hv5, -, -⟩ := owns_some hOr HNN.out
        rw [List.length_reverse] at hv5
        subst hv5
        have HOr := Lib.hid hOr
        have hRL : L.reverse.length = L.length := List.length_reverse
        have q1 := i_NameTable wr gb 0 gc L.reverse (by rw [hRL]; exact hOr.reads) (fun s hs => HSz.out s (List.mem_reverse.1 hs)) (by rw [hRL]; omega)
        rw [hRL, tableL_rev, HT.out] at q1
        have Q1 := Lib.hid q1
        clear hOr q1 hRL HO hlt hq1 hq2
        go_wp2_with fail
        refine Q1.out.mono ?_
        rintro e w5 ⟨r5, rfl, o5, h5⟩
        obtain ⟨xa, xc, rfl⟩ := owns_form o5
        have HX5 := Lib.hid (HX.out.call h5)
        have HO5 := Lib.hid o5.reads
        have HB5 : Hid (BytesAt w5 (.slice (some ⟨rb, ro, none⟩) T.length rc) T) := (HO4.out.reads).below (Nat.le_refl _) HX5.out.below
        clear o5 h5 HX
        go_wp2_with fail
        refine (l_sameBytes w5 _ _ T T HO5.out HB5.out).mono ?_
        rw [eqB_self]
        rintro e w6 ⟨rfl, h6⟩
        have HX6 := Lib.hid (HX5.out.call h6)
        have c6 := (HX6.out.below.cell (p := ⟨rb, ro, none⟩) (World.block_lt_of_cell? w4 _ HC0.out)).trans HC0.out
        have lT : (0 : Int) < (T.length : Int) := by have := HTl.out; omega
        clear h6 HX5
        go_wp2_with fail
        go_ret
        exact ⟨rfl, (HG4.out.call HX6.out.below).below⟩
  · subst hv
    have hl' : (1048576 : Int) < (l.length : Int) := by omega
    clear hl h
    unfold maxLen at hmax
    go_enter Try.func11, Try.ntmps11
    go_wp2_with fail
    go_ret
    exact ⟨rfl, Below.refl _ _⟩
set_option maxRecDepth 100000 in
theorem lifted_FnNameTable (os : Os) (started : os.Started) (H : Type) (enc : TypeId × Value → H) :
    ReturnsInHanded {} Try.checked os 11 .any (Rows.fnNameTableSpec.pre6 enc Try.prog Try.f11 Rows.fnNameTableRow.domain false) (Rows.fnNameTableSpec.post enc Try.prog Try.f11 false true false false) := by
  refine returnsInHanded_of_change (C := Try.checked) own_knob started (by kernel_rfl) Try.func11
    (ChangeSpec.witness6 (enc := enc) (C := Try.checked) false ⟨#[], #[.slice none 0 0], []⟩ 8 (by kernel_rfl) (by kernel_rfl) (by kernel_rfl) (by kernel_rfl)) ?_
  intro W base args ds gs before hval0 hW hcnd _
  have hval : ∀ (j : Nat) t v, Try.f11.params[j]? = some t → args[j]? = some v → Value.okWide Try.prog W .any base t v := hval0
  have hW' := hW
  obtain ⟨p, q, hA0, hV, rfl, hfz, hnd⟩ := hW
  have hA : DataW.TrodAll enc Try.prog W 0 (fun _ => true) true Try.f11.params.toList args.toList ds p := hA0
  rw [Try.params11] at hA hval
  obtain ⟨v0, vs0, d0, ds0, p0, q0, hargs, rfl, rfl, h0, r0⟩ := trodAll_cons hA
  obtain ⟨rfl, rfl, rfl⟩ := trodAll_nil r0
  obtain rfl : args = #[v0] := by cases args; simp_all
  obtain ⟨rfl, rfl⟩ := trodVars_none hV
  clear hA0 hval0
  have k0 := h0
  have t0 : ∀ x ∈ p0, x.block < W.heap.size := fun x hx => by simpa using hW'.lt x (by simp [hx])
  obtain ⟨l0, o0⟩ := open_bytesAt (hval 0 22 v0 rfl rfl) h0
  refine (walk_FnNameTable W v0 l0 o0).mono fun e W' ⟨he, hg⟩ => ?_
  subst he
  exact ⟨_, rfl, _, _, _, _, _, _, hW', (trodAll_cons_mk (shut_bool Try.underlying4 _) trodAll_mk0), (trodAll_cons_mk (Below.trod laid_out (by kernel_rfl) (of_decide_eq_true (by kernel_rfl)) k0 hg t0) trodAll_mk0), rfl, hg.frame _, fun h => by cases h⟩

theorem facts_FnNameTable : joinedFacts Try.prog 11 Try.f11 Rows.fnNameTableSpec Rows.fnNameTableRow = true := by
  unfold joinedFacts
  simp only [Bool.and_eq_true]
  repeat' apply And.intro
  all_goals first
    | with_reducible exact laid_out
    | with_reducible exact may_enter
    | (with_reducible rw [lifts_final]; as_aux_lemma => kernel_rfl)
    | (with_reducible rw [make_cut]; as_aux_lemma => kernel_rfl)
    | as_aux_lemma => kernel_rfl
theorem inst_FnNameTable : Try.f11.isInstance Try.prog Rows.fnNameTableRow.origin Rows.fnNameTableRow.targs := of_decide_eq_true (by kernel_rfl)
theorem wrap_FnNameTable : Try.f11.isWrapper Try.prog Rows.fnNameTableRow.wrapper Rows.fnNameTableRow.mainSum := by
  unfold Func.isWrapper
  first | (rw [if_pos (by decide +kernel)]; kernel_rfl) | (rw [if_neg (by decide +kernel)]; exact ⟨rfl, rfl⟩)
theorem named_FnNameTable : Try.prog.funcNamed Rows.fnNameTableRow.func = some 11 := by kernel_rfl
theorem over_FnNameTable : Rows.fnNameTableRow.holds Try.pinned (OpenSpec.ofChange Rows.fnNameTableSpec) :=
  OpenClaim.holds_of_wide 11 Try.f11 rfl rfl rfl rfl rfl rfl rfl ⟨rfl, rfl, rfl, rfl, rfl⟩ rfl rfl rfl rfl rfl named_FnNameTable Try.func11 facts_FnNameTable inst_FnNameTable wrap_FnNameTable
    (fun os started H enc _ => lifted_FnNameTable os started H enc)

/-- The statement. -/
theorem holds_FnNameTable : Rows.FnNameTableSaid :=
  over_FnNameTable
#print axioms holds_FnNameTable
end Go.Proofs.Ytnompmdnonelhaa
