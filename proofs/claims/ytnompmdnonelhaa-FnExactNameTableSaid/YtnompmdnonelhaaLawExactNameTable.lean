/- The program's NameTable returns what the reference's returns, for all arguments. No condition. -/
import Derived.Test.YtnompmdnonelhaaFacts
import Derived.Test.YtnompmdnonelhaaMarkS
import Derived.Test.YtnompmdnonelhaaNameTab
import Derived.Test.YtnompmdnonelhaaOpen
import Derived.Test.YtnompmdnonelhaaMark
import Derived.Test.YtnompmdnonelhaaDrawT
namespace Go.Proofs.Ytnompmdnonelhaa
open Go.ChangeShapes Go.WideShapes Go.ChangeAt Go.RowKit Go.Joins
set_option linter.unusedSimpArgs false
set_option linter.unusedVariables false
set_option maxRecDepth 100000
theorem owns_under {w w' : World} {base B : Nat} {e : TypeId} {size : Nat} {v : Value} {n : Nat} {xs : List Value} (h : w.ownsRow base e size v n xs) (hb : Below B w w') (hB : ∀ k, v.ownBlock = some k → k < B) : w'.ownsRow base e size v n xs := by
  refine ⟨h.1, ?_⟩
  rcases h.2 with h2 | ⟨g, cap, cur, hv, hg, hh, r⟩
  · exact .inl h2
  · exact .inr ⟨g, cap, cur, hv, hg, (hb.block g (hB g (by rw [hv]; rfl))).trans hh, r⟩
set_option maxHeartbeats 2000000 in
theorem walk_FnExactNameTable (w : World) (v : Value) (L : List ByteArray) (o : StrsAt w v L ∧ ∀ s ∈ L, s.size ≤ maxLen) :
    Calls Try.prog 10 #[v] w fun e w' => e = .returned (.bool true) ∧ Below w.heap.size w w' := by
  obtain ⟨h, hs⟩ := o
  obtain ⟨a, cap, rfl, -⟩ := h.form
  have H := Lib.hid h
  have HS := Lib.hid hs
  clear h hs
  have hc0 := strsCost_nonneg L
  by_cases hl : (L.length : Int) + strsCost L ≤ 1048576
  case neg =>
    have E : szV 1048576 ((L.length : Int) + strsCost L) = -1 := by unfold szV; rw [if_neg hl]
    clear hl
    go_enter Try.func10, Try.ntmps10
    go_wp2_with fail
    refine (szStringS_any w _ L H.out HS.out 1048576 (by decide) (by decide)).mono ?_
    rw [E]
    rintro e w1 ⟨rfl, h1⟩
    have HF := Lib.hid ((From.start w).call h1)
    clear h1 E
    go_wp2_with fail
    go_ret
    exact ⟨rfl, HF.out.below⟩
  have E : szV 1048576 ((L.length : Int) + strsCost L) = 1048576 - ((L.length : Int) + strsCost L) := by unfold szV; rw [if_pos hl]
  have hLl : L.length ≤ 1048576 := by omega
  obtain ⟨left, hleft⟩ : ∃ left, 1048576 - ((L.length : Int) + strsCost L) = left := ⟨_, rfl⟩
  have hleft0 : 0 ≤ left := by omega
  rw [hleft] at E
  clear hleft hl hc0
  obtain ⟨T, hT⟩ : ∃ T, tableL L = T := ⟨_, rfl⟩
  have HT := Lib.hid hT
  have hTl : T.length ≤ 361 := by rw [← hT]; exact tableL_length L
  clear hT
  go_enter Try.func10, Try.ntmps10
  go_wp2_with fail
  refine (szStringS_any w _ L H.out HS.out 1048576 (by decide) (by decide)).mono ?_
  rw [E]
  rintro e w1 ⟨rfl, h1⟩
  have HF1 := Lib.hid ((From.start w).call h1)
  clear h1 E
  go_wp2_with fail
  refine (toStringS_any w1 _ L (H.out.below (Nat.le_refl _) HF1.out.below) (by omega)).mono ?_
  rintro e w2 ⟨r1, rfl, o1, hn1, h2⟩
  obtain ⟨g1, c1, rfl, -, -⟩ := owns_some o1 hn1
  have HF2 := Lib.hid (HF1.out.call h2)
  have HR2 := Lib.hid o1.reads
  clear o1 hn1 h2 HF1
  go_wp2_with fail
  refine (s_NameTable w2 _ L HR2.out HS.out hLl).mono ?_
  rw [HT.out]
  rintro e w3 ⟨r2, rfl, o2, h3⟩
  obtain ⟨ta, tc, rfl⟩ := owns_form o2
  have HF3 := Lib.hid (HF2.out.call h3)
  have HW3 := Lib.hid o2
  clear o2 h3 HF2 HR2
  go_wp2_with fail
  refine (toStringS_any w3 _ L (H.out.below (Nat.le_refl _) HF3.out.below) (by omega)).mono ?_
  rintro e w4 ⟨r3, rfl, o3, hn3, h4⟩
  obtain ⟨g3, c3, rfl, hg3, hg3'⟩ := owns_some o3 hn3
  have HF4 := Lib.hid (HF3.out.call h4)
  have hz3 : w.heap.size ≤ w3.heap.size := HF3.out.le
  have HW4 := Lib.hid (owns_call HW3.out h4)
  have HX4 := Lib.hid o3
  have HWB : Hid (∀ k, (Value.slice ta T.length tc).ownBlock = some k → k < w3.heap.size) := fun k hk => (World.ownsRow.lt HW3.out k hk).2
  clear o3 hn3 h4 HF3 HW3
  go_wp2_with fail
  refine (i_NameTable w4 g3 0 c3 L HX4.out.reads HS.out hLl).mono ?_
  rw [HT.out]
  rintro e w5 ⟨r4, rfl, o4, h5⟩
  obtain ⟨ga, gc, rfl⟩ := owns_form o4
  have HF5 := Lib.hid (HF4.out.call h5)
  have HW5 := Lib.hid (owns_call HW4.out h5)
  have HX5 := Lib.hid (owns_call HX4.out h5)
  have HG5 := Lib.hid o4
  have HX5' : Hid (w4.heap.size ≤ w5.heap.size) := h5.size
  clear o4 h5 HF4 HW4 HX4
  go_wp2_with fail
  refine (l_eqByteS w5 _ _ T T HG5.out.reads (reads_of_owns HW5.out)).mono ?_
  rw [eqB_self]
  rintro e w6 ⟨rfl, h6⟩
  have HF6 := Lib.hid (HF5.out.call h6)
  have HW6 := Lib.hid (owns_call HW5.out h6)
  have HX6 := Lib.hid (owns_call HX5.out h6)
  have HG6 := Lib.hid (owns_call HG5.out h6)
  have HX6' : Hid (w4.heap.size ≤ w6.heap.size) := Nat.le_trans HX5'.out h6.size
  clear h6 HF5 HW5 HX5 HG5 HX5'
  go_wp2_with fail
  refine (toStringS_any w6 _ L (H.out.below (Nat.le_refl _) HF6.out.below) (by omega)).mono ?_
  rintro e w7 ⟨r5, rfl, o5, hn5, h7⟩
  obtain ⟨g5, c5, rfl, -, -⟩ := owns_some o5 hn5
  have HF7 := Lib.hid (HF6.out.call h7)
  have HW7 := Lib.hid (owns_call HW6.out h7)
  have HX7 : Hid (OwnS w7 w3.heap.size (.slice (some ⟨g3, 0, none⟩) L.length c3) L) := owns_call HX6.out h7
  have HG7 := Lib.hid (owns_call HG6.out h7)
  have HY7 := Lib.hid o5.reads
  have HX7' : Hid (w4.heap.size ≤ w7.heap.size) := Nat.le_trans HX6'.out h7.size
  clear o5 hn5 h7 HF6 HW6 HX6 HG6 HX6'
  go_wp2_with fail
  refine (l_eqStringS_same w7 _ _ L HX7.out.reads HY7.out).mono ?_
  rintro e w8 ⟨rfl, h8⟩
  have HF8 := Lib.hid (HF7.out.call h8)
  have HW8 := Lib.hid (owns_call HW7.out h8)
  have HX8 : Hid (OwnS w8 w3.heap.size (.slice (some ⟨g3, 0, none⟩) L.length c3) L) := owns_call HX7.out h8
  have HG8 := Lib.hid (owns_call HG7.out h8)
  have HX8' : Hid (w4.heap.size ≤ w8.heap.size) := Nat.le_trans HX7'.out h8.size
  have z38 : w3.heap.size ≤ w8.heap.size := by have := HX8'.out; omega
  clear h8 HF7 HW7 HX7 HG7 HX7' HY7
  go_wp2_with fail
  refine (markStringS_any w8 w3.heap.size _ L HX8.out z38 1 (by decide) (by omega)).mono ?_
  rintro e w9 ⟨rfl, o9, h9⟩
  have hle3 : w.heap.size ≤ g3 := by have := HF8.out; omega
  have HF9 := Lib.hid (HF8.out.grown h9 (fun k e => by simp only [Value.ownBlock, Option.some.injEq] at e; omega))
  have HW9 : Hid (OwnB w9 w2.heap.size (.slice ta T.length tc) T) := World.ownsRow.kept HW8.out h9 (by
    cases hb : (Value.slice ta T.length tc).ownBlock with
    | none => exact .inl rfl
    | some k => exact .inr (fun e => by have := HWB.out k hb; simp only [Value.ownBlock, Option.some.injEq] at e; omega))
  have HG9 : Hid (OwnB w9 w4.heap.size (.slice ga T.length gc) T) := World.ownsRow.kept HG8.out h9 (by
    cases hb : (Value.slice ga T.length gc).ownBlock with
    | none => exact .inl rfl
    | some k => exact .inr (fun e => by have := (World.ownsRow.lt HG8.out k hb).1; simp only [Value.ownBlock, Option.some.injEq] at e; omega))
  have HX9' : Hid (w4.heap.size ≤ w9.heap.size) := Nat.le_trans HX8'.out h9.size
  clear o9 h9 HF8 HW8 HX8 HG8 HX8'
  go_wp2_with fail
  refine (l_eqByteS w9 _ _ T T HG9.out.reads (reads_of_owns HW9.out)).mono ?_
  rw [eqB_self]
  rintro e w10 ⟨rfl, h10⟩
  have HF10 := Lib.hid (HF9.out.call h10)
  have HW10 := Lib.hid (owns_call HW9.out h10)
  have HG10 : Hid (OwnB w10 w4.heap.size (.slice ga T.length gc) T) := owns_call HG9.out h10
  have z410 : w4.heap.size ≤ w10.heap.size := Nat.le_trans HX9'.out h10.size
  have z34 : w3.heap.size ≤ w4.heap.size := by omega
  clear h10 HF9 HW9 HG9 HX9'
  go_wp2_with fail
  refine (markByteS_any w10 w4.heap.size _ T HG10.out z410 1 (by decide) (by omega)).mono ?_
  rintro e w11 ⟨rfl, o11, h11⟩
  have hw4 : w.heap.size ≤ w4.heap.size := by omega
  have HF11 : Hid (From w.heap.size w w11) := HF10.out.trans (h11.mono hw4)
  have HW11 : Hid (OwnB w11 w2.heap.size (.slice ta T.length tc) T) := owns_under HW10.out h11 (fun k hk => by have := HWB.out k hk; omega)
  have HG11 : Hid (OwnB w11 w4.heap.size (.slice ga T.length gc) (marks 1 T.length)) := o11
  clear o11 h11 HF10 HW10 HG10
  go_wp2_with fail
  refine (heldByteS_any w11 _ 1 T.length HG11.out.reads (by decide) (by omega)).mono ?_
  rintro e w12 ⟨rfl, rfl⟩
  go_wp2_with fail
  refine (toStringS_any w11 _ L (H.out.below (Nat.le_refl _) HF11.out.below) (by omega)).mono ?_
  rintro e w13 ⟨r6, rfl, o6, hn6, h13⟩
  obtain ⟨g6, c6, rfl, -, -⟩ := owns_some o6 hn6
  have HF13 := Lib.hid (HF11.out.call h13)
  have HW13 := Lib.hid (owns_call HW11.out h13)
  have HG13 := Lib.hid (owns_call HG11.out h13)
  have HY13 := Lib.hid o6.reads
  clear o6 hn6 h13 HF11 HW11 HG11
  go_wp2_with fail
  refine (i_NameTable w13 g6 0 c6 L HY13.out HS.out hLl).mono ?_
  rw [HT.out]
  rintro e w14 ⟨r7, rfl, o7, h14⟩
  obtain ⟨ha, hc, rfl⟩ := owns_form o7
  have HF14 := Lib.hid (HF13.out.call h14)
  have HW14 := Lib.hid (owns_call HW13.out h14)
  have HG14 := Lib.hid (owns_call HG13.out h14)
  have HZ14 := Lib.hid o7.reads
  clear o7 h14 HF13 HW13 HG13 HY13
  go_wp2_with fail
  refine (l_eqByteS w14 _ _ T T HZ14.out (reads_of_owns HW14.out)).mono ?_
  rw [eqB_self]
  rintro e w15 ⟨rfl, h15⟩
  have HF15 := Lib.hid (HF14.out.call h15)
  have HG15 : Hid (OwnB w15 w4.heap.size (.slice ga T.length gc) (marks 1 T.length)) := owns_call HG14.out h15
  clear h15 HF14 HW14 HG14 HZ14
  go_wp2_with fail
  refine (heldByteS_any w15 _ 1 T.length HG15.out.reads (by decide) (by omega)).mono ?_
  rintro e w16 ⟨rfl, rfl⟩
  go_wp2_with fail
  go_ret
  exact ⟨rfl, HF15.out.below⟩
set_option maxRecDepth 100000 in
theorem lifted_FnExactNameTable (os : Os) (started : os.Started) (H : Type) (enc : TypeId × Value → H) :
    ReturnsInHanded {} Try.checked os 10 .any (Rows.fnExactNameTableSpec.pre6 enc Try.prog Try.f10 Rows.fnExactNameTableRow.domain false) (Rows.fnExactNameTableSpec.post enc Try.prog Try.f10 false true false false) := by
  refine returnsInHanded_of_change (C := Try.checked) own_knob started (by kernel_rfl) Try.func10
    (ChangeSpec.witness6 (enc := enc) (C := Try.checked) false ⟨#[], #[.slice none 0 0], []⟩ 8 (by kernel_rfl) (by kernel_rfl) (by kernel_rfl) (by kernel_rfl)) ?_
  intro W base args ds gs before hval0 hW hcnd _
  have hval : ∀ (j : Nat) t v, Try.f10.params[j]? = some t → args[j]? = some v → Value.okWide Try.prog W .any base t v := hval0
  have hW' := hW
  obtain ⟨p, q, hA0, hV, rfl, hfz, hnd⟩ := hW
  have hA : DataW.TrodAll enc Try.prog W 0 (fun _ => true) true Try.f10.params.toList args.toList ds p := hA0
  rw [Try.params10] at hA hval
  obtain ⟨v0, vs0, d0, ds0, p0, q0, hargs, rfl, rfl, h0, r0⟩ := trodAll_cons hA
  obtain ⟨rfl, rfl, rfl⟩ := trodAll_nil r0
  obtain rfl : args = #[v0] := by cases args; simp_all
  obtain ⟨rfl, rfl⟩ := trodVars_none hV
  clear hA0 hval0
  have k0 := h0
  have t0 : ∀ x ∈ p0, x.block < W.heap.size := fun x hx => by simpa using hW'.lt x (by simp [hx])
  obtain ⟨x0, o0⟩ := open_stringsAt (hval 0 53 v0 rfl rfl) h0
  refine (walk_FnExactNameTable W v0 x0 o0).mono fun e W' ⟨he, hg⟩ => ?_
  subst he
  exact ⟨_, rfl, _, _, _, _, _, _, hW', (trodAll_cons_mk (shut_bool Try.underlying4 _) trodAll_mk0), (trodAll_cons_mk (Below.trod laid_out (by kernel_rfl) (of_decide_eq_true (by kernel_rfl)) k0 hg t0) trodAll_mk0), rfl, hg.frame _, fun h => by cases h⟩

theorem facts_FnExactNameTable : joinedFacts Try.prog 10 Try.f10 Rows.fnExactNameTableSpec Rows.fnExactNameTableRow = true := by
  unfold joinedFacts
  simp only [Bool.and_eq_true]
  repeat' apply And.intro
  all_goals first
    | with_reducible exact laid_out
    | with_reducible exact may_enter
    | (with_reducible rw [lifts_final]; as_aux_lemma => kernel_rfl)
    | (with_reducible rw [make_cut]; as_aux_lemma => kernel_rfl)
    | as_aux_lemma => kernel_rfl
theorem inst_FnExactNameTable : Try.f10.isInstance Try.prog Rows.fnExactNameTableRow.origin Rows.fnExactNameTableRow.targs := of_decide_eq_true (by kernel_rfl)
theorem wrap_FnExactNameTable : Try.f10.isWrapper Try.prog Rows.fnExactNameTableRow.wrapper Rows.fnExactNameTableRow.mainSum := by
  unfold Func.isWrapper
  first | (rw [if_pos (by decide +kernel)]; kernel_rfl) | (rw [if_neg (by decide +kernel)]; exact ⟨rfl, rfl⟩)
theorem named_FnExactNameTable : Try.prog.funcNamed Rows.fnExactNameTableRow.func = some 10 := by kernel_rfl
theorem over_FnExactNameTable : Rows.fnExactNameTableRow.holds Try.pinned (OpenSpec.ofChange Rows.fnExactNameTableSpec) :=
  OpenClaim.holds_of_wide 10 Try.f10 rfl rfl rfl rfl rfl rfl rfl ⟨rfl, rfl, rfl, rfl, rfl⟩ rfl rfl rfl rfl rfl named_FnExactNameTable Try.func10 facts_FnExactNameTable inst_FnExactNameTable wrap_FnExactNameTable
    (fun os started H enc _ => lifted_FnExactNameTable os started H enc)

/-- The statement. -/
theorem holds_FnExactNameTable : Rows.FnExactNameTableSaid :=
  over_FnExactNameTable
#print axioms holds_FnExactNameTable
end Go.Proofs.Ytnompmdnonelhaa
