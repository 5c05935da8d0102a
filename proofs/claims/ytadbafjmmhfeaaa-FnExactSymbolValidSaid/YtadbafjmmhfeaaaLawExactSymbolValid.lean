/- The program's SymbolValid returns what the reference's returns, for all arguments. No condition. -/
import Derived.Test.YtadbafjmmhfeaaaFacts
import Derived.Test.YtadbafjmmhfeaaaSym
import Derived.Test.YtadbafjmmhfeaaaObjX
import Derived.Test.YtadbafjmmhfeaaaOpen
namespace Go.Proofs.Ytadbafjmmhfeaaa
open Go.ChangeShapes Go.WideShapes Go.ChangeAt Go.RowKit Go.Joins
set_option linter.unusedSimpArgs false
set_option linter.unusedVariables false
set_option maxRecDepth 100000
theorem secsCost_mem : ∀ {l : List SecD} {s : SecD}, s ∈ l → secCost s ≤ secsCost l
  | x :: r, s, h => by
    have h1 := secCost_nonneg x
    have h2 := secsCost_nonneg r
    unfold secsCost
    rcases List.mem_cons.1 h with rfl | h
    · omega
    · have := secsCost_mem h; omega
set_option maxHeartbeats 1000000 in
theorem walk_FnExactSymbolValid (w : World) (v : Value) (s : SymD) (o : v = symV s ∧ symWf s) (v1 : Value) (l : List SecD) (o1 : SecsAt w v1 l ∧ ∀ s ∈ l, secWf s) :
    Calls Try.prog 8 #[v, v1] w fun e w' => e = .returned (.bool true) ∧ Below w.heap.size w w' := by
  obtain ⟨rfl, hw⟩ := o
  obtain ⟨h1, hws⟩ := o1
  have hs : s.name.size ≤ maxLen := hw.1
  have hss : ∀ x ∈ l, x.name.size ≤ maxLen := fun x hx => (hws x hx).1
  clear hw hws
  have HN := Lib.hid hs
  have HNS := Lib.hid hss
  have H1 := Lib.hid h1
  clear h1 hs hss
  have n0 : 0 ≤ symCost s := by unfold symCost; omega
  have n1 := secsCost_nonneg l
  by_cases hc : symCost s ≤ 1048576
  case neg =>
    have E : szV 1048576 (symCost s) = -1 := by unfold szV; rw [if_neg hc]
    clear hc n0 n1
    go_enter Try.func8, Try.ntmps8
    go_wp2_with fail
    refine (szSymbol_any _ s HN.out 1048576 (by omega) (by omega)).mono ?_
    rw [E]
    rintro e w1 ⟨rfl, g1⟩
    have F1 := ((From.start w).alloc _).call g1
    clear g1
    go_wp2_with fail
    go_ret
    exact ⟨rfl, F1.below⟩
  have E : szV 1048576 (symCost s) = 1048576 - symCost s := by unfold szV; rw [if_pos hc]
  obtain ⟨L, hL⟩ : ∃ L, 1048576 - symCost s = L := ⟨_, rfl⟩
  have z0 : 0 ≤ L := by omega
  have z1 : L ≤ 1048576 := by omega
  rw [hL] at E
  clear hL hc n0
  by_cases hc2 : (l.length : Int) + secsCost l ≤ L
  case neg =>
    have E2 : szV L ((l.length : Int) + secsCost l) = -1 := by unfold szV; rw [if_neg hc2]
    clear hc2 n1
    go_enter Try.func8, Try.ntmps8
    go_wp2_with fail
    refine (szSymbol_any _ s HN.out 1048576 (by omega) (by omega)).mono ?_
    rw [E]
    rintro e w1 ⟨rfl, g1⟩
    have F1 := Lib.hid (((From.start w).alloc _).call g1)
    clear g1 E
    go_wp2_with fail
    refine (szSectionS_any _ v1 l (H1.out.below (Nat.le_refl _) F1.out.below) HNS.out L z0 z1).mono ?_
    rw [E2]
    rintro e w2 ⟨rfl, g2⟩
    have F2 := F1.out.call g2
    clear g2 F1
    go_wp2_with fail
    go_ret
    exact ⟨rfl, F2.below⟩
  have E2 : szV L ((l.length : Int) + secsCost l) = L - ((l.length : Int) + secsCost l) := by unfold szV; rw [if_pos hc2]
  obtain ⟨M, hM⟩ : ∃ M, L - ((l.length : Int) + secsCost l) = M := ⟨_, rfl⟩
  have y0 : 0 ≤ M := by omega
  rw [hM] at E2
  have q1 : l.length ≤ 1048576 := by omega
  have q2 : Hid (∀ x ∈ l, x.bytes.length ≤ 1073741824 ∧ x.fix.length ≤ 1073741824) := fun x hx => by
    have := secsCost_mem hx
    unfold secCost at this
    omega
  clear hM hc2 n1
  go_enter Try.func8, Try.ntmps8
  go_wp2_with fail
  refine (szSymbol_any _ s HN.out 1048576 (by omega) (by omega)).mono ?_
  rw [E]
  rintro e w1 ⟨rfl, g1⟩
  have F1 := Lib.hid (((From.start w).alloc _).call g1)
  have HB := Lib.hid ((Blk.newAt w _ _ w.heap.size rfl).call g1)
  have H2 := Lib.hid (H1.out.below (Nat.le_refl _) F1.out.below)
  have c := HB.out.cell
  clear g1 E H1
  go_wp2_with fail
  refine (szSectionS_any _ v1 l H2.out HNS.out L z0 z1).mono ?_
  rw [E2]
  rintro e w2 ⟨rfl, g2⟩
  have F2 := Lib.hid (F1.out.call g2)
  have HB2 := Lib.hid (HB.out.call g2)
  have H3 := Lib.hid (H2.out.below (Nat.le_refl _) g2)
  clear c
  have c := HB2.out.cell
  clear g2 F1 HB H2 E2
  go_wp2_with fail
  refine (toSymbol_any s _).mono ?_
  rintro e w3 ⟨rfl, g3⟩
  have F3 := Lib.hid (F2.out.call g3)
  have HB3 := Lib.hid (HB2.out.call g3)
  have H4 := Lib.hid (H3.out.below (Nat.le_refl _) g3)
  clear c
  have c := HB3.out.cell
  clear g3 F2 HB2 H3
  go_wp2_with fail
  refine (toSectionS_any _ v1 l H4.out q1 q2.out).mono ?_
  rintro e w4 ⟨r4, ls4, rfl, hls4, o4, g4⟩
  have F4 := Lib.hid (F3.out.call g4)
  have HB4 := Lib.hid (HB3.out.call g4)
  have H5 := Lib.hid (H4.out.below (Nat.le_refl _) g4)
  have R4 := Lib.hid (hls4 ▸ o4.at : SecsAt w4 r4 l)
  obtain ⟨ra, rc, rfl⟩ := owns_form o4.row
  clear c
  have c := HB4.out.cell
  clear g4 F3 HB3 H4 o4 hls4
  go_wp2_with fail
  refine (s_SymbolValid _ s _ l R4.out HN.out).mono ?_
  rintro e w5 ⟨rfl, g5⟩
  have F5 := Lib.hid (F4.out.call g5)
  have HB5 := Lib.hid (HB4.out.call g5)
  have H6 := Lib.hid (H5.out.below (Nat.le_refl _) g5)
  clear c
  have c := HB5.out.cell
  clear g5 F4 HB4 H5 R4
  go_wp2_with fail
  refine (toSectionS_any _ v1 l H6.out q1 q2.out).mono ?_
  rintro e w6 ⟨r6, ls6, rfl, hls6, o6, g6⟩
  have F6 := Lib.hid (F5.out.call g6)
  have HB6 := Lib.hid (HB5.out.call g6)
  have H7 := Lib.hid (H6.out.below (Nat.le_refl _) g6)
  have R6 := Lib.hid (hls6 ▸ o6.at : SecsAt w6 r6 l)
  obtain ⟨rb, rd, rfl⟩ := owns_form o6.row
  clear c
  have c := HB6.out.cell
  clear g6 F5 HB5 H6 o6 hls6
  go_wp2_with fail
  refine (toSymbol_any s _).mono ?_
  rintro e w7 ⟨rfl, g7⟩
  have F7 := Lib.hid (F6.out.call g7)
  have H8 := Lib.hid (H7.out.below (Nat.le_refl _) g7)
  have R7 := Lib.hid (R6.out.below (Nat.le_refl _) g7)
  clear c g7 F6 HB6 H7 R6
  go_wp2_with fail
  refine (i_SymbolValid _ s _ l R7.out HN.out).mono ?_
  rintro e w8 ⟨rfl, g8⟩
  have F8 := Lib.hid (F7.out.call g8)
  have H9 := Lib.hid (H8.out.below (Nat.le_refl _) g8)
  have R8 := Lib.hid (R7.out.below (Nat.le_refl _) g8)
  clear g8 F7 H8 R7
  go_wp2_with fail
  refine (toSectionS_any _ v1 l H9.out q1 q2.out).mono ?_
  rintro e w9 ⟨r9, ls9, rfl, hls9, o9, g9⟩
  have F9 := Lib.hid (F8.out.call g9)
  have R9 := Lib.hid (R8.out.below (Nat.le_refl _) g9)
  have T9 := Lib.hid (hls9 ▸ o9.at : SecsAt w9 r9 l)
  clear g9 F8 H9 o9 R8 hls9
  go_wp2_with fail
  refine (eqSectionS_same _ _ _ l R9.out T9.out).mono ?_
  rintro e w10 ⟨rfl, g10⟩
  have F10 := F9.out.call g10
  clear g10 F9
  go_wp2_with fail
  go_ret
  exact ⟨rfl, F10.below⟩
set_option maxRecDepth 100000 in
theorem lifted_FnExactSymbolValid (os : Os) (started : os.Started) (H : Type) (enc : TypeId × Value → H) :
    ReturnsInHanded {} Try.checked os 8 .any (Rows.fnExactSymbolValidSpec.pre6 enc Try.prog Try.f8 Rows.fnExactSymbolValidRow.domain false) (Rows.fnExactSymbolValidSpec.post enc Try.prog Try.f8 false true false false) := by
  refine returnsInHanded_of_change (C := Try.checked) own_knob started (by kernel_rfl) Try.func8
    (ChangeSpec.witness6 (enc := enc) (C := Try.checked) false ⟨#[], #[.agg #[.string ⟨#[]⟩, .int .i64 0, .int .i64 0, .int .i64 0], .slice none 0 0], []⟩ 8 (by kernel_rfl) (by kernel_rfl) (by kernel_rfl) (by kernel_rfl)) ?_
  intro W base args ds gs before hval0 hW hcnd _
  have hval : ∀ (j : Nat) t v, Try.f8.params[j]? = some t → args[j]? = some v → Value.okWide Try.prog W .any base t v := hval0
  have hW' := hW
  obtain ⟨p, q, hA0, hV, rfl, hfz, hnd⟩ := hW
  have hA : DataW.TrodAll enc Try.prog W 0 (fun _ => true) true Try.f8.params.toList args.toList ds p := hA0
  rw [Try.params8] at hA hval
  obtain ⟨v0, vs0, d0, ds0, p0, q0, hargs, rfl, rfl, h0, r0⟩ := trodAll_cons hA
  obtain ⟨v1, vs1, d1, ds1, p1, q1, rfl, rfl, rfl, h1, r1⟩ := trodAll_cons r0
  obtain ⟨rfl, rfl, rfl⟩ := trodAll_nil r1
  obtain rfl : args = #[v0, v1] := by cases args; simp_all
  obtain ⟨rfl, rfl⟩ := trodVars_none hV
  clear hA0 hval0
  have k0 := h0
  have t0 : ∀ x ∈ p0, x.block < W.heap.size := fun x hx => by simpa using hW'.lt x (by simp [hx])
  have k1 := h1
  have t1 : ∀ x ∈ p1, x.block < W.heap.size := fun x hx => by simpa using hW'.lt x (by simp [hx])
  obtain ⟨x0, o0⟩ := open_symbolAt (hval 0 46 v0 rfl rfl) h0
  obtain ⟨x1, o1⟩ := open_sectionsAt (hval 1 47 v1 rfl rfl) h1
  refine (walk_FnExactSymbolValid W v0 x0 o0 v1 x1 o1).mono fun e W' ⟨he, hg⟩ => ?_
  subst he
  exact ⟨_, rfl, _, _, _, _, _, _, hW', (trodAll_cons_mk (shut_bool Try.underlying4 _) trodAll_mk0), (trodAll_cons_mk (Below.trod laid_out (by kernel_rfl) (of_decide_eq_true (by kernel_rfl)) k0 hg t0) (trodAll_cons_mk (Below.trod laid_out (by kernel_rfl) (of_decide_eq_true (by kernel_rfl)) k1 hg t1) trodAll_mk0)), rfl, hg.frame _, fun h => by cases h⟩

theorem facts_FnExactSymbolValid : joinedFacts Try.prog 8 Try.f8 Rows.fnExactSymbolValidSpec Rows.fnExactSymbolValidRow = true := by
  unfold joinedFacts
  simp only [Bool.and_eq_true]
  repeat' apply And.intro
  all_goals first
    | with_reducible exact laid_out
    | with_reducible exact may_enter
    | (with_reducible rw [lifts_final]; as_aux_lemma => kernel_rfl)
    | (with_reducible rw [make_cut]; as_aux_lemma => kernel_rfl)
    | as_aux_lemma => kernel_rfl
theorem inst_FnExactSymbolValid : Try.f8.isInstance Try.prog Rows.fnExactSymbolValidRow.origin Rows.fnExactSymbolValidRow.targs := of_decide_eq_true (by kernel_rfl)
theorem wrap_FnExactSymbolValid : Try.f8.isWrapper Try.prog Rows.fnExactSymbolValidRow.wrapper Rows.fnExactSymbolValidRow.mainSum := by
  unfold Func.isWrapper
  first | (rw [if_pos (by decide +kernel)]; kernel_rfl) | (rw [if_neg (by decide +kernel)]; exact ⟨rfl, rfl⟩)
theorem named_FnExactSymbolValid : Try.prog.funcNamed Rows.fnExactSymbolValidRow.func = some 8 := by kernel_rfl
theorem over_FnExactSymbolValid : Rows.fnExactSymbolValidRow.holds Try.pinned (OpenSpec.ofChange Rows.fnExactSymbolValidSpec) :=
  OpenClaim.holds_of_wide 8 Try.f8 rfl rfl rfl rfl rfl rfl rfl ⟨rfl, rfl, rfl, rfl, rfl⟩ rfl rfl rfl rfl rfl named_FnExactSymbolValid Try.func8 facts_FnExactSymbolValid inst_FnExactSymbolValid wrap_FnExactSymbolValid
    (fun os started H enc _ => lifted_FnExactSymbolValid os started H enc)

/-- The statement. -/
theorem holds_FnExactSymbolValid : Rows.FnExactSymbolValidSaid :=
  over_FnExactSymbolValid
#print axioms holds_FnExactSymbolValid
end Go.Proofs.Ytadbafjmmhfeaaa
