/- Symbols are somewhere: a symbol behind the last section is invalid. No condition. -/
import Derived.Test.YtnompmdnonelhaaFacts
import Derived.Test.YtnompmdnonelhaaDrawK
import Derived.Test.YtnompmdnonelhaaDrawV
import Derived.Test.YtnompmdnonelhaaSym
import Derived.Test.YtnompmdnonelhaaPlainO
namespace Go.Proofs.Ytnompmdnonelhaa
open Go.ChangeShapes Go.WideShapes Go.ChangeAt Go.RowKit Go.Joins
set_option linter.unusedSimpArgs false
set_option linter.unusedVariables false
set_option maxRecDepth 100000
theorem symB_last (s : SymD) (l : List SecD) : symB { s with whr := (l.length : Int) } l = false := by
  unfold symB
  rw [if_neg (by show ¬ (l.length : Int) = -1; omega), if_neg (by show ¬ (l.length : Int) = -2; omega)]
  have : l[((l.length : Int)).toNat]? = none := by simp
  rw [show ({ s with whr := (l.length : Int) } : SymD).whr = (l.length : Int) from rfl, this]
  simp
set_option maxHeartbeats 1000000 in
theorem walk_FnSymbolValid (w : World) (v : Value) (l : List UInt8) (h : BytesAt w v l) :
    Calls Try.prog 5 #[v] w fun e w' => e = .returned (.bool true) ∧ Below w.heap.size w w' := by
  obtain ⟨a, cap, hv, hcap, hmax, hnone, hcell⟩ := h.form
  clear hnone hcell
  by_cases hl : (l.length : Int) ≤ 1048576
  · have H := Lib.hid h
    clear h
    subst hv
    unfold maxLen at hmax
    go_enter Try.func5, Try.ntmps5
    go_wp2_with fail
    refine (drawSymbolValid_any _ _ l H.out).mono ?_
    rintro e w1 ⟨_, rfl, ⟨s, vs, L, rfl, hS, hn, hl, -⟩, hF⟩
    obtain ⟨sa, sc, rfl, -⟩ := hS.form
    have HF := Lib.hid hF
    have HS := Lib.hid hS
    have HN : Hid (s.name.size ≤ maxLen) := Lib.hid (by unfold maxLen; omega : s.name.size ≤ maxLen)
    clear hF hS hn
    go_wp2_with fail
    refine (i_SymbolValid _ s (.slice sa L.length sc) L (HS.out.below (Nat.le_refl _) ((From.start w1).alloc _).below) HN.out).mono ?_
    rintro e w2 ⟨rfl, h2⟩
    have HG2 := Lib.hid (((From.start w1).alloc _).call h2)
    have HF2 := Lib.hid ((HF.out.alloc _).call h2)
    have B2 := (Blk.new w1 (symCells s) 34).call h2
    have HB2 := Lib.hid B2
    have c2 := B2.cell
    have z2 := B2.lt
    clear h2 HF B2
    go_wp2_with fail
    refine (s_SymbolValid _ s (.slice sa L.length sc) L (HS.out.below (Nat.le_refl _) HG2.out.below) HN.out).mono ?_
    rintro e w3 ⟨rfl, h3⟩
    have HF3 := Lib.hid (HF2.out.call h3)
    have HG3 := Lib.hid (HG2.out.call h3)
    have B3 := HB2.out.call h3
    have c3 := B3.cell
    have z3 := B3.lt
    have e3 : (symB s L != symB s L) = false := by simp
    clear h3 HF2 HG2 B3 c2 z2 HB2
    generalize symB s L = sv at *
    go_wp2_with fail
    have HF4 := Lib.hid (HF3.out.alloc (.cells (symCells { s with whr := (L.length : Int) }) 34))
    have HG4 := Lib.hid (HG3.out.alloc (.cells (symCells { s with whr := (L.length : Int) }) 34))
    refine (i_SymbolValid _ { s with whr := (L.length : Int) } (.slice sa L.length sc) L (HS.out.below (Nat.le_refl _) HG4.out.below) HN.out).mono ?_
    rw [symB_last]
    rintro e w4 ⟨rfl, h4⟩
    have HF5 := Lib.hid (HF4.out.call h4)
    clear h4 HF4 HG4 HF3 HG3 c3 z3
    go_wp2_with (first | (go_at_call 20; (with_reducible refine (alive_any _).mono ?_); rintro e w' ⟨rfl, rfl⟩))
    go_ret
    exact ⟨rfl, HF5.out.below⟩
  · subst hv
    have hl' : (1048576 : Int) < (l.length : Int) := by omega
    clear hl h
    unfold maxLen at hmax
    go_enter Try.func5, Try.ntmps5
    go_wp2_with fail
    go_ret
    exact ⟨rfl, Below.refl _ _⟩
set_option maxRecDepth 100000 in
theorem lifted_FnSymbolValid (os : Os) (started : os.Started) (H : Type) (enc : TypeId × Value → H) :
    ReturnsInHanded {} Try.checked os 5 .any (Rows.fnSymbolValidSpec.pre6 enc Try.prog Try.f5 Rows.fnSymbolValidRow.domain false) (Rows.fnSymbolValidSpec.post enc Try.prog Try.f5 false true false false) := by
  refine returnsInHanded_of_change (C := Try.checked) own_knob started (by kernel_rfl) Try.func5
    (ChangeSpec.witness6 (enc := enc) (C := Try.checked) false ⟨#[], #[.slice none 0 0], []⟩ 8 (by kernel_rfl) (by kernel_rfl) (by kernel_rfl) (by kernel_rfl)) ?_
  intro W base args ds gs before hval0 hW hcnd _
  have hval : ∀ (j : Nat) t v, Try.f5.params[j]? = some t → args[j]? = some v → Value.okWide Try.prog W .any base t v := hval0
  have hW' := hW
  obtain ⟨p, q, hA0, hV, rfl, hfz, hnd⟩ := hW
  have hA : DataW.TrodAll enc Try.prog W 0 (fun _ => true) true Try.f5.params.toList args.toList ds p := hA0
  rw [Try.params5] at hA hval
  obtain ⟨v0, vs0, d0, ds0, p0, q0, hargs, rfl, rfl, h0, r0⟩ := trodAll_cons hA
  obtain ⟨rfl, rfl, rfl⟩ := trodAll_nil r0
  obtain rfl : args = #[v0] := by cases args; simp_all
  obtain ⟨rfl, rfl⟩ := trodVars_none hV
  clear hA0 hval0
  have k0 := h0
  have t0 : ∀ x ∈ p0, x.block < W.heap.size := fun x hx => by simpa using hW'.lt x (by simp [hx])
  obtain ⟨l0, o0⟩ := open_bytesAt (hval 0 22 v0 rfl rfl) h0
  refine (walk_FnSymbolValid W v0 l0 o0).mono fun e W' ⟨he, hg⟩ => ?_
  subst he
  exact ⟨_, rfl, _, _, _, _, _, _, hW', (trodAll_cons_mk (shut_bool Try.underlying4 _) trodAll_mk0), (trodAll_cons_mk (Below.trod laid_out (by kernel_rfl) (of_decide_eq_true (by kernel_rfl)) k0 hg t0) trodAll_mk0), rfl, hg.frame _, fun h => by cases h⟩

theorem facts_FnSymbolValid : joinedFacts Try.prog 5 Try.f5 Rows.fnSymbolValidSpec Rows.fnSymbolValidRow = true := by
  unfold joinedFacts
  simp only [Bool.and_eq_true]
  repeat' apply And.intro
  all_goals first
    | with_reducible exact laid_out
    | with_reducible exact may_enter
    | (with_reducible rw [lifts_final]; as_aux_lemma => kernel_rfl)
    | (with_reducible rw [make_cut]; as_aux_lemma => kernel_rfl)
    | as_aux_lemma => kernel_rfl
theorem inst_FnSymbolValid : Try.f5.isInstance Try.prog Rows.fnSymbolValidRow.origin Rows.fnSymbolValidRow.targs := of_decide_eq_true (by kernel_rfl)
theorem wrap_FnSymbolValid : Try.f5.isWrapper Try.prog Rows.fnSymbolValidRow.wrapper Rows.fnSymbolValidRow.mainSum := by
  unfold Func.isWrapper
  first | (rw [if_pos (by decide +kernel)]; kernel_rfl) | (rw [if_neg (by decide +kernel)]; exact ⟨rfl, rfl⟩)
theorem named_FnSymbolValid : Try.prog.funcNamed Rows.fnSymbolValidRow.func = some 5 := by kernel_rfl
theorem over_FnSymbolValid : Rows.fnSymbolValidRow.holds Try.pinned (OpenSpec.ofChange Rows.fnSymbolValidSpec) :=
  OpenClaim.holds_of_wide 5 Try.f5 rfl rfl rfl rfl rfl rfl rfl ⟨rfl, rfl, rfl, rfl, rfl⟩ rfl rfl rfl rfl rfl named_FnSymbolValid Try.func5 facts_FnSymbolValid inst_FnSymbolValid wrap_FnSymbolValid
    (fun os started H enc _ => lifted_FnSymbolValid os started H enc)

/-- The statement. -/
theorem holds_FnSymbolValid : Rows.FnSymbolValidSaid :=
  over_FnSymbolValid
#print axioms holds_FnSymbolValid
end Go.Proofs.Ytnompmdnonelhaa
