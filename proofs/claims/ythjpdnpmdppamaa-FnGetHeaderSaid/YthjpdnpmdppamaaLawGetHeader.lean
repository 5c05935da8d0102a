/- Read headers can be written: PutHeader of the header that GetHeader returns is the beginning of the bytes. No condition. -/
import Derived.Test.YthjpdnpmdppamaaFacts
import Derived.Test.YthjpdnpmdppamaaDrawK
import Derived.Test.YthjpdnpmdppamaaGetHeadA
import Derived.Test.YthjpdnpmdppamaaDrawH
namespace Go.Proofs.Ythjpdnpmdppamaa
open Go.ChangeShapes Go.WideShapes Go.ChangeAt Go.RowKit Go.Joins
set_option linter.unusedSimpArgs false
set_option linter.unusedVariables false
set_option maxRecDepth 100000
set_option maxHeartbeats 1000000 in
theorem walk_FnGetHeader (w : World) (v : Value) (l : List UInt8) (h : BytesAt w v l) :
    Calls Try.prog 22 #[v] w fun e w' => e = .returned (.bool true) ∧ Below w.heap.size w w' := by
  obtain ⟨a, cap, hv, hcap, hmax, hnone, hcell⟩ := h.form
  clear hnone hcell
  by_cases hl : (l.length : Int) ≤ 1048576
  · have H := Lib.hid h
    clear h
    subst hv
    unfold maxLen at hmax
    go_enter Try.func22, Try.ntmps22
    go_wp2_with fail
    refine (drawGetHeader_any _ _ l H.out).mono ?_
    rintro e w1 ⟨vb, rfl, ⟨k, hR, hk⟩, hF⟩
    obtain ⟨ka, kc, rfl, hkc, hkm, -, hcell⟩ := hR.form
    have HF := Lib.hid hF
    have HR := Lib.hid hR
    cases hG : getHead k with
    | none =>
      have HG := Lib.hid hG
      clear hF hR hG hcell
      go_wp2_with fail
      refine (i_GetHeader_all w1 _ k HR.out).mono ?_
      rw [HG.out]
      rintro e w2 ⟨rfl, h2⟩
      simp only [headOpt, Option.isSome_none]
      have HF2 := Lib.hid ((HF.out.call h2).alloc (.cells #[.int .i64 0, .int .i64 0, .int .i64 0, .int .i64 0] 28))
      have HR2 := Lib.hid ((HR.out.below (Nat.le_refl _) h2).below (Nat.le_refl _) ((From.start w2).alloc (.cells #[.int .i64 0, .int .i64 0, .int .i64 0, .int .i64 0] 28)).below)
      clear h2 HF
      go_wp2_with fail
      refine (s_GetHeader_all _ _ k HR2.out).mono ?_
      rw [HG.out]
      rintro e w3 ⟨rfl, h3⟩
      simp only [headOpt, Option.isSome_none]
      have HF3 := Lib.hid (HF2.out.call h3)
      have B3 := (Blk.new w2 #[.int .i64 0, .int .i64 0, .int .i64 0, .int .i64 0] 28).call h3
      have c3 := B3.cell
      have z3 := B3.lt
      clear h3 HF2 HR2
      go_wp2_with (first | (go_at_call 32; (with_reducible refine (alive_any _).mono ?_); rintro e w' ⟨rfl, rfl⟩))
      go_ret
      exact ⟨rfl, (HF3.out.alloc _).below⟩
    | some x =>
      obtain ⟨a0, b0, c0, d0⟩ := x
      obtain ⟨s1, s2, s3⟩ := getHead_some hG
      have HG := Lib.hid hG
      obtain ⟨b, off, rfl, hc⟩ := hcell (by omega)
      obtain ⟨U, hU⟩ : ∃ U, k.take 10 = U := ⟨_, rfl⟩
      have hsub : BytesAt w1 (.slice (some ⟨b, off, none⟩) 10 kc) U := by
        have := bytes_sub hc 0 10 (by omega) kc (by omega) hkm
        rw [← hU]
        simpa using this
      rw [hU] at s3
      have HSB := Lib.hid hsub
      have S3 := Lib.hid s3
      have k10 : (10 : Int) ≤ (k.length : Int) := by omega
      have kc10 : (10 : Int) ≤ (kc : Int) := by omega
      unfold maxLen at hkm
      clear hF hR hG hcell hsub s2 s3 hU hc
      go_wp2_with fail
      refine (i_GetHeader_all w1 _ k HR.out).mono ?_
      rw [HG.out]
      rintro e w2 ⟨rfl, h2⟩
      simp only [headOpt, Option.isSome_some]
      have HF2 := Lib.hid ((From.start w1).call h2 |>.alloc (.cells #[.int .i64 a0, .int .i64 b0, .int .i64 c0, .int .i64 d0] 28))
      have HR2 := Lib.hid ((HR.out.below (Nat.le_refl _) h2).below (Nat.le_refl _) ((From.start w2).alloc (.cells #[.int .i64 a0, .int .i64 b0, .int .i64 c0, .int .i64 d0] 28)).below)
      clear h2
      go_wp2_with fail
      refine (s_GetHeader_all _ _ k HR2.out).mono ?_
      rw [HG.out]
      rintro e w3 ⟨rfl, h3⟩
      simp only [headOpt, Option.isSome_some]
      have HF3 := Lib.hid ((HF2.out.call h3).alloc (.cells #[.int .i64 a0, .int .i64 b0, .int .i64 c0, .int .i64 d0] 28))
      have B3 := (Blk.new w2 #[.int .i64 a0, .int .i64 b0, .int .i64 c0, .int .i64 d0] 28).call h3
      have B3' := Lib.hid (B3.alloc (.cells #[.int .i64 a0, .int .i64 b0, .int .i64 c0, .int .i64 d0] 28))
      have c3 := B3.cell
      have z3 := B3.lt
      clear h3 HF2 HR2
      go_wp2_with fail
      generalize w3.alloc (.cells #[.int .i64 a0, .int .i64 b0, .int .i64 c0, .int .i64 d0] 28) = W at *
      clear c3 z3 B3
      let f : Nat → Value := fun i => match i with
        | 0 => .slice (some ⟨b, off, none⟩) k.length kc
        | 1 => .int .i64 k.length
        | 2 => .bool true
        | 3 => .bool true
        | 4 => headerV a0 b0 c0 d0
        | 6 => .slice (some ⟨b, off, none⟩) k.length kc
        | 7 => .slice (some ⟨b, off, none⟩) 10 kc
        | 8 => .bool true
        | 9 => .bool true
        | 10 => .bool true
        | _ => undef
      refine wp_region_go (fun i v u => if i = 5 then BytesAt u v U else v = f i) (fun _ u => From W.heap.size W u) (fun u u' => Below u.heap.size u u') [[], [0], [1], [2], [3], [3, 4], [3], [3, 6], [3, 5, 7], [3, 8], [9]] (by kernel_rfl) (by kernel_rfl) (by kernel_rfl) (by kernel_rfl) (From.drew (From.start W)) ?hV ?ho ?hq
      case hV =>
        intro i v u u' h hr
        by_cases h5 : i = 5
        · rw [if_pos h5] at h ⊢; exact h.below (Nat.le_refl _) hr
        · rw [if_neg h5] at h ⊢; exact h
      case ho =>
        refine ⟨?_, ?_, ?_, ?_, ?_, ?_, ?_, ?_, ?_, ?_, ?_, trivial⟩
        · intro n a u K hfr _ hS hv' hK
          have e4 : a.tmps.getD 3 undef = .slice (some ⟨b, off, none⟩) k.length kc := hfr 3 (not_dst (by kernel_rfl))
          refine owe_run rfl (wp_val ?_ (hK _ _ hS (Below.refl _ _) (fun _ => rfl)))
          first
            | (go_simp; done)
            | (go_simp; rfl)

        · intro n a u K hfr _ hS hv' hK
          have h0 : a.tmps.getD 39 undef = .slice (some ⟨b, off, none⟩) k.length kc := hv'.1
          refine owe_run rfl (wp_val ?_ (hK _ _ hS (Below.refl _ _) (fun _ => rfl)))
          first
            | (go_simp; done)
            | (go_simp; rfl)

        · intro n a u K hfr _ hS hv' hK
          have h0 : a.tmps.getD 40 undef = .int .i64 k.length := hv'.1
          refine owe_run rfl (wp_val ?_ (hK _ _ hS (Below.refl _ _) (fun _ => rfl)))
          first
            | (go_simp; done)
            | (go_simp; rfl)
        · intro n a u K hfr _ hS hv' hK
          have h0 : a.tmps.getD 41 undef = .bool true := hv'.1
          refine owe_run rfl (wp_val ?_ (hK _ _ hS (Below.refl _ _) (fun _ => rfl)))
          first
            | (go_simp; done)
            | (go_simp; rfl)
        · intro n a u K hfr _ hS hv' hK
          have h3 : a.tmps.getD 42 undef = .bool true := hv'.1
          have e4 : a.tmps.getD 4 undef = .pointer (some ⟨w2.heap.size, 0, none⟩) := hfr 4 (not_dst (by kernel_rfl))
          have c := (B3'.out.below hS.below B3'.out.lt).cell
          refine owe_want rfl (yielded_at rfl h3) (wp_val ?_ (hK _ _ hS (Below.refl _ _) (fun _ => rfl)))
          go_simp
          rfl
        · intro n a u K hfr _ hS hv' hK
          have h3 : a.tmps.getD 42 undef = .bool true := hv'.1
          have h0 : a.tmps.getD 43 undef = headerV a0 b0 c0 d0 := hv'.2.1
          refine owe_want rfl (yielded_at rfl h3) (wp_fn rfl (args1 h0) (enter_fn Try.func53 (by kernel_rfl) rfl _ _) ((i_PutHeader u _ _ _ _).mono ?_))
          rw [S3.out]
          rintro e u1 ⟨r, rfl, o1, k1⟩
          exact ⟨_, rfl, hK _ _ (hS.call k1) k1 (fun _ => o1.reads)⟩
        · intro n a u K hfr _ hS hv' hK
          have h3 : a.tmps.getD 42 undef = .bool true := hv'.1
          have e0 : a.tmps.getD 3 undef = .slice (some ⟨b, off, none⟩) k.length kc := hfr 3 (not_dst (by kernel_rfl))
          refine owe_want rfl (yielded_at rfl h3) (wp_val ?_ (hK _ _ hS (Below.refl _ _) (fun _ => rfl)))
          go_simp
          rfl
        · intro n a u K hfr _ hS hv' hK
          have h3 : a.tmps.getD 42 undef = .bool true := hv'.1
          have h6 : a.tmps.getD 45 undef = .slice (some ⟨b, off, none⟩) k.length kc := hv'.2.1
          refine owe_want rfl (yielded_at rfl h3) (wp_val ?_ (hK _ _ hS (Below.refl _ _) (fun _ => rfl)))
          go_simp
          rfl
        · intro n a u K hfr _ hS hv' hK
          have h3 : a.tmps.getD 42 undef = .bool true := hv'.1
          have h5 : BytesAt u (a.tmps.getD 44 undef) U := hv'.2.1
          have h7 : a.tmps.getD 46 undef = .slice (some ⟨b, off, none⟩) 10 kc := hv'.2.2.1
          refine owe_want rfl (yielded_at rfl h3) (wp_fn rfl (args2 rfl h7) (enter_fn Try.func50 (by kernel_rfl) rfl _ _) ((l_sameBytes u _ _ U U h5 (HSB.out.below (Nat.le_refl _) (HF3.out.trans (hS.below.mono HF3.out.le)).below)).mono ?_))
          rw [eqB_self]
          rintro e u1 ⟨rfl, k1⟩
          exact ⟨_, rfl, hK _ _ (hS.call k1) k1 (fun _ => rfl)⟩
        · intro n a u K hfr _ hS hv' hK
          have h3 : a.tmps.getD 42 undef = .bool true := hv'.1
          have h8 : a.tmps.getD 47 undef = .bool true := hv'.2.1
          refine owe_run rfl (wp_val ?_ (hK _ _ hS (Below.refl _ _) (fun _ => rfl)))
          go_simp
          rfl
        · intro n a u K hfr _ hS hv' hK
          have h3 : a.tmps.getD 48 undef = .bool true := hv'.1
          refine owe_run rfl (wp_val ?_ (hK _ _ hS (Below.refl _ _) (fun _ => rfl)))
          go_simp
          rfl
      case hq =>
        intro g u hS hV
        obtain ⟨-, -, -, -, -, -, -, -, -, -, e10, -⟩ := hV
        have g10 : g 10 = .bool true := e10
        simp only [List.map, putG, List.setIfInBounds_toArray, List.set_cons_zero, List.set_cons_succ, Nat.reduceAdd, g10]
        have HFu := Lib.hid (HF.out.trans ((HF3.out.trans (hS.below.mono HF3.out.le)).below.mono HF.out.le))
        clear hS g10 e10
        go_wp2_with fail
        go_ret
        exact ⟨rfl, HFu.out.below⟩
  · subst hv
    have hl' : (1048576 : Int) < (l.length : Int) := by omega
    clear hl h
    unfold maxLen at hmax
    go_enter Try.func22, Try.ntmps22
    go_wp2_with fail
    go_ret
    exact ⟨rfl, Below.refl _ _⟩
set_option maxRecDepth 100000 in
theorem lifted_FnGetHeader (os : Os) (started : os.Started) (H : Type) (enc : TypeId × Value → H) :
    ReturnsInHanded {} Try.checked os 22 .any (Rows.fnGetHeaderSpec.pre6 enc Try.prog Try.f22 Rows.fnGetHeaderRow.domain false) (Rows.fnGetHeaderSpec.post enc Try.prog Try.f22 false true false false) := by
  refine returnsInHanded_of_change (C := Try.checked) own_knob started (by kernel_rfl) Try.func22
    (ChangeSpec.witness6 (enc := enc) (C := Try.checked) false ⟨#[], #[.slice none 0 0], []⟩ 8 (by kernel_rfl) (by kernel_rfl) (by kernel_rfl) (by kernel_rfl)) ?_
  intro W base args ds gs before hval0 hW hcnd _
  have hval : ∀ (j : Nat) t v, Try.f22.params[j]? = some t → args[j]? = some v → Value.okWide Try.prog W .any base t v := hval0
  have hW' := hW
  obtain ⟨p, q, hA0, hV, rfl, hfz, hnd⟩ := hW
  have hA : DataW.TrodAll enc Try.prog W 0 (fun _ => true) true Try.f22.params.toList args.toList ds p := hA0
  rw [Try.params22] at hA hval
  obtain ⟨v0, vs0, d0, ds0, p0, q0, hargs, rfl, rfl, h0, r0⟩ := trodAll_cons hA
  obtain ⟨rfl, rfl, rfl⟩ := trodAll_nil r0
  obtain rfl : args = #[v0] := by cases args; simp_all
  obtain ⟨rfl, rfl⟩ := trodVars_none hV
  clear hA0 hval0
  have k0 := h0
  have t0 : ∀ x ∈ p0, x.block < W.heap.size := fun x hx => by simpa using hW'.lt x (by simp [hx])
  obtain ⟨l0, o0⟩ := open_bytesAt (hval 0 22 v0 rfl rfl) h0
  refine (walk_FnGetHeader W v0 l0 o0).mono fun e W' ⟨he, hg⟩ => ?_
  subst he
  exact ⟨_, rfl, _, _, _, _, _, _, hW', (trodAll_cons_mk (shut_bool Try.underlying4 _) trodAll_mk0), (trodAll_cons_mk (Below.trod laid_out (by kernel_rfl) (of_decide_eq_true (by kernel_rfl)) k0 hg t0) trodAll_mk0), rfl, hg.frame _, fun h => by cases h⟩

theorem facts_FnGetHeader : joinedFacts Try.prog 22 Try.f22 Rows.fnGetHeaderSpec Rows.fnGetHeaderRow = true := by
  unfold joinedFacts
  simp only [Bool.and_eq_true]
  repeat' apply And.intro
  all_goals first
    | with_reducible exact laid_out
    | with_reducible exact may_enter
    | (with_reducible rw [lifts_final]; as_aux_lemma => kernel_rfl)
    | (with_reducible rw [make_cut]; as_aux_lemma => kernel_rfl)
    | as_aux_lemma => kernel_rfl
theorem inst_FnGetHeader : Try.f22.isInstance Try.prog Rows.fnGetHeaderRow.origin Rows.fnGetHeaderRow.targs := of_decide_eq_true (by kernel_rfl)
theorem wrap_FnGetHeader : Try.f22.isWrapper Try.prog Rows.fnGetHeaderRow.wrapper Rows.fnGetHeaderRow.mainSum := by
  unfold Func.isWrapper
  first | (rw [if_pos (by decide +kernel)]; kernel_rfl) | (rw [if_neg (by decide +kernel)]; exact ⟨rfl, rfl⟩)
theorem named_FnGetHeader : Try.prog.funcNamed Rows.fnGetHeaderRow.func = some 22 := by kernel_rfl
theorem over_FnGetHeader : Rows.fnGetHeaderRow.holds Try.pinned (OpenSpec.ofChange Rows.fnGetHeaderSpec) :=
  OpenClaim.holds_of_wide 22 Try.f22 rfl rfl rfl rfl rfl rfl rfl ⟨rfl, rfl, rfl, rfl, rfl⟩ rfl rfl rfl rfl rfl named_FnGetHeader Try.func22 facts_FnGetHeader inst_FnGetHeader wrap_FnGetHeader
    (fun os started H enc _ => lifted_FnGetHeader os started H enc)

/-- The statement. -/
theorem holds_FnGetHeader : Rows.FnGetHeaderSaid :=
  over_FnGetHeader
#print axioms holds_FnGetHeader
end Go.Proofs.Ythjpdnpmdppamaa
