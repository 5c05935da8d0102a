/- Found names are given: the symbol has the name and is not SymbolNone; a strong one is found before a weak one. No condition. -/
import Derived.Test.YtpgmmjdianoaeaaBase
import Derived.Test.YtpgmmjdianoaeaaDrawK
import Derived.Test.YtpgmmjdianoaeaaDrawL
import Derived.Test.YtpgmmjdianoaeaaInv
import Derived.Test.YtpgmmjdianoaeaaFindX
namespace Go.Proofs.Ytpgmmjdianoaeaa
open Go.ChangeShapes Go.WideShapes Go.ChangeAt Go.RowKit Go.Joins
set_option linter.unusedSimpArgs false
set_option linter.unusedVariables false
set_option maxRecDepth 100000
theorem find_pick {os : List ObjD} {nm : ByteArray} {p1 p2 : Nat} (h : findNm os nm = some (p1, p2)) : ∃ o y, os[p1]? = some o ∧ o.syms[p2]? = some y ∧ y.name = nm ∧ y.whr ≠ -1 ∧ y.bind ≠ 0 ∧ (decide (y.bind = 1) = (findIn (giveB nm 1) os 0).isSome) := by
  unfold findNm at h
  cases h1 : findIn (giveB nm 1) os 0 with
  | some r =>
    rw [h1] at h
    simp only [Option.some_or, Option.some.injEq] at h
    subst h
    obtain ⟨o, y, -, ho, hy, hp⟩ := findIn_some _ _ _ _ _ h1
    unfold giveB at hp
    simp only [Bool.and_eq_true, decide_eq_true_eq] at hp
    exact ⟨o, y, ho, hy, hp.1.1, hp.2, by rw [hp.1.2]; decide, by simp [hp.1.2]⟩
  | none =>
    rw [h1] at h
    simp only [Option.none_or] at h
    obtain ⟨o, y, -, ho, hy, hp⟩ := findIn_some _ _ _ _ _ h
    unfold giveB at hp
    simp only [Bool.and_eq_true, decide_eq_true_eq] at hp
    exact ⟨o, y, ho, hy, hp.1.1, hp.2, by rw [hp.1.2]; decide, by simp [hp.1.2]⟩
theorem any_step {p : SymD → Bool} {os : List ObjD} {o : ObjD} {k j : Nat} {y : SymD} (hk : k ≤ os.length) (hy : o.syms[j]? = some y) : (findIn p (preL os o k (j + 1)) 0).isSome = ((findIn p (preL os o k j) 0).isSome || p y) := by
  obtain ⟨hj, rfl⟩ := List.getElem?_eq_some_iff.1 hy
  rw [pre_step p os o k j hk hj]
  cases findIn p (preL os o k j) 0 with
  | some r => simp
  | none => cases h : p o.syms[j] <;> simp [h]
theorem any_full {p : SymD → Bool} {os : List ObjD} {o : ObjD} {k : Nat} (ho : os[k]? = some o) : findIn p (preL os o k o.syms.length) 0 = findIn p (os.take (k + 1)) 0 := by
  obtain ⟨hk, rfl⟩ := List.getElem?_eq_some_iff.1 ho
  exact pre_full p os k hk
theorem toList_injF {a b : ByteArray} (h : a.toList = b.toList) : a = b := by
  rw [toList_bytesS, toList_bytesS] at h
  cases a; cases b
  unfold bytesS at h
  simp only [Array.toList_inj] at h
  rw [h]
theorem fewObjects_any (w : World) (v : Value) (os : List ObjD) (h : ObjsAt w v os) (hs : ObjsLen os) (b : Bool) (hb : objsB os = b) :
    Calls Try.prog 12 #[v] w fun e w' => e = .returned (.bool b) ∧ Below w.heap.size w w' := by
  have H := Lib.hid h
  have HS := Lib.hid hs
  have HB := Lib.hid hb
  clear h hs hb
  go_enter Try.func12, Try.ntmps12
  go_wp2_with fail
  refine (i_ObjectsValid w v os H.out HS.out).mono ?_
  rw [HB.out]
  rintro e w1 ⟨rfl, k1⟩
  have HK := Lib.hid k1
  clear k1
  go_wp2_with fail
  go_ret
  exact ⟨rfl, HK.out⟩
set_option maxHeartbeats 1000000 in
theorem walk_FnFindName (w : World) (v : Value) (l : List UInt8) (h : BytesAt w v l) :
    Calls Try.prog 4 #[v] w fun e w' => e = .returned (.bool true) ∧ Below w.heap.size w w' := by
  obtain ⟨a, cap, hv, hcap, hmax, hnone, hcell⟩ := h.form
  clear hnone hcell
  by_cases hl : (l.length : Int) ≤ 1048576
  · have H := Lib.hid h
    clear h
    subst hv
    unfold maxLen at hmax
    go_enter Try.func4, Try.ntmps4
    go_wp2_with fail
    refine (s_DrawFindName_any _ _ l H.out).mono ?_
    rintro e w1 ⟨_, rfl, ⟨vo, nm, rfl, ⟨os, ho, hsm, hol⟩, hnm⟩, hF⟩
    have HOLN : Hid (ObjsLen os) := fun o h9 => (hsm o h9).len
    obtain ⟨la, lc, rfl, hlc, hlm, hln, -⟩ := ho.form
    obtain ⟨N, hN⟩ : ∃ N, os.length = N := ⟨_, rfl⟩
    rw [hN] at ho hol hlc ⊢
    have HN := Lib.hid hN
    have HO1 := Lib.hid ho
    have HF1 := Lib.hid hF
    have HSM := Lib.hid hsm
    unfold maxLen at hlm
    obtain ⟨ob, hob⟩ : ∃ ob, objsB os = ob := ⟨_, rfl⟩
    have HOB := Lib.hid hob
    obtain ⟨R, hR⟩ : ∃ R, findV os nm = R := ⟨_, rfl⟩
    obtain ⟨p, hp⟩ : ∃ p, R.getD (0, 0) = p := ⟨_, rfl⟩
    obtain ⟨p1, p2⟩ := p
    obtain ⟨f, hf⟩ : ∃ f, R.isSome = f := ⟨_, rfl⟩
    have HR := Lib.hid hR
    have HPF : Hid (R.getD (0, 0) = (p1, p2) ∧ R.isSome = f) := ⟨hp, hf⟩
    have HV : Hid (giveV (findV os nm) = .agg #[.int .i64 p1, .int .i64 p2] ∧ (findV os nm).isSome = f) := by show _ ∧ _; rw [HR.out]; unfold giveV; rw [hp, hf]; exact ⟨rfl, rfl⟩
    clear ho hsm hF hN hob hR hp hf hnm
    go_wp2_with fail
    refine (i_FindName w1 _ os HO1.out HOLN.out nm).mono ?_
    rw [HV.out.1, HV.out.2]
    rintro e w2 ⟨rfl, k2⟩
    have HO2 := Lib.hid ((HO1.out.below (Nat.le_refl _) k2).below (Nat.le_refl _) ((From.start w2).alloc (.cells #[.int .i64 p1, .int .i64 p2] 35)).below)
    have HF2 := Lib.hid ((HF1.out.call k2).alloc (.cells #[.int .i64 p1, .int .i64 p2] 35))
    have HB2 := Lib.hid (Blk.new w2 #[.int .i64 p1, .int .i64 p2] 35)
    clear k2 HO1 HF1
    go_wp2_with fail
    obtain ⟨b5, hb5⟩ : ∃ b, w2.heap.size = b := ⟨_, rfl⟩
    rw [hb5] at HB2
    try rw [hb5]
    generalize w2.alloc (.cells #[.int .i64 p1, .int .i64 p2] 35) = w2' at *
    clear hb5
    refine (s_FindName w2' _ os HO2.out HOLN.out nm).mono ?_
    rw [HV.out.1, HV.out.2]
    rintro e w3 ⟨rfl, k3⟩
    have k4 := ((From.start w3).alloc (.cells #[.int .i64 p1, .int .i64 p2] 35)).below
    have HO4 := Lib.hid ((HO2.out.below (Nat.le_refl _) k3).below (Nat.le_refl _) k4)
    have HF4 := Lib.hid ((HF2.out.call k3).call k4)
    have HB3 := Lib.hid (HB2.out.call k3)
    have HB4 := Lib.hid (HB3.out.call k4)
    have eB : (f != f) = false := by cases f <;> rfl
    have c5 := HB3.out.cell
    have z5 := HB3.out.lt
    clear k3 k4 HO2 HF2 HB2
    go_wp2_with fail
    obtain ⟨b7, hb7⟩ : ∃ b, w3.heap.size = b := ⟨_, rfl⟩
    try rw [hb7]
    try simp only [hb7]
    clear c5 z5 HB3
    generalize w3.alloc (.cells #[.int .i64 p1, .int .i64 p2] 35) = w4 at *
    clear hb7
    go_loopw [9, 10, 11] (fun sv av i wr => ∃ (k : Nat) (s a : Bool), k ≤ N ∧ i = .int .i64 (k : Int) ∧ sv = .bool s ∧ av = .bool a ∧ Hid (0 < k → ob = true) ∧ Hid (a = (findIn (gateB nm) (os.take k) 0).isSome) ∧ Hid (s = (findIn (giveB nm 1) (os.take k) 0).isSome) ∧ Hid (From w4.heap.size w4 wr)) (fun _ _ i _ => N - (intOf i).toNat)
    case atStart => exact ⟨0, false, false, Nat.zero_le _, rfl, rfl, rfl, (fun h => absurd h (Nat.lt_irrefl _)), rfl, rfl, From.start w4⟩
    case round =>
      obtain ⟨wo, rfl⟩ : ∃ wo, wo = wr := ⟨_, rfl⟩
      obtain ⟨k, s, a, hk, rfl, rfl, rfl, HK0, HA, HS, HF⟩ := hrel
      go_upto_region 11 with fail
      go_cut [50] from 43 to 90 (fun c wx => ∃ b : Bool, c = .bool b ∧ (b = true → k < N ∧ ob = true) ∧ (b = false → k = N ∨ ob = false) ∧ Hid (From w4.heap.size w4 wx))
      case first =>
        by_cases hlt : k < N
        · have i1 : (k : Int) < (N : Int) := by omega
          go_wp2_with fail
          refine (fewObjects_any wo _ os (HO4.out.below (Nat.le_refl _) HF.out.below) HOLN.out ob HOB.out).mono ?_
          rintro e w5 ⟨rfl, k5⟩
          have HF5 := Lib.hid (HF.out.call k5)
          clear k5 HF
          go_wp2_with fail
          go_meet
          case rel => exact ⟨ob, by first | rfl | simp, fun h => ⟨hlt, h⟩, fun h => .inr h, HF5⟩
        · have i1 : ¬ (k : Int) < (N : Int) := by omega
          go_wp2_with fail
          go_meet
          case rel => exact ⟨false, rfl, (fun h => by cases h), (fun _ => .inl (by omega)), HF⟩
      case rest =>
        clear HF
        obtain ⟨b, rfl, hb1, hb0, HF⟩ := hcut
        obtain ⟨wo, rfl⟩ : ∃ wo, wo = wc := ⟨_, rfl⟩
        cases b with
        | false =>
          have hkb := hb0 rfl
          have HAE : Hid (ob = true → a = R.isSome ∧ s = (findIn (giveB nm 1) os 0).isSome) := fun h => by
            rcases hkb with e | e
            · have h1 := HA.out
              have h2 := HS.out
              rw [e, ← HN.out, List.take_length] at h1 h2
              have h3 := (Giv.same (nm := nm) (bind_of (HOB.out.trans h))).2
              have h4 := HR.out
              unfold findV at h4
              rw [if_pos (HOB.out.trans h)] at h4
              rw [h4] at h3
              exact ⟨h1.trans h3, h2⟩
            · rw [h] at e; cases e
          have HAF : Hid (ob = false → a = false ∧ R = none) := fun h => by
            have hk0 : k = 0 := by
              rcases Nat.eq_zero_or_pos k with e | e
              · exact e
              · have := HK0.out e; rw [h] at this; cases this
            have h1 := HA.out
            rw [hk0] at h1
            have h4 := HR.out
            unfold findV at h4
            rw [HOB.out, h] at h4
            exact ⟨h1, h4.symm⟩
          have HB := Lib.hid (HB4.out.call HF.out.below)
          clear hb0 hb1 hkb HA HS HK0
          have c5 := HB.out.cell
          have z5 := HB.out.lt
          cases f with
          | false =>
            have hr : R = none := by have h9 := HPF.out.2; cases R with | none => rfl | some x => cases h9
            have ha : a = false := by
              cases ob with
              | true => rw [(HAE.out rfl).1, hr]; rfl
              | false => exact (HAF.out rfl).1
            have hp9 := HPF.out.1
            rw [hr] at hp9
            simp only [Option.getD_none, Prod.mk.injEq] at hp9
            obtain ⟨rfl, rfl⟩ := hp9
            subst ha
            clear hr
            go_wp2_with (first | (go_at_call 8; (with_reducible refine (alive_any _).mono ?_); rintro e w' ⟨rfl, rfl⟩))
            go_ret
            exact ⟨rfl, (HF4.out.call HF.out.below).below⟩
          | true =>
            have hr : R = some (p1, p2) := by
              have h9 := HPF.out.2
              have h8 := HPF.out.1
              cases R with
              | none => cases h9
              | some x => simp only [Option.getD_some] at h8; rw [h8]
            have hob : ob = true := by
              cases ob with
              | true => rfl
              | false => have h9 := (HAF.out rfl).2; rw [hr] at h9; cases h9
            have hfn : findNm os nm = some (p1, p2) := by
              have h4 := HR.out
              unfold findV at h4
              rw [if_pos (HOB.out.trans hob), hr] at h4
              exact h4
            obtain ⟨o, y, hyo, hyy, hy1, hy2, hy3, hy4⟩ := find_pick hfn
            rw [← (HAE.out hob).2] at hy4
            obtain ⟨ynm, ybd, ywh, yvl⟩ := y
            dsimp only at hy1 hy2 hy3 hy4
            have hlt : p1 < N := by obtain ⟨h9, -⟩ := List.getElem?_eq_some_iff.1 hyo; rw [HN.out] at h9; exact h9
            subst hy1
            obtain ⟨a', c', hv, -, -, -, hcl⟩ := HO4.out.each
            rw [HN.out] at hv
            simp only [Value.slice.injEq] at hv
            obtain ⟨rfl, -, rfl⟩ := hv
            obtain ⟨lb, lo, rfl, hc⟩ := hcl (by rw [HN.out]; omega)
            obtain ⟨hkl, hke⟩ := List.getElem?_eq_some_iff.1 hyo
            obtain ⟨sa, sc, ya, yc, hoa, d0, d1⟩ := hc p1 hkl
            rw [hke] at hoa d0 d1
            obtain ⟨n1, hn1⟩ : ∃ m, o.secs.length = m := ⟨_, rfl⟩
            obtain ⟨n2, hn2⟩ : ∃ m, o.syms.length = m := ⟨_, rfl⟩
            rw [hn1, hn2] at hoa
            rw [hn1] at d0
            rw [hn2] at d1
            have HN2 := Lib.hid hn2
            have HSY := Lib.hid hoa.syms
            have hn2b : n2 ≤ 13 := by rw [← hn2]; exact (HSM.out o (List.mem_of_getElem? hyo)).lb
            have HD0 := Lib.hid d0
            have HD1 := Lib.hid d1
            have hlbl := World.block_lt_of_cell? w4 _ d0
            clear hcl hc hkl hke hoa d0 d1 hn1 hn2
            have hlt2 : p2 < n2 := by obtain ⟨h9, -⟩ := List.getElem?_eq_some_iff.1 hyy; rw [HN2.out] at h9; exact h9
            obtain ⟨a9, c9, hv, -, -, -, hcy⟩ := HSY.out.form
            rw [HN2.out] at hv
            simp only [Value.slice.injEq] at hv
            obtain ⟨rfl, -, rfl⟩ := hv
            obtain ⟨yb, yo, rfl, hcc⟩ := hcy (by rw [HN2.out]; omega)
            obtain ⟨hjl, hje⟩ := List.getElem?_eq_some_iff.1 hyy
            obtain ⟨s0, s1, s2, s3⟩ := hcc p2 hjl
            rw [hje] at s0 s1 s2 s3
            dsimp only at s0 s1 s2 s3
            have hybl := World.block_lt_of_cell? w4 _ s0
            have t0 := (HF.out.below.cell (p := ⟨yb, yo + p2 * 4, none⟩) hybl).trans s0
            have t1 := (HF.out.below.cell (p := ⟨yb, yo + p2 * 4 + 1, none⟩) hybl).trans s1
            have t2 := (HF.out.below.cell (p := ⟨yb, yo + p2 * 4 + 2, none⟩) hybl).trans s2
            have t3 := (HF.out.below.cell (p := ⟨yb, yo + p2 * 4 + 3, none⟩) hybl).trans s3
            clear hcy hcc hjl hje s0 s1 s2 s3
            have g0 := (HF.out.below.cell (p := ⟨lb, lo + p1 * 2, none⟩) hlbl).trans HD0.out
            have g1 := (HF.out.below.cell (p := ⟨lb, lo + p1 * 2 + 1, none⟩) hlbl).trans HD1.out
            have i1 : ¬ (p1 : Int) < 0 := by omega
            have i2 : (p1 : Int) < (N : Int) := by omega
            have i3 : ¬ (p2 : Int) < 0 := by omega
            have i4 : (p2 : Int) < (n2 : Int) := by omega
            have j1 : decide ((p1 : Int) < 0) = false := by simp
            have j2 : decide ((N : Int) ≤ (p1 : Int)) = false := by simp; omega
            have j3 : decide ((p2 : Int) < 0) = false := by simp
            have j4 : decide ((n2 : Int) ≤ (p2 : Int)) = false := by simp; omega
            have j5 : ¬ (N : Int) ≤ (p1 : Int) := by omega
            have j7 : decide (N ≤ p1) = false := by simp; omega
            have j8 : decide (n2 ≤ p2) = false := by simp; omega
            have j9 : ¬ N ≤ p1 := by omega
            have j10 : ¬ n2 ≤ p2 := by omega
            have j6 : ¬ (n2 : Int) ≤ (p2 : Int) := by omega
            have i5 : (0 : Int) ≤ (p1 : Int) := by omega
            have i6 : (0 : Int) ≤ (p2 : Int) := by omega
            have e2 : (ywh != -1) = true := by simpa using hy2
            have e4 : (ybd != 0) = true := by simpa using hy3
            have HFB := Lib.hid (HF4.out.call HF.out.below)
            have zl : lb < wo.heap.size := Nat.lt_of_lt_of_le hlbl HF.out.le
            have zy : yb < wo.heap.size := Nat.lt_of_lt_of_le hybl HF.out.le
            clear hr hob hfn hyo hyy hy2 hy3 HAE HAF HF HB
            by_cases h1 : ybd = 1
            · have e3 : (ybd == 1) = true := by rw [beq_iff_eq]; exact h1
              have e5 : s = true := by rw [← hy4]; simp [h1]
              subst e5
              clear h1 hy4
              go_wp2_with fail
              go_region
              go_wp2_with fail
              go_region
              go_wp2_with fail
              go_ret
              exact ⟨rfl, (HFB.out.alloc _).drew.drew.below⟩
            · have e3 : (ybd == 1) = false := by rw [beq_eq_false_iff_ne]; exact h1
              have e5 : s = false := by rw [← hy4]; simp [h1]
              subst e5
              clear h1 hy4
              go_wp2_with fail
              go_region
              go_wp2_with fail
              go_region
              go_wp2_with fail
              go_ret
              exact ⟨rfl, (HFB.out.alloc _).drew.drew.below⟩
        | true =>
          obtain ⟨hlt, hob⟩ := hb1 rfl
          clear hb0 hb1
          obtain ⟨o, hko⟩ : ∃ o, os[k]? = some o := ⟨_, List.getElem?_eq_getElem (by rw [HN.out]; exact hlt)⟩
          obtain ⟨a', c', hv, -, -, -, hcl⟩ := HO4.out.each
          rw [HN.out] at hv
          simp only [Value.slice.injEq] at hv
          obtain ⟨rfl, -, rfl⟩ := hv
          obtain ⟨lb, lo, rfl, hc⟩ := hcl (by rw [HN.out]; omega)
          obtain ⟨hkl, hke⟩ := List.getElem?_eq_some_iff.1 hko
          obtain ⟨sa, sc, ya, yc, hoa, d0, d1⟩ := hc k hkl
          rw [hke] at hoa d0 d1
          obtain ⟨n1, hn1⟩ : ∃ m, o.secs.length = m := ⟨_, rfl⟩
          obtain ⟨n2, hn2⟩ : ∃ m, o.syms.length = m := ⟨_, rfl⟩
          rw [hn1, hn2] at hoa
          rw [hn1] at d0
          rw [hn2] at d1
          have HN2 := Lib.hid hn2
          have HSY := Lib.hid hoa.syms
          have hn2b : n2 ≤ 13 := by rw [← hn2]; exact (HSM.out o (List.mem_of_getElem? hko)).lb
          have HD0 := Lib.hid d0
          have HD1 := Lib.hid d1
          have hlbl := World.block_lt_of_cell? w4 _ d0
          clear hcl hc hkl hke hoa d0 d1 hn1 hn2
          have HKO := Lib.hid hko
          have HOBT := Lib.hid hob
          have i1 : (k : Int) < (N : Int) := by omega
          have i5 : (0 : Int) ≤ (k : Int) := by omega
          have hkN : k ≤ os.length := by rw [HN.out]; exact hk
          have HKN := Lib.hid hkN
          clear hko hob hkN
          go_wp2_with fail
          go_loopw [9, 10, 12] (fun sv av i wr => ∃ (j : Nat) (s a : Bool), j ≤ n2 ∧ i = .int .i64 (j : Int) ∧ sv = .bool s ∧ av = .bool a ∧ Hid (a = (findIn (gateB nm) (preL os o k j) 0).isSome) ∧ Hid (s = (findIn (giveB nm 1) (preL os o k j) 0).isSome) ∧ Hid (From w4.heap.size w4 wr)) (fun _ _ i _ => n2 - (intOf i).toNat)
          case atStart => exact ⟨0, s, a, Nat.zero_le _, rfl, rfl, rfl, by show _ = _; rw [pre_zero]; exact HA.out, by show _ = _; rw [pre_zero]; exact HS.out, HF⟩
          case round =>
            clear HA HS HF
            obtain ⟨j, s, a, hj, rfl, rfl, rfl, HA, HS, HF⟩ := hrel
            have g0 := (HF.out.below.cell (p := ⟨lb, lo + k * 2, none⟩) hlbl).trans HD0.out
            have g1 := (HF.out.below.cell (p := ⟨lb, lo + k * 2 + 1, none⟩) hlbl).trans HD1.out
            by_cases hlt2 : j < n2
            · obtain ⟨y, hyy⟩ : ∃ y, o.syms[j]? = some y := ⟨_, List.getElem?_eq_getElem (by rw [HN2.out]; exact hlt2)⟩
              have HA2 := Lib.hid (any_step (p := gateB nm) HKN.out hyy)
              have HS2 := Lib.hid (any_step (p := giveB nm 1) HKN.out hyy)
              obtain ⟨ynm, ybd, ywh, yvl⟩ := y
              obtain ⟨a9, c9, hv, -, -, -, hcy⟩ := HSY.out.form
              rw [HN2.out] at hv
              simp only [Value.slice.injEq] at hv
              obtain ⟨rfl, -, rfl⟩ := hv
              obtain ⟨yb, yo, rfl, hcc⟩ := hcy (by rw [HN2.out]; omega)
              obtain ⟨hjl, hje⟩ := List.getElem?_eq_some_iff.1 hyy
              obtain ⟨s0, s1, s2, s3⟩ := hcc j hjl
              rw [hje] at s0 s1 s2 s3
              dsimp only at s0 s1 s2 s3
              have hybl := World.block_lt_of_cell? w4 _ s0
              have t0 := (HF.out.below.cell (p := ⟨yb, yo + j * 4, none⟩) hybl).trans s0
              have t1 := (HF.out.below.cell (p := ⟨yb, yo + j * 4 + 1, none⟩) hybl).trans s1
              have t2 := (HF.out.below.cell (p := ⟨yb, yo + j * 4 + 2, none⟩) hybl).trans s2
              have t3 := (HF.out.below.cell (p := ⟨yb, yo + j * 4 + 3, none⟩) hybl).trans s3
              clear hcy hcc hjl hje s0 s1 s2 s3
              have i3 : (j : Int) < (n2 : Int) := by omega
              have i4 : (0 : Int) ≤ (j : Int) := by omega
              have HF2 := Lib.hid (HF.out.alloc (.cells #[.string ynm, .int .i64 ybd, .int .i64 ywh, .int .i64 yvl] 39))
              rw [← HA.out] at HA2
              rw [← HS.out] at HS2
              clear hyy
              by_cases n1 : ynm = nm
              case neg =>
                have m1 : ¬ ynm.toList = nm.toList := fun h => n1 (toList_injF h)
                have m2 : (ynm.toList == nm.toList) = false := by simpa using m1
                have HG : Hid (gateB nm ⟨ynm, ybd, ywh, yvl⟩ = false ∧ giveB nm 1 ⟨ynm, ybd, ywh, yvl⟩ = false) := by show _ ∧ _; simp [gateB, giveB, n1]
                rw [HG.out.1, Bool.or_false] at HA2
                rw [HG.out.2, Bool.or_false] at HS2
                clear n1
                go_wp2_with fail
                go_roundw
                case rel => exact ⟨j + 1, s, a, by omega, by go_num, rfl, rfl, HA2.out.symm, HS2.out.symm, HF2⟩
                case measure => simp [intOf]; try omega
              subst n1
              by_cases n2' : ybd = 0
              · have m3 : (ybd != 0) = false := by simpa using n2'
                have HG : Hid (gateB ynm ⟨ynm, ybd, ywh, yvl⟩ = false ∧ giveB ynm 1 ⟨ynm, ybd, ywh, yvl⟩ = false) := by show _ ∧ _; simp [gateB, giveB, n2']
                rw [HG.out.1, Bool.or_false] at HA2
                rw [HG.out.2, Bool.or_false] at HS2
                clear n2'
                go_wp2_with fail
                go_roundw
                case rel => exact ⟨j + 1, s, a, by omega, by go_num, rfl, rfl, HA2.out.symm, HS2.out.symm, HF2⟩
                case measure => simp [intOf]; try omega
              have m3 : (ybd != 0) = true := by simpa using n2'
              by_cases n3 : ywh = -1
              · have m4 : (ywh != -1) = false := by simpa using n3
                have HG : Hid (gateB ynm ⟨ynm, ybd, ywh, yvl⟩ = false ∧ giveB ynm 1 ⟨ynm, ybd, ywh, yvl⟩ = false) := by show _ ∧ _; simp [gateB, giveB, n3]
                rw [HG.out.1, Bool.or_false] at HA2
                rw [HG.out.2, Bool.or_false] at HS2
                clear n2' n3
                go_wp2_with fail
                go_roundw
                case rel => exact ⟨j + 1, s, a, by omega, by go_num, rfl, rfl, HA2.out.symm, HS2.out.symm, HF2⟩
                case measure => simp [intOf]; try omega
              have m4 : (ywh != -1) = true := by simpa using n3
              obtain ⟨bo, hbo⟩ : ∃ b, (ybd == 1) = b := ⟨_, rfl⟩
              have HG : Hid (gateB ynm ⟨ynm, ybd, ywh, yvl⟩ = true ∧ giveB ynm 1 ⟨ynm, ybd, ywh, yvl⟩ = bo) := by
                show _ ∧ _
                rw [← hbo]
                refine ⟨by simp [gateB, n2', n3], ?_⟩
                unfold giveB
                cases h9 : (ybd == 1) with
                | true => rw [beq_iff_eq] at h9; simp [h9, n3]
                | false => rw [beq_eq_false_iff_ne] at h9; simp [h9]
              rw [HG.out.1, Bool.or_true] at HA2
              rw [HG.out.2] at HS2
              clear n2' n3
              cases s with
              | true =>
                go_wp2_with fail
                go_roundw
                case rel => exact ⟨j + 1, true, true, by omega, by go_num, rfl, rfl, HA2.out.symm, by show _ = _; rw [HS2.out]; rfl, HF2⟩
                case measure => simp [intOf]; try omega
              | false =>
                go_wp2_with fail
                go_roundw
                case rel => exact ⟨j + 1, bo, true, by omega, by go_num, by first | rfl | rw [hbo], rfl, HA2.out.symm, by show _ = _; rw [HS2.out]; simp, HF2⟩
                case measure => simp [intOf]; try omega
            · obtain rfl : n2 = j := by omega
              have HA9 : Hid (a = (findIn (gateB nm) (os.take (k + 1)) 0).isSome) := by show _ = _; rw [HA.out, ← HN2.out, any_full HKO.out]
              have HS9 : Hid (s = (findIn (giveB nm 1) (os.take (k + 1)) 0).isSome) := by show _ = _; rw [HS.out, ← HN2.out, any_full HKO.out]
              clear HA HS
              go_wp2_with fail
              go_roundw
              case rel => exact ⟨k + 1, s, a, by omega, by go_num, rfl, rfl, fun _ => HOBT.out, HA9, HS9, HF⟩
              case measure => simp [intOf]; try omega
  · subst hv
    have hl' : (1048576 : Int) < (l.length : Int) := by omega
    clear hl h
    unfold maxLen at hmax
    go_enter Try.func4, Try.ntmps4
    go_wp2_with fail
    go_ret
    exact ⟨rfl, Below.refl _ _⟩
set_option maxRecDepth 100000 in
theorem lifted_FnFindName (os : Os) (started : os.Started) (H : Type) (enc : TypeId × Value → H) :
    ReturnsInHanded {} Try.checked os 4 .any (Rows.fnFindNameSpec.pre6 enc Try.prog Try.f4 Rows.fnFindNameRow.domain false) (Rows.fnFindNameSpec.post enc Try.prog Try.f4 false true false false) := by
  refine returnsInHanded_of_change (C := Try.checked) own_knob started (by kernel_rfl) Try.func4
    (ChangeSpec.witness6 (enc := enc) (C := Try.checked) false ⟨#[], #[.slice none 0 0], []⟩ 8 (by kernel_rfl) (by kernel_rfl) (by kernel_rfl) (by kernel_rfl)) ?_
  intro W base args ds gs before hval0 hW hcnd _
  have hval : ∀ (j : Nat) t v, Try.f4.params[j]? = some t → args[j]? = some v → Value.okWide Try.prog W .any base t v := hval0
  have hW' := hW
  obtain ⟨p, q, hA0, hV, rfl, hfz, hnd⟩ := hW
  have hA : DataW.TrodAll enc Try.prog W 0 (fun _ => true) true Try.f4.params.toList args.toList ds p := hA0
  rw [Try.params4] at hA hval
  obtain ⟨v0, vs0, d0, ds0, p0, q0, hargs, rfl, rfl, h0, r0⟩ := trodAll_cons hA
  obtain ⟨rfl, rfl, rfl⟩ := trodAll_nil r0
  obtain rfl : args = #[v0] := by cases args; simp_all
  obtain ⟨rfl, rfl⟩ := trodVars_none hV
  clear hA0 hval0
  have k0 := h0
  have t0 : ∀ x ∈ p0, x.block < W.heap.size := fun x hx => by simpa using hW'.lt x (by simp [hx])
  obtain ⟨l0, o0⟩ := open_bytesAt (hval 0 22 v0 rfl rfl) h0
  refine (walk_FnFindName W v0 l0 o0).mono fun e W' ⟨he, hg⟩ => ?_
  subst he
  exact ⟨_, rfl, _, _, _, _, _, _, hW', (trodAll_cons_mk (shut_bool Try.underlying4 _) trodAll_mk0), (trodAll_cons_mk (Below.trod laid_out (by kernel_rfl) (of_decide_eq_true (by kernel_rfl)) k0 hg t0) trodAll_mk0), rfl, hg.frame _, fun h => by cases h⟩

set_option maxHeartbeats 2000000 in
theorem facts_FnFindName : joinedFacts Try.prog 4 Try.f4 Rows.fnFindNameSpec Rows.fnFindNameRow = true := by
  unfold joinedFacts
  simp only [Bool.and_eq_true]
  repeat' apply And.intro
  all_goals first
    | with_reducible exact laid_out
    | with_reducible exact may_enter
    | (with_reducible rw [lifts_final]; as_aux_lemma => kernel_rfl)
    | (with_reducible rw [make_cut]; as_aux_lemma => kernel_rfl)
    | as_aux_lemma => kernel_rfl
theorem inst_FnFindName : Try.f4.isInstance Try.prog Rows.fnFindNameRow.origin Rows.fnFindNameRow.targs := of_decide_eq_true (by kernel_rfl)
theorem wrap_FnFindName : Try.f4.isWrapper Try.prog Rows.fnFindNameRow.wrapper Rows.fnFindNameRow.mainSum := by
  unfold Func.isWrapper
  first | (rw [if_pos (by decide +kernel)]; kernel_rfl) | (rw [if_neg (by decide +kernel)]; exact ⟨rfl, rfl⟩)
theorem named_FnFindName : Try.prog.funcNamed Rows.fnFindNameRow.func = some 4 := by kernel_rfl
theorem over_FnFindName : Rows.fnFindNameRow.holds Try.pinned (OpenSpec.ofChange Rows.fnFindNameSpec) :=
  OpenClaim.holds_of_wide 4 Try.f4 rfl rfl rfl rfl rfl rfl rfl ⟨rfl, rfl, rfl, rfl, rfl⟩ rfl rfl rfl rfl rfl named_FnFindName Try.func4 facts_FnFindName inst_FnFindName wrap_FnFindName
    (fun os started H enc _ => lifted_FnFindName os started H enc)

/-- The statement. -/
theorem holds_FnFindName : Rows.FnFindNameSaid :=
  over_FnFindName
#print axioms holds_FnFindName
end Go.Proofs.Ytpgmmjdianoaeaa
