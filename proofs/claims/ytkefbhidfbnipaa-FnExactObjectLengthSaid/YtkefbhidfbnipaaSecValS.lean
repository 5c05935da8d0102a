/- Whether a section is valid: the reference's answer. -/
import Derived.Test.YtkefbhidfbnipaaSec
namespace Go.Proofs.Ytkefbhidfbnipaa
open Go.ChangeShapes Go.WideShapes Go.ChangeAt Go.RowKit Go.Joins
set_option linter.unusedSimpArgs false
set_option linter.unusedVariables false
set_option maxRecDepth 100000
set_option maxHeartbeats 1000000 in
theorem s_SectionValid (w : World) (v : Value) (s : SecD) (h : SecAt w v s) (hs : s.name.size ≤ maxLen) (many : Int) :
    Calls Try.prog 34 #[v, .int .i64 many] w fun e w' => e = .returned (.bool (secB s many)) ∧ Below w.heap.size w w' := by
  obtain ⟨vb, vf, rfl, hb, hf⟩ := h
  obtain ⟨ab, capb, rfl, hcapb, hmaxb, hn1, hn2⟩ := hb.form
  obtain ⟨af, capf, rfl, hcapf, hmaxf, hn3, hc⟩ := hf.form
  have HC := Lib.hid hc
  clear hb hf hc hn1 hn2 hn3
  have hs' := Lib.hid hs
  unfold maxLen at hmaxb hmaxf
  obtain ⟨A, hA⟩ : ∃ A, alignUp 0 s.align = A := ⟨_, rfl⟩
  have hal : ∀ wx : World, Calls Try.prog 66 #[.int .i64 0, .int .i64 s.align] wx fun e w' => e = .returned (.int .i64 A) ∧ wx = w' := by
    intro wx; rw [← hA]; exact sAlignUp_any 0 s.align wx
  cases h1 : nameB s.name
  · have E : Hid (secB s many = false) := by show _ = _; simp [secB, h1]
    go_enter Try.func34, Try.ntmps34
    go_wp2_with (first | (go_at_call 59; (with_reducible refine (s_NameValid _ hs'.out _).mono ?_); rintro e w' ⟨rfl, rfl⟩) | (go_at_call 63; (with_reducible refine (l1In_any _ _ _ _).mono ?_); rintro e w' ⟨rfl, rfl⟩) | (go_at_call 66; (with_reducible refine (hal _).mono ?_); rintro e w' ⟨rfl, rfl⟩))
    all_goals first
      | (exfalso; omega)
      | (go_ret; exact ⟨by rw [E.out]; try rfl, ((From.start w).alloc _).below⟩)
  cases h2 : withinB s.kind 1 3
  · have E : Hid (secB s many = false) := by show _ = _; simp [secB, h2]
    go_enter Try.func34, Try.ntmps34
    go_wp2_with (first | (go_at_call 59; (with_reducible refine (s_NameValid _ hs'.out _).mono ?_); rintro e w' ⟨rfl, rfl⟩) | (go_at_call 63; (with_reducible refine (l1In_any _ _ _ _).mono ?_); rintro e w' ⟨rfl, rfl⟩) | (go_at_call 66; (with_reducible refine (hal _).mono ?_); rintro e w' ⟨rfl, rfl⟩))
    all_goals first
      | (exfalso; omega)
      | (go_ret; exact ⟨by rw [E.out]; try rfl, ((From.start w).alloc _).below⟩)
  cases h3 : alignB s.align
  · have E : Hid (secB s many = false) := by show _ = _; simp [secB, h3]
    have eA : A < 0 := by rw [← hA]; simp [alignUp, h3]
    clear hA
    go_enter Try.func34, Try.ntmps34
    go_wp2_with (first | (go_at_call 59; (with_reducible refine (s_NameValid _ hs'.out _).mono ?_); rintro e w' ⟨rfl, rfl⟩) | (go_at_call 63; (with_reducible refine (l1In_any _ _ _ _).mono ?_); rintro e w' ⟨rfl, rfl⟩) | (go_at_call 66; (with_reducible refine (hal _).mono ?_); rintro e w' ⟨rfl, rfl⟩))
    all_goals first
      | (exfalso; omega)
      | (go_ret; exact ⟨by rw [E.out]; try rfl, ((From.start w).alloc _).below⟩)
  have eA : ¬ A < 0 := by
    rw [← hA]
    have := (alignB_iff _).1 h3
    simp only [alignUp, h3, Bool.true_and, show withinB 0 0 1000000 = true from rfl, if_true]
    rcases this with e | e | e | e <;> rw [e] <;> decide
  clear hA
  by_cases h5 : s.bytes.length ≤ 48
  case neg =>
    have e5 : (48 : Int) < (s.bytes.length : Int) := by omega
    have E : Hid (secB s many = false) := by
      show _ = _
      have hne : s.bytes ≠ [] := by intro h; rw [h] at h5; simp at h5
      unfold secB; split <;> simp [h5, hne]
    clear h5
    go_enter Try.func34, Try.ntmps34
    go_wp2_with (first | (go_at_call 59; (with_reducible refine (s_NameValid _ hs'.out _).mono ?_); rintro e w' ⟨rfl, rfl⟩) | (go_at_call 63; (with_reducible refine (l1In_any _ _ _ _).mono ?_); rintro e w' ⟨rfl, rfl⟩) | (go_at_call 66; (with_reducible refine (hal _).mono ?_); rintro e w' ⟨rfl, rfl⟩))
    all_goals first
      | (exfalso; omega)
      | (go_ret; exact ⟨by rw [E.out]; try rfl, ((From.start w).alloc _).below⟩)
  have e5 : ¬ (48 : Int) < (s.bytes.length : Int) := by omega
  by_cases h6 : s.fix.length ≤ 6
  case neg =>
    have e6 : (6 : Int) < (s.fix.length : Int) := by omega
    have E : Hid (secB s many = false) := by
      show _ = _
      have hne : s.fix ≠ [] := by intro h; rw [h] at h6; simp at h6
      unfold secB; split <;> simp [h6, hne]
    clear h6
    go_enter Try.func34, Try.ntmps34
    go_wp2_with (first | (go_at_call 59; (with_reducible refine (s_NameValid _ hs'.out _).mono ?_); rintro e w' ⟨rfl, rfl⟩) | (go_at_call 63; (with_reducible refine (l1In_any _ _ _ _).mono ?_); rintro e w' ⟨rfl, rfl⟩) | (go_at_call 66; (with_reducible refine (hal _).mono ?_); rintro e w' ⟨rfl, rfl⟩))
    all_goals first
      | (exfalso; omega)
      | (go_ret; exact ⟨by rw [E.out]; try rfl, ((From.start w).alloc _).below⟩)
  have e6 : ¬ (6 : Int) < (s.fix.length : Int) := by omega
  cases h4 : withinB s.size 0 48
  · have E : Hid (secB s many = false) := by
      show _ = _
      have := (withinB_not _ _ _).1 h4
      unfold secB
      split
      · simp [h4]
      · simp [show ¬ s.size = 0 by omega]
    go_enter Try.func34, Try.ntmps34
    go_wp2_with (first | (go_at_call 59; (with_reducible refine (s_NameValid _ hs'.out _).mono ?_); rintro e w' ⟨rfl, rfl⟩) | (go_at_call 63; (with_reducible refine (l1In_any _ _ _ _).mono ?_); rintro e w' ⟨rfl, rfl⟩) | (go_at_call 66; (with_reducible refine (hal _).mono ?_); rintro e w' ⟨rfl, rfl⟩))
    all_goals first
      | (exfalso; omega)
      | (go_ret; exact ⟨by rw [E.out]; try rfl, ((From.start w).alloc _).below⟩)
  by_cases hk : s.kind = 3
  · have e1 : (s.kind == 3) = true := by simpa using hk
    have E : Hid (secB s many = (((s.bytes.length : Int) == 0) && ((s.fix.length : Int) == 0))) := by
      show _ = _
      unfold secB
      rw [if_pos hk, h1, h2, h3, h4]
      cases hb : s.bytes <;> cases hf : s.fix <;> simp <;> omega
    clear hk
    cases h7 : ((s.bytes.length : Int) == 0)
    · skip
      go_enter Try.func34, Try.ntmps34
      go_wp2_with (first | (go_at_call 59; (with_reducible refine (s_NameValid _ hs'.out _).mono ?_); rintro e w' ⟨rfl, rfl⟩) | (go_at_call 63; (with_reducible refine (l1In_any _ _ _ _).mono ?_); rintro e w' ⟨rfl, rfl⟩) | (go_at_call 66; (with_reducible refine (hal _).mono ?_); rintro e w' ⟨rfl, rfl⟩))
      all_goals first
        | (exfalso; omega)
        | (go_ret; exact ⟨by rw [E.out, h7]; try rfl, ((From.start w).alloc _).below⟩)
    · skip
      go_enter Try.func34, Try.ntmps34
      go_wp2_with (first | (go_at_call 59; (with_reducible refine (s_NameValid _ hs'.out _).mono ?_); rintro e w' ⟨rfl, rfl⟩) | (go_at_call 63; (with_reducible refine (l1In_any _ _ _ _).mono ?_); rintro e w' ⟨rfl, rfl⟩) | (go_at_call 66; (with_reducible refine (hal _).mono ?_); rintro e w' ⟨rfl, rfl⟩))
      all_goals first
        | (exfalso; omega)
        | (go_ret; exact ⟨by rw [E.out, h7]; try rfl, ((From.start w).alloc _).below⟩)
  · have e1 : (s.kind == 3) = false := by simpa using hk
    have E : Hid (secB s many = (decide (s.size = 0) && fixesB many s.bytes.length 0 s.fix)) := by
      show _ = _
      unfold secB
      rw [if_neg hk, h1, h2, h3]
      simp [h5, h6]
    clear hk
    go_enter Try.func34, Try.ntmps34
    go_wp2_with (first | (go_at_call 59; (with_reducible refine (s_NameValid _ hs'.out _).mono ?_); rintro e w' ⟨rfl, rfl⟩) | (go_at_call 63; (with_reducible refine (l1In_any _ _ _ _).mono ?_); rintro e w' ⟨rfl, rfl⟩) | (go_at_call 66; (with_reducible refine (hal _).mono ?_); rintro e w' ⟨rfl, rfl⟩))
    all_goals try (exfalso; omega)
    clear h1 h2 h3 e1 e5 e6 eA hal hs hcapb hcapf
    obtain ⟨sz, hsz⟩ : ∃ sz, decide (s.size = 0) = sz := ⟨_, rfl⟩
    rw [hsz] at E
    have HZ := Lib.hid hsz
    clear hsz h4
    go_loopw [5, 6] (fun fv i wr => ∃ (k : Nat) (fin : Int), k ≤ s.fix.length ∧ i = .int .i64 k ∧ fv = .int .i64 fin ∧ 0 ≤ fin ∧ fin ≤ 48 ∧ Hid (secB s many = (sz && fixesB many s.bytes.length fin (s.fix.drop k))) ∧
      Hid (Blk wr w.heap.size #[.string s.name, .int .i64 s.kind, .int .i64 s.align, .slice ab s.bytes.length capb, .int .i64 s.size, .slice af s.fix.length capf] 52) ∧ Hid (From w.heap.size w wr)) (fun _ i _ => s.fix.length - (intOf i).toNat)
    case atStart => exact ⟨0, 0, Nat.zero_le _, rfl, rfl, by omega, by omega, E, Blk.newAt w _ _ w.heap.size rfl, (From.start w).alloc _⟩
    case round =>
      clear E
      obtain ⟨k, fin, hk, rfl, rfl, hf0, hf1, HE, HB, HF⟩ := hrel
      have cb := HB.out.cell
      have zb := HB.out.lt
      by_cases hlt : k < s.fix.length
      · obtain ⟨b, off, rfl, hc⟩ := HC.out (by omega)
        obtain ⟨c0, c1, c2, c3⟩ := hc k hlt
        have hb : b < w.heap.size := World.block_lt_of_cell? w _ c0
        have g0 : wr.cell? ⟨b, off + k * 4, none⟩ = some (.int .i64 s.fix[k].1) := (HF.out.below.cell (p := ⟨b, off + k * 4, none⟩) hb).trans c0
        have g1 : wr.cell? ⟨b, off + k * 4 + 1, none⟩ = some (.int .i64 s.fix[k].2.1) := (HF.out.below.cell (p := ⟨b, off + k * 4 + 1, none⟩) hb).trans c1
        have g2 : wr.cell? ⟨b, off + k * 4 + 2, none⟩ = some (.int .i64 s.fix[k].2.2.1) := (HF.out.below.cell (p := ⟨b, off + k * 4 + 2, none⟩) hb).trans c2
        have g3 : wr.cell? ⟨b, off + k * 4 + 3, none⟩ = some (.int .i64 s.fix[k].2.2.2) := (HF.out.below.cell (p := ⟨b, off + k * 4 + 3, none⟩) hb).trans c3
        have HR : Hid (fixesB many s.bytes.length fin (s.fix.drop k) = (fixB many s.bytes.length fin s.fix[k] && fixesB many s.bytes.length (s.fix[k].1 + fixupWide s.fix[k].2.1) (s.fix.drop (k + 1)))) := by
          show _ = _
          rw [List.drop_eq_getElem_cons hlt]; rfl
        obtain ⟨q0, q1⟩ := fixupWide_range s.fix[k].2.1
        clear hc c0 c1 c2 c3 hb
        generalize s.fix[k] = f at *
        obtain ⟨f0, f1, f2, f3⟩ := f
        dsimp only at *
        have HW0 : ∃ W, fixupWide f1 = W := ⟨_, rfl⟩
        obtain ⟨W, hW⟩ := HW0
        have hwf : ∀ wx : World, Calls Try.prog 67 #[.int .i64 f1] wx fun e w' => e = .returned (.int .i64 W) ∧ Below wx.heap.size wx w' := by
          intro wx; rw [← hW]; exact sFixupWide_any f1 wx
        rw [hW] at q0 q1
        have HW := Lib.hid hW
        clear hW
        go_wp2_with fail
        refine (hwf _).mono ?_
        rintro e w2 ⟨rfl, g4⟩
        have HF2 := Lib.hid ((HF.out.alloc _).call g4)
        have HB2 := Lib.hid ((HB.out.alloc _).call g4)
        have cb := HB2.out.cell
        have zb := HB2.out.lt
        have BX := (Blk.newAt wr _ _ wr.heap.size rfl).call g4
        have cx := BX.cell
        clear BX g4 HF HB g0 g1 g2 g3 hwf
        by_cases z0 : W = 0
        · have e0 : (W == 0) = true := by simpa using z0
          have EB : Hid (secB s many = false) := by show _ = _; rw [HE.out, HR.out]; simp [fixB, HW.out, z0]
          clear HE HR HW z0
          go_wp2_with (first | (go_at_call 63; (with_reducible refine (l1In_any _ _ _ _).mono ?_); rintro e w' ⟨rfl, rfl⟩))
          all_goals first
            | (exfalso; omega)
            | (go_ret; exact ⟨by rw [EB.out]; try rfl, HF2.out.below⟩)
        have e0 : (W == 0) = false := by simpa using z0
        by_cases z1 : f2 < 0
        · have z1' : ¬ 0 ≤ f2 := by omega
          have EB : Hid (secB s many = false) := by show _ = _; rw [HE.out, HR.out]; simp [fixB, HW.out, z1']
          clear HE HR HW z1' z0
          go_wp2_with (first | (go_at_call 63; (with_reducible refine (l1In_any _ _ _ _).mono ?_); rintro e w' ⟨rfl, rfl⟩))
          all_goals first
            | (exfalso; omega)
            | (go_ret; exact ⟨by rw [EB.out]; try rfl, HF2.out.below⟩)
        by_cases z2 : many ≤ f2
        · have z2' : ¬ f2 < many := by omega
          have EB : Hid (secB s many = false) := by show _ = _; rw [HE.out, HR.out]; simp [fixB, HW.out, z2']
          clear HE HR HW z2' z0
          go_wp2_with (first | (go_at_call 63; (with_reducible refine (l1In_any _ _ _ _).mono ?_); rintro e w' ⟨rfl, rfl⟩))
          all_goals first
            | (exfalso; omega)
            | (go_ret; exact ⟨by rw [EB.out]; try rfl, HF2.out.below⟩)
        cases z3 : withinB f3 (-1000) 1000
        · have z4 : True := trivial
          have EB : Hid (secB s many = false) := by show _ = _; rw [HE.out, HR.out]; simp [fixB, HW.out, z3]
          clear HE HR HW z4 z0
          go_wp2_with (first | (go_at_call 63; (with_reducible refine (l1In_any _ _ _ _).mono ?_); rintro e w' ⟨rfl, rfl⟩))
          all_goals first
            | (exfalso; omega)
            | (go_ret; exact ⟨by rw [EB.out]; try rfl, HF2.out.below⟩)
        cases z4 : withinB f0 fin ((s.bytes.length : Int) - W)
        · have z5 : True := trivial
          have EB : Hid (secB s many = false) := by show _ = _; rw [HE.out, HR.out]; simp [fixB, HW.out, z4]
          clear HE HR HW z5 z0
          go_wp2_with (first | (go_at_call 63; (with_reducible refine (l1In_any _ _ _ _).mono ?_); rintro e w' ⟨rfl, rfl⟩))
          all_goals first
            | (exfalso; omega)
            | (go_ret; exact ⟨by rw [EB.out]; try rfl, HF2.out.below⟩)
        have hh := (withinB_iff _ _ _).1 z4
        have EG : Hid (secB s many = (sz && fixesB many s.bytes.length (f0 + W) (s.fix.drop (k + 1)))) := by
          show _ = _; rw [HE.out, HR.out]; simp [fixB, HW.out, show (W != 0) = true by simpa using z0, z3, z4, show 0 ≤ f2 by omega, show f2 < many by omega]
        obtain ⟨hh1, hh2⟩ := hh
        clear HE HR HW z0
        go_wp2_with (first | (go_at_call 63; (with_reducible refine (l1In_any _ _ _ _).mono ?_); rintro e w' ⟨rfl, rfl⟩))
        go_roundw
        case rel => exact ⟨k + 1, f0 + W, by omega, by go_num, by go_num, by omega, by omega, EG, HB2.out, HF2.out⟩
        case measure => simp [intOf]; try omega
      · obtain rfl : k = s.fix.length := by omega
        have EG : Hid (secB s many = (s.size == 0)) := by
          show _ = _; rw [HE.out, List.drop_length, ← HZ.out]; simp only [fixesB, Bool.and_true]; exact Bool.eq_iff_iff.2 (by simp)
        go_wp2_with fail
        go_ret
        exact ⟨by rw [EG.out]; try rfl, HF.out.below⟩
end Go.Proofs.Ytkefbhidfbnipaa
