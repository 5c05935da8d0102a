/- Whether a section is valid. -/
import Derived.Test.YthccjimckjecjaaSec
import Derived.Test.YthccjimckjecjaaName
import Derived.Test.YthccjimckjecjaaHead
namespace Go.Proofs.Ythccjimckjecjaa
open Go.ChangeShapes Go.WideShapes Go.ChangeAt Go.RowKit Go.Joins
set_option linter.unusedSimpArgs false
set_option linter.unusedVariables false
set_option maxRecDepth 100000

/-- Whether a fixup fits behind 'fin'. -/
def fixB (many bl fin : Int) (f : FixD) : Bool := (fixupWide f.2.1 != 0) && decide (0 ≤ f.2.2.1) && decide (f.2.2.1 < many) && withinB f.2.2.2 (-1000) 1000 && withinB f.1 fin (bl - fixupWide f.2.1)
def fixesB (many bl : Int) : Int → List FixD → Bool
  | _, [] => true
  | fin, f :: r => fixB many bl fin f && fixesB many bl (f.1 + fixupWide f.2.1) r
/-- Whether a section is valid. -/
def secB (s : SecD) (many : Int) : Bool :=
  nameB s.name && withinB s.kind 1 3 && alignB s.align &&
    (if s.kind = 3 then withinB s.size 0 48 && decide (s.bytes.length = 0) && decide (s.fix.length = 0)
     else decide (s.size = 0) && decide (s.bytes.length ≤ 48) && decide (s.fix.length ≤ 6) && fixesB many s.bytes.length 0 s.fix)
theorem fixupWide_range (k : Int) : 0 ≤ fixupWide k ∧ fixupWide k ≤ 4 := by
  unfold fixupWide
  split
  · omega
  split
  · omega
  split <;> omega
theorem isAdd_any (n : Int) (w : World) :
    Calls Try.prog 141 #[.int .i64 n] w fun e w' => e = .returned (.bool (withinB n (-1000) 1000)) ∧ w = w' := by
  go_enter Try.func141, Try.ntmps141
  go_wp2_with (first | (go_at_call 123; (with_reducible refine (within_any _ _ _ _).mono ?_); rintro e w' ⟨rfl, rfl⟩))
  go_ret
  exact ⟨rfl, rfl⟩
set_option maxHeartbeats 1000000 in
theorem i_SectionValid (w : World) (v : Value) (s : SecD) (h : SecAt w v s) (hs : s.name.size ≤ maxLen) (many : Int) :
    Calls Try.prog 81 #[v, .int .i64 many] w fun e w' => e = .returned (.bool (secB s many)) ∧ Below w.heap.size w w' := by
  obtain ⟨vb, vf, rfl, hb, hf⟩ := h
  obtain ⟨ab, capb, rfl, hcapb, hmaxb, hn1, hn2⟩ := hb.form
  obtain ⟨af, capf, rfl, hcapf, hmaxf, hn3, hc⟩ := hf.form
  have HC := Lib.hid hc
  clear hb hf hc hn1 hn2 hn3
  have hs' := Lib.hid hs
  unfold maxLen at hmaxb hmaxf
  cases h1 : nameB s.name
  · have E : Hid (secB s many = false) := by show _ = _; simp [secB, h1]
    go_enter Try.func81, Try.ntmps81
    go_wp2_with (first | (go_at_call 139; (with_reducible refine (i_NameValid _ hs'.out _).mono ?_); rintro e w' ⟨rfl, rfl⟩) | (go_at_call 123; (with_reducible refine (within_any _ _ _ _).mono ?_); rintro e w' ⟨rfl, rfl⟩) | (go_at_call 124; (with_reducible refine (isAlign_any _ _).mono ?_); rintro e w' ⟨rfl, rfl⟩))
    go_ret
    exact ⟨by rw [E.out]; try rfl, ((From.start w).alloc _).below⟩
  cases h2 : withinB s.kind 1 3
  · have E : Hid (secB s many = false) := by show _ = _; simp [secB, h2]
    go_enter Try.func81, Try.ntmps81
    go_wp2_with (first | (go_at_call 139; (with_reducible refine (i_NameValid _ hs'.out _).mono ?_); rintro e w' ⟨rfl, rfl⟩) | (go_at_call 123; (with_reducible refine (within_any _ _ _ _).mono ?_); rintro e w' ⟨rfl, rfl⟩) | (go_at_call 124; (with_reducible refine (isAlign_any _ _).mono ?_); rintro e w' ⟨rfl, rfl⟩))
    go_ret
    exact ⟨by rw [E.out]; try rfl, ((From.start w).alloc _).below⟩
  cases h3 : alignB s.align
  · have E : Hid (secB s many = false) := by show _ = _; simp [secB, h3]
    go_enter Try.func81, Try.ntmps81
    go_wp2_with (first | (go_at_call 139; (with_reducible refine (i_NameValid _ hs'.out _).mono ?_); rintro e w' ⟨rfl, rfl⟩) | (go_at_call 123; (with_reducible refine (within_any _ _ _ _).mono ?_); rintro e w' ⟨rfl, rfl⟩) | (go_at_call 124; (with_reducible refine (isAlign_any _ _).mono ?_); rintro e w' ⟨rfl, rfl⟩))
    go_ret
    exact ⟨by rw [E.out]; try rfl, ((From.start w).alloc _).below⟩
  by_cases hk : s.kind = 3
  · have e1 : (s.kind == 3) = true := by simpa using hk
    cases h4 : withinB s.size 0 48
    · have E : Hid (secB s many = false) := by show _ = _; simp [secB, hk, h4]
      clear hk
      go_enter Try.func81, Try.ntmps81
      go_wp2_with (first | (go_at_call 139; (with_reducible refine (i_NameValid _ hs'.out _).mono ?_); rintro e w' ⟨rfl, rfl⟩) | (go_at_call 123; (with_reducible refine (within_any _ _ _ _).mono ?_); rintro e w' ⟨rfl, rfl⟩) | (go_at_call 124; (with_reducible refine (isAlign_any _ _).mono ?_); rintro e w' ⟨rfl, rfl⟩))
      go_ret
      exact ⟨by rw [E.out]; try rfl, ((From.start w).alloc _).below⟩
    have E : Hid (secB s many = (((s.bytes.length : Int) == 0) && ((s.fix.length : Int) == 0))) := by
      show _ = _
      unfold secB
      rw [if_pos hk, h1, h2, h3, h4]
      cases hb : s.bytes <;> cases hf : s.fix <;> simp <;> omega
    clear hk
    cases h5 : ((s.bytes.length : Int) == 0)
    · go_enter Try.func81, Try.ntmps81
      go_wp2_with (first | (go_at_call 139; (with_reducible refine (i_NameValid _ hs'.out _).mono ?_); rintro e w' ⟨rfl, rfl⟩) | (go_at_call 123; (with_reducible refine (within_any _ _ _ _).mono ?_); rintro e w' ⟨rfl, rfl⟩) | (go_at_call 124; (with_reducible refine (isAlign_any _ _).mono ?_); rintro e w' ⟨rfl, rfl⟩))
      go_ret
      exact ⟨by rw [E.out, h5]; try rfl, ((From.start w).alloc _).below⟩
    · go_enter Try.func81, Try.ntmps81
      go_wp2_with (first | (go_at_call 139; (with_reducible refine (i_NameValid _ hs'.out _).mono ?_); rintro e w' ⟨rfl, rfl⟩) | (go_at_call 123; (with_reducible refine (within_any _ _ _ _).mono ?_); rintro e w' ⟨rfl, rfl⟩) | (go_at_call 124; (with_reducible refine (isAlign_any _ _).mono ?_); rintro e w' ⟨rfl, rfl⟩))
      go_ret
      exact ⟨by rw [E.out, h5]; try rfl, ((From.start w).alloc _).below⟩
  · have e1 : (s.kind == 3) = false := by simpa using hk
    have E0 : secB s many = (decide (s.size = 0) && decide (s.bytes.length ≤ 48) && decide (s.fix.length ≤ 6) && fixesB many s.bytes.length 0 s.fix) := by
      unfold secB
      rw [if_neg hk, h1, h2, h3]
      simp
    clear hk
    by_cases h4 : s.size = 0
    case neg =>
      have e4 : (s.size != 0) = true := by simpa using h4
      have E : Hid (secB s many = false) := by show _ = _; rw [E0]; simp [h4]
      clear h4 E0
      go_enter Try.func81, Try.ntmps81
      go_wp2_with (first | (go_at_call 139; (with_reducible refine (i_NameValid _ hs'.out _).mono ?_); rintro e w' ⟨rfl, rfl⟩) | (go_at_call 123; (with_reducible refine (within_any _ _ _ _).mono ?_); rintro e w' ⟨rfl, rfl⟩) | (go_at_call 124; (with_reducible refine (isAlign_any _ _).mono ?_); rintro e w' ⟨rfl, rfl⟩))
      go_ret
      exact ⟨by rw [E.out]; try rfl, ((From.start w).alloc _).below⟩
    have e4 : (s.size != 0) = false := by simpa using h4
    by_cases h5 : s.bytes.length ≤ 48
    case neg =>
      have e5 : (48 : Int) < (s.bytes.length : Int) := by omega
      have E : Hid (secB s many = false) := by show _ = _; rw [E0]; simp [h5]
      clear h4 E0 h5
      go_enter Try.func81, Try.ntmps81
      go_wp2_with (first | (go_at_call 139; (with_reducible refine (i_NameValid _ hs'.out _).mono ?_); rintro e w' ⟨rfl, rfl⟩) | (go_at_call 123; (with_reducible refine (within_any _ _ _ _).mono ?_); rintro e w' ⟨rfl, rfl⟩) | (go_at_call 124; (with_reducible refine (isAlign_any _ _).mono ?_); rintro e w' ⟨rfl, rfl⟩))
      go_ret
      exact ⟨by rw [E.out]; try rfl, ((From.start w).alloc _).below⟩
    have e5 : ¬ (48 : Int) < (s.bytes.length : Int) := by omega
    by_cases h6 : s.fix.length ≤ 6
    case neg =>
      have e6 : (6 : Int) < (s.fix.length : Int) := by omega
      have E : Hid (secB s many = false) := by show _ = _; rw [E0]; simp [h6]
      clear h4 E0 h6
      go_enter Try.func81, Try.ntmps81
      go_wp2_with (first | (go_at_call 139; (with_reducible refine (i_NameValid _ hs'.out _).mono ?_); rintro e w' ⟨rfl, rfl⟩) | (go_at_call 123; (with_reducible refine (within_any _ _ _ _).mono ?_); rintro e w' ⟨rfl, rfl⟩) | (go_at_call 124; (with_reducible refine (isAlign_any _ _).mono ?_); rintro e w' ⟨rfl, rfl⟩))
      go_ret
      exact ⟨by rw [E.out]; try rfl, ((From.start w).alloc _).below⟩
    have e6 : ¬ (6 : Int) < (s.fix.length : Int) := by omega
    have E : Hid (secB s many = fixesB many s.bytes.length 0 s.fix) := by show _ = _; rw [E0]; simp [h4, h5, h6]
    clear h4 E0
    go_enter Try.func81, Try.ntmps81
    go_wp2_with (first | (go_at_call 139; (with_reducible refine (i_NameValid _ hs'.out _).mono ?_); rintro e w' ⟨rfl, rfl⟩) | (go_at_call 123; (with_reducible refine (within_any _ _ _ _).mono ?_); rintro e w' ⟨rfl, rfl⟩) | (go_at_call 124; (with_reducible refine (isAlign_any _ _).mono ?_); rintro e w' ⟨rfl, rfl⟩))
    clear h1 h2 h3 e1 e4 e5 e6 hs
    go_loopw [5, 61] (fun fv i wr => ∃ (k : Nat) (fin : Int), k ≤ s.fix.length ∧ i = .int .i64 k ∧ fv = .int .i64 fin ∧ 0 ≤ fin ∧ fin ≤ 48 ∧ Hid (secB s many = fixesB many s.bytes.length fin (s.fix.drop k)) ∧
      Hid (Blk wr w.heap.size #[.string s.name, .int .i64 s.kind, .int .i64 s.align, .slice ab s.bytes.length capb, .int .i64 s.size, .slice af s.fix.length capf] 69) ∧ Hid (From w.heap.size w wr)) (fun _ i _ => s.fix.length - (intOf i).toNat)
    case atStart => exact ⟨0, 0, Nat.zero_le _, rfl, rfl, by omega, by omega, E, Blk.newAt w _ _ w.heap.size rfl, (From.start w).alloc _⟩
    case round =>
      clear E
      obtain ⟨k, fin, hk, rfl, rfl, hf0, hf1, HE, HB, HF⟩ := hrel
      have cb := HB.out.cell
      have zb := HB.out.lt
      by_cases hlt : k < s.fix.length
      · obtain ⟨b, off, rfl, hc⟩ := HC.out (by omega)
        obtain ⟨c0, c1, c2, c3⟩ := hc k hlt
        have hb : b < w.heap.size := World.block_lt_of_cell? w _ c0
        have g0 : wr.cell? ⟨b, off + k * 4, none⟩ = some (.int .i64 s.fix[k].1) := (HF.out.below.cell (p := ⟨b, off + k * 4, none⟩) hb).trans c0
        have g1 : wr.cell? ⟨b, off + k * 4 + 1, none⟩ = some (.int .i64 s.fix[k].2.1) := (HF.out.below.cell (p := ⟨b, off + k * 4 + 1, none⟩) hb).trans c1
        have g2 : wr.cell? ⟨b, off + k * 4 + 2, none⟩ = some (.int .i64 s.fix[k].2.2.1) := (HF.out.below.cell (p := ⟨b, off + k * 4 + 2, none⟩) hb).trans c2
        have g3 : wr.cell? ⟨b, off + k * 4 + 3, none⟩ = some (.int .i64 s.fix[k].2.2.2) := (HF.out.below.cell (p := ⟨b, off + k * 4 + 3, none⟩) hb).trans c3
        have HR : Hid (fixesB many s.bytes.length fin (s.fix.drop k) = (fixB many s.bytes.length fin s.fix[k] && fixesB many s.bytes.length (s.fix[k].1 + fixupWide s.fix[k].2.1) (s.fix.drop (k + 1)))) := by
          show _ = _
          rw [List.drop_eq_getElem_cons hlt]; rfl
        obtain ⟨q0, q1⟩ := fixupWide_range s.fix[k].2.1
        clear hc c0 c1 c2 c3 hb
        generalize s.fix[k] = f at *
        obtain ⟨f0, f1, f2, f3⟩ := f
        dsimp only at *
        have HW0 : ∃ W, fixupWide f1 = W := ⟨_, rfl⟩
        obtain ⟨W, hW⟩ := HW0
        have hwf : ∀ wx : World, Calls Try.prog 140 #[.int .i64 f1] wx fun e w' => e = .returned (.int .i64 W) ∧ wx = w' := by
          intro wx; rw [← hW]; exact fixupWide_any f1 wx
        rw [hW] at q0 q1
        have HW := Lib.hid hW
        clear hW
        by_cases z0 : W = 0
        · have e0 : (W == 0) = true := by simpa using z0
          have EB : Hid (secB s many = false) := by show _ = _; rw [HE.out, HR.out]; simp [fixB, HW.out, z0]
          clear HE HR HW z0
          go_wp2_with (first | (go_at_call 140; (with_reducible refine (hwf _).mono ?_); rintro e w' ⟨rfl, rfl⟩) | (go_at_call 141; (with_reducible refine (isAdd_any _ _).mono ?_); rintro e w' ⟨rfl, rfl⟩) | (go_at_call 123; (with_reducible refine (within_any _ _ _ _).mono ?_); rintro e w' ⟨rfl, rfl⟩))
          all_goals first
            | (exfalso; omega)
            | (go_ret; exact ⟨by rw [EB.out]; try rfl, (HF.out.alloc _).below⟩)
        have e0 : (W == 0) = false := by simpa using z0
        by_cases z1 : f2 < 0
        · have z1' : ¬ 0 ≤ f2 := by omega
          have EB : Hid (secB s many = false) := by show _ = _; rw [HE.out, HR.out]; simp [fixB, HW.out, z1']
          clear HE HR HW z1' z0
          go_wp2_with (first | (go_at_call 140; (with_reducible refine (hwf _).mono ?_); rintro e w' ⟨rfl, rfl⟩) | (go_at_call 141; (with_reducible refine (isAdd_any _ _).mono ?_); rintro e w' ⟨rfl, rfl⟩) | (go_at_call 123; (with_reducible refine (within_any _ _ _ _).mono ?_); rintro e w' ⟨rfl, rfl⟩))
          all_goals first
            | (exfalso; omega)
            | (go_ret; exact ⟨by rw [EB.out]; try rfl, (HF.out.alloc _).below⟩)
        by_cases z2 : many ≤ f2
        · have z2' : ¬ f2 < many := by omega
          have EB : Hid (secB s many = false) := by show _ = _; rw [HE.out, HR.out]; simp [fixB, HW.out, z2']
          clear HE HR HW z2' z0
          go_wp2_with (first | (go_at_call 140; (with_reducible refine (hwf _).mono ?_); rintro e w' ⟨rfl, rfl⟩) | (go_at_call 141; (with_reducible refine (isAdd_any _ _).mono ?_); rintro e w' ⟨rfl, rfl⟩) | (go_at_call 123; (with_reducible refine (within_any _ _ _ _).mono ?_); rintro e w' ⟨rfl, rfl⟩))
          all_goals first
            | (exfalso; omega)
            | (go_ret; exact ⟨by rw [EB.out]; try rfl, (HF.out.alloc _).below⟩)
        cases z3 : withinB f3 (-1000) 1000
        · have z4 : True := trivial
          have EB : Hid (secB s many = false) := by show _ = _; rw [HE.out, HR.out]; simp [fixB, HW.out, z3]
          clear HE HR HW z4 z0
          go_wp2_with (first | (go_at_call 140; (with_reducible refine (hwf _).mono ?_); rintro e w' ⟨rfl, rfl⟩) | (go_at_call 141; (with_reducible refine (isAdd_any _ _).mono ?_); rintro e w' ⟨rfl, rfl⟩) | (go_at_call 123; (with_reducible refine (within_any _ _ _ _).mono ?_); rintro e w' ⟨rfl, rfl⟩))
          all_goals first
            | (exfalso; omega)
            | (go_ret; exact ⟨by rw [EB.out]; try rfl, (HF.out.alloc _).below⟩)
        cases z4 : withinB f0 fin ((s.bytes.length : Int) - W)
        · have z5 : True := trivial
          have EB : Hid (secB s many = false) := by show _ = _; rw [HE.out, HR.out]; simp [fixB, HW.out, z4]
          clear HE HR HW z5 z0
          go_wp2_with (first | (go_at_call 140; (with_reducible refine (hwf _).mono ?_); rintro e w' ⟨rfl, rfl⟩) | (go_at_call 141; (with_reducible refine (isAdd_any _ _).mono ?_); rintro e w' ⟨rfl, rfl⟩) | (go_at_call 123; (with_reducible refine (within_any _ _ _ _).mono ?_); rintro e w' ⟨rfl, rfl⟩))
          all_goals first
            | (exfalso; omega)
            | (go_ret; exact ⟨by rw [EB.out]; try rfl, (HF.out.alloc _).below⟩)
        have hh := (withinB_iff _ _ _).1 z4
        have EG : Hid (secB s many = fixesB many s.bytes.length (f0 + W) (s.fix.drop (k + 1))) := by
          show _ = _; rw [HE.out, HR.out]; simp [fixB, HW.out, z0, z3, z4, show 0 ≤ f2 by omega, show f2 < many by omega]
        obtain ⟨hh1, hh2⟩ := hh
        clear HE HR HW z0
        go_wp2_with (first | (go_at_call 140; (with_reducible refine (hwf _).mono ?_); rintro e w' ⟨rfl, rfl⟩) | (go_at_call 141; (with_reducible refine (isAdd_any _ _).mono ?_); rintro e w' ⟨rfl, rfl⟩) | (go_at_call 123; (with_reducible refine (within_any _ _ _ _).mono ?_); rintro e w' ⟨rfl, rfl⟩))
        go_roundw
        case rel => exact ⟨k + 1, f0 + W, by omega, by go_num, by go_num, by omega, by omega, EG, HB.out.alloc _, HF.out.alloc _⟩
        case measure => simp [intOf]; try omega
      · obtain rfl : k = s.fix.length := by omega
        have EG : Hid (secB s many = true) := by show _ = _; rw [HE.out, List.drop_length]; rfl
        go_wp2_with fail
        go_ret
        exact ⟨by rw [EG.out]; try rfl, HF.out.below⟩
end Go.Proofs.Ythccjimckjecjaa
