/- What the statements draw: sections. -/
import Derived.Test.YtkefbhidfbnipaaDrawK
import Derived.Test.YtkefbhidfbnipaaSec
import Derived.Test.YtkefbhidfbnipaaInv
import Derived.Test.YtkefbhidfbnipaaBase
import Derived.Deep.DeepCutAuto
namespace Go.Proofs.Ytkefbhidfbnipaa
open Go.ChangeShapes Go.WideShapes Go.ChangeAt Go.RowKit Go.Joins
set_option linter.unusedSimpArgs false
set_option linter.unusedVariables false
set_option maxRecDepth 100000
@[reducible] def secCells (s : SecD) (vb vf : Value) : Array Value := #[.string s.name, .int .i64 s.kind, .int .i64 s.align, vb, .int .i64 s.size, vf]
@[reducible] def secZero : Array Value := #[.string ⟨#[]⟩, .int .i64 0, .int .i64 0, .slice none 0 0, .int .i64 0, .slice none 0 0]
/-- A section that is being drawn: in block B; what it holds is the call's own. -/
structure SecSt (g q : Nat) (w0 u : World) (B m : Nat) (s : SecD) (vb vf : Value) : Prop where
  rd : Drawn g q w0 u
  top : Blk u w0.heap.size secZero 52
  blk : Blk u B (secCells s vb vf) 52
  own : OwnB u (B + 1) vb s.bytes
  ownf : OwnF u (B + 1) vf s.fix
  ne : ∀ k, vb.ownBlock = some k → vf.ownBlock ≠ some k
  lt : w0.heap.size < B
  nm : s.name.size ≤ 9
  bl : s.bytes.length ≤ 49
  fl : s.fix.length ≤ m
  sz : -1 ≤ s.size ∧ s.size ≤ 49
theorem SecSt.next {g q q' : Nat} {w0 u u' : World} {B m : Nat} {s : SecD} {vb vf : Value} (h : SecSt g q w0 u B m s vb vf) (hg : g < w0.heap.size) (hD : Drawn g q' u u') : SecSt g q' w0 u' B m s vb vf :=
  have h1 := h.lt
  ⟨h.rd.next hD, h.top.drawn hD (by omega), h.blk.drawn hD (by omega), owns_drawn h.own hD.grow (by omega), owns_drawn h.ownf hD.grow (by omega), h.ne, h.lt, h.nm, h.bl, h.fl, h.sz⟩
theorem SecSt.alloc {g q : Nat} {w0 u : World} {B m : Nat} {s : SecD} {vb vf : Value} (h : SecSt g q w0 u B m s vb vf) (o : Obj) : SecSt g q w0 (u.alloc o) B m s vb vf :=
  ⟨h.rd.alloc o, h.top.alloc o, h.blk.alloc o, h.own.alloc o, h.ownf.alloc o, h.ne, h.lt, h.nm, h.bl, h.fl, h.sz⟩
theorem SecSt.drewN {g q : Nat} {w0 u : World} {B m : Nat} {s : SecD} {vb vf : Value} (h : SecSt g q w0 u B m s vb vf) (n : Nat) : SecSt g q w0 (u.drewN n) B m s vb vf :=
  ⟨h.rd.more (World.grownBy_drewN u n _) (h.rd.rd.drewN n), h.top, h.blk, h.own, h.ownf, h.ne, h.lt, h.nm, h.bl, h.fl, h.sz⟩
theorem SecSt.more3 {g q : Nat} {w0 u : World} {B : Nat} {s : SecD} {vb vf : Value} (h : SecSt g q w0 u B 0 s vb vf) : SecSt g q w0 u B 3 s vb vf :=
  ⟨h.rd, h.top, h.blk, h.own, h.ownf, h.ne, h.lt, h.nm, h.bl, by have := h.fl; omega, h.sz⟩
theorem SecSt.call {g q : Nat} {w0 u u' : World} {B m : Nat} {s : SecD} {vb vf : Value} (h : SecSt g q w0 u B m s vb vf) (hb : Below u.heap.size u u') : SecSt g q w0 u' B m s vb vf :=
  ⟨h.rd.below hb, h.top.call hb, h.blk.call hb, owns_call h.own hb, owns_call h.ownf hb, h.ne, h.lt, h.nm, h.bl, h.fl, h.sz⟩
theorem SecSt.more {g q : Nat} {w0 u : World} {B m m' : Nat} {s : SecD} {vb vf : Value} (h : SecSt g q w0 u B m s vb vf) (hm : m ≤ m') : SecSt g q w0 u B m' s vb vf :=
  ⟨h.rd, h.top, h.blk, h.own, h.ownf, h.ne, h.lt, h.nm, h.bl, by have := h.fl; omega, h.sz⟩
theorem SecSt.cells {g q : Nat} {w0 u : World} {B m : Nat} {s : SecD} {vb vf : Value} (h : SecSt g q w0 u B m s vb vf) : ∀ o, u.cell? ⟨B, o, none⟩ = (secCells s vb vf)[o]? := h.blk.cell
/-- A field is written: name, kind, align, size. -/
theorem SecSt.set {g q : Nat} {w0 u : World} {B m : Nat} {s s' : SecD} {vb vf : Value} (h : SecSt g q w0 u B m s vb vf) (hg : g < w0.heap.size) (j : Nat) (x : Value) (hc : (secCells s vb vf).setIfInBounds j x = secCells s' vb vf) (hn : s'.name.size ≤ 9) (hz : -1 ≤ s'.size ∧ s'.size ≤ 49) (hb : s'.bytes = s.bytes) (hf : s'.fix = s.fix) :
    SecSt g q w0 (u.setCell ⟨B, j, none⟩ x) B m s' vb vf :=
  have h1 := h.lt
  ⟨h.rd.set (by omega) hg j x, h.top.other (p := ⟨B, j, none⟩) (by show B ≠ _; omega) x, hc ▸ h.blk.set x, hb ▸ ownsRow_setCell_below h.own (by show B < _; omega) x, hf ▸ ownsRow_setCell_below h.ownf (by show B < _; omega) x, h.ne, h.lt, hn, hb ▸ h.bl, hf ▸ h.fl, hz⟩
/-- The bytes are written. -/
theorem SecSt.setB {g q : Nat} {w0 u : World} {B m : Nat} {s : SecD} {vb vf vb' : Value} {l : List UInt8} (h : SecSt g q w0 u B m s vb vf) (hg : g < w0.heap.size) (ho : OwnB u (B + 1) vb' l) (hl : l.length ≤ 49) (hne : ∀ k, vb'.ownBlock = some k → vf.ownBlock ≠ some k) :
    SecSt g q w0 (u.setCell ⟨B, 3, none⟩ vb') B m { s with bytes := l } vb' vf :=
  have h1 := h.lt
  ⟨h.rd.set (by omega) hg 3 vb', h.top.other (p := ⟨B, 3, none⟩) (by show B ≠ _; omega) vb', h.blk.set vb', ownsRow_setCell_below ho (by show B < _; omega) vb', ownsRow_setCell_below h.ownf (by show B < _; omega) vb', hne, h.lt, h.nm, hl, h.fl, h.sz⟩
/-- A fixup more: the fixups written. -/
theorem SecSt.grownF {g q : Nat} {w0 u u' : World} {B m : Nat} {s : SecD} {vb vf vf' : Value} {f : FixD} (h : SecSt g q w0 u B m s vb vf) (hg : g < w0.heap.size) (hgr : u.grownBy u' vf.ownBlock) (ho : OwnF u' (B + 1) vf' (s.fix ++ [f])) (hv : vf'.ownBlock = vf.ownBlock ∨ vf'.ownBlock = some u.heap.size) :
    SecSt g q w0 (u'.setCell ⟨B, 5, none⟩ vf') B (m + 1) { s with fix := s.fix ++ [f] } vb vf' := by
  have h1 := h.lt
  have hfl : ∀ k, vf.ownBlock = some k → B + 1 ≤ k := owns_block h.ownf
  have hB : some B ≠ vf.ownBlock := fun e => by have := hfl B e.symm; omega
  have hT : some w0.heap.size ≠ vf.ownBlock := fun e => by have := hfl _ e.symm; omega
  have hD : Drawn g q w0 u' := h.rd.grownRow hgr (fun k hk => by have := hfl k hk; omega) hg
  have hob : OwnB u' (B + 1) vb s.bytes := World.ownsRow.kept h.own hgr (by
    cases hvb : vb.ownBlock with
    | none => exact .inl rfl
    | some k => exact .inr (fun e => h.ne k hvb e.symm))
  refine ⟨hD.set (by omega) hg 5 vf', (h.top.grown hgr hT).other (p := ⟨B, 5, none⟩) (by show B ≠ _; omega) vf', (h.blk.grown hgr hB).set vf', ownsRow_setCell_below hob (by show B < _; omega) vf', ownsRow_setCell_below ho (by show B < _; omega) vf', fun k hk e => ?_, h.lt, h.nm, h.bl, ?_, h.sz⟩
  · rcases hv with hv | hv
    · exact h.ne k hk (by rw [← hv]; exact e)
    · rw [hv] at e
      simp only [Option.some.injEq] at e
      have := (World.ownsRow.lt h.own k hk).2
      omega
  · have := h.fl
    simp only [List.length_append, List.length_cons, List.length_nil]
    omega
/-- Some section of a call's own. -/
def SomeSec (base : Nat) (w : World) (v : Value) : Prop := ∃ s vb vf, v = secV s vb vf ∧ OwnB w base vb s.bytes ∧ OwnF w base vf s.fix ∧ (∀ k, vb.ownBlock = some k → vf.ownBlock ≠ some k) ∧ s.name.size ≤ 9 ∧ s.bytes.length ≤ 49 ∧ s.fix.length ≤ 4 ∧ -1 ≤ s.size ∧ s.size ≤ 49
theorem SecSt.done {g q : Nat} {w0 u : World} {B m : Nat} {s : SecD} {vb vf : Value} (h : SecSt g q w0 u B m s vb vf) (hg : g < w0.heap.size) (hm : m ≤ 4) (a b c d e f : Value) :
    SomeSec w0.heap.size ((((((u.setCell ⟨w0.heap.size, 0, none⟩ a).setCell ⟨w0.heap.size, 1, none⟩ b).setCell ⟨w0.heap.size, 2, none⟩ c).setCell ⟨w0.heap.size, 3, none⟩ d).setCell ⟨w0.heap.size, 4, none⟩ e).setCell ⟨w0.heap.size, 5, none⟩ f) (secV s vb vf) ∧
    Drawn g q w0 ((((((u.setCell ⟨w0.heap.size, 0, none⟩ a).setCell ⟨w0.heap.size, 1, none⟩ b).setCell ⟨w0.heap.size, 2, none⟩ c).setCell ⟨w0.heap.size, 3, none⟩ d).setCell ⟨w0.heap.size, 4, none⟩ e).setCell ⟨w0.heap.size, 5, none⟩ f) := by
  have h1 := h.lt
  have q1 : w0.heap.size < B + 1 := by omega
  have o1 := ownsRow_setCell_below (ownsRow_setCell_below (ownsRow_setCell_below (ownsRow_setCell_below (ownsRow_setCell_below (ownsRow_setCell_below h.own (a := ⟨w0.heap.size, 0, none⟩) q1 a) (a := ⟨w0.heap.size, 1, none⟩) q1 b) (a := ⟨w0.heap.size, 2, none⟩) q1 c) (a := ⟨w0.heap.size, 3, none⟩) q1 d) (a := ⟨w0.heap.size, 4, none⟩) q1 e) (a := ⟨w0.heap.size, 5, none⟩) q1 f
  have o2 := ownsRow_setCell_below (ownsRow_setCell_below (ownsRow_setCell_below (ownsRow_setCell_below (ownsRow_setCell_below (ownsRow_setCell_below h.ownf (a := ⟨w0.heap.size, 0, none⟩) q1 a) (a := ⟨w0.heap.size, 1, none⟩) q1 b) (a := ⟨w0.heap.size, 2, none⟩) q1 c) (a := ⟨w0.heap.size, 3, none⟩) q1 d) (a := ⟨w0.heap.size, 4, none⟩) q1 e) (a := ⟨w0.heap.size, 5, none⟩) q1 f
  exact ⟨⟨s, vb, vf, rfl, owns_mono o1 (by omega), owns_mono o2 (by omega), h.ne, h.nm, h.bl, by have := h.fl; omega, h.sz.1, h.sz.2⟩,
    (((((h.rd.set (Nat.le_refl _) hg 0 a).set (Nat.le_refl _) hg 1 b).set (Nat.le_refl _) hg 2 c).set (Nat.le_refl _) hg 3 d).set (Nat.le_refl _) hg 4 e).set (Nat.le_refl _) hg 5 f⟩
set_option maxHeartbeats 2000000 in
theorem l20Section_any (w : World) (g p : Nat) (h : RdAt w g p) (hp : p ≤ 1072000000) (many : Int) (hm0 : 0 ≤ many) (hm : many ≤ 1000) (n : Int) (h0 : 0 ≤ n) (hn : n ≤ 1000) :
    Calls Try.prog 50 #[.pointer (some ⟨g, 0, none⟩), .int .i64 many, .int .i64 n] w (DrawE (SomeSec w.heap.size) 100 w g p) := by
  obtain ⟨i0, hi, hz0, hz1, hz2⟩ := info_parts info_fix
  obtain ⟨j0, hj, hy0, hy1, hy2⟩ := info_parts info_u8
  have zg := h.lt
  have HR := Lib.hid h
  clear h
  go_enter Try.func50, Try.ntmps50
  go_wp2_with fail
  refine (l20Name_any _ g p (HR.out.alloc _) (by omega) 0 (by decide) (by decide)).mono ?_
  rintro e w1 ⟨_, q1, rfl, ⟨nm, rfl, hnm⟩, hq1, hD⟩
  have HT1 := Lib.hid ((Blk.new w secZero 52).drawn hD (by omega))
  have HD1 := Lib.hid (((Drawn.start HR.out).alloc _).next hD)
  clear hD
  go_wp2_with fail
  refine (pick_in w1 _ g q1 (Drawn.start HD1.out.rd) (by omega) 3 (by decide) (by decide)).mono ?_
  rintro e w2 ⟨x, rfl, hx0, hx1, hD⟩
  have HT2 := Lib.hid (HT1.out.drawn hD (by omega))
  have HD2 := Lib.hid (HD1.out.next hD)
  clear hD HT1 HD1
  go_wp2_with fail
  refine (pick_over w2 _ g (q1 + 1) (Drawn.start HD2.out.rd) (by omega) _ _ 4 (by decide) (by decide)).mono ?_
  rintro e w3 ⟨y, rfl, hy0', hy1', hD, hB⟩
  obtain ⟨z, hz0', hz1', hc⟩ := lit_int hB y hy0' hy1' 1 8 rfl
  have HT3 := Lib.hid (HT2.out.drawn hD (by omega))
  have HD3 := Lib.hid (HD2.out.next hD)
  have ltB : w.heap.size < w3.heap.size := HT3.out.lt
  clear hD hB HT2 HD2
  go_upto_if 24 with fail
  have S4 : SecSt g (q1 + 1 + 1) w (w3.alloc (.cells (secCells ⟨nm, 1 + x, z, [], 0, []⟩ (.slice none 0 0) (.slice none 0 0)) 52)) w3.heap.size 0 ⟨nm, 1 + x, z, [], 0, []⟩ (.slice none 0 0) (.slice none 0 0) :=
    ⟨HD3.out.alloc _, HT3.out.alloc _, Blk.new _ _ _, World.ownsRow_nil _ _ _ _, World.ownsRow_nil _ _ _ _, (fun k hk => by simp [Value.ownBlock] at hk), ltB, hnm, Nat.zero_le _, Nat.le_refl _, by show (-1 : Int) ≤ 0; decide, by show (0 : Int) ≤ 49; decide⟩
  have HS4 := Lib.hid S4
  generalize hw4 : w3.alloc (.cells (secCells ⟨nm, 1 + x, z, [], 0, []⟩ (.slice none 0 0) (.slice none 0 0)) 52) = w4 at HS4 ⊢
  clear hw4 S4 HT3 HD3 hc
  generalize w3.heap.size = B at *
  go_cut [] (fun wx => ∃ q s vb vf, q ≤ p + 70 ∧ Hid (SecSt g q w wx B 3 s vb vf))
  case first =>
    by_cases hx : x = 2
    · subst hx
      have cB := HS4.out.cells
      go_wp2_with fail
      refine (pick_in w4 _ g _ (Drawn.start HS4.out.rd.rd) (by omega) 12 (by decide) (by decide)).mono ?_
      rintro e w5 ⟨a, rfl, ha0, ha1, hD⟩
      have HS5 := Lib.hid (HS4.out.next zg hD)
      clear hD HS4 cB
      go_wp2_with fail
      refine (pick_over w5 _ g _ (Drawn.start HS5.out.rd.rd) (by omega) _ _ 9 (by decide) (by decide)).mono ?_
      rintro e w6 ⟨b, rfl, hb0, hb1, hD, hB⟩
      have hq : b / 8 = 0 ∨ b / 8 = 1 := by omega
      obtain ⟨u, hu, hc⟩ := lit_at hB (b / 8) (by omega) (by show b / 8 < 2; omega)
      obtain ⟨sz, rfl, hs0, hs1⟩ : ∃ sz, u = .int .i64 sz ∧ -1 ≤ sz ∧ sz ≤ 49 := by
        simp only [List.mem_cons, List.not_mem_nil, or_false] at hu
        rcases hu with rfl | rfl
        · exact ⟨_, rfl, by omega, by omega⟩
        · exact ⟨_, rfl, by decide, by decide⟩
      have HS6 := Lib.hid (HS5.out.next zg hD)
      have cB := HS6.out.cells
      have fB := HS6.out.blk.frozen
      have d8 : b.tdiv 8 = b / 8 := Int.tdiv_eq_ediv_of_nonneg hb0
      have i1 : b / 8 < 2 := by omega
      have i0' : 0 ≤ b / 8 := by omega
      clear hD hB hu HS5
      go_wp2_with fail
      go_meet
      case rel => exact ⟨_, _, _, _, (by omega : q1 + 1 + 1 + 1 + 1 ≤ p + 70), HS6.out.set zg 4 _ (s' := ⟨nm, 1 + 2, z, [], sz, []⟩) rfl hnm ⟨hs0, hs1⟩ rfl rfl |>.more3⟩
    · have hx3 : ((1 + x) == 3) = false := by rw [beq_eq_false_iff_ne]; omega
      clear hx
      go_wp2_with fail
      refine (l20Bytes_any w4 g _ HS4.out.rd.rd 14 (by decide) (by omega)).mono ?_
      rintro e w5 ⟨vb, q5, rfl, ⟨bs, hO, hbl⟩, hq5, hD⟩
      have HS5 := Lib.hid (HS4.out.next zg hD)
      obtain ⟨ba, bc, rfl⟩ := owns_form hO
      have cB := HS5.out.cells
      have fB := HS5.out.blk.frozen
      have HO := Lib.hid (owns_mono hO (show B + 1 ≤ w4.heap.size from HS4.out.blk.lt))
      clear hD hO HS4
      go_wp2_with fail
      have HS6 := Lib.hid (HS5.out.setB zg HO.out (by omega) (fun k hk => by simp [Value.ownBlock]))
      generalize w5.setCell ⟨B, 3, none⟩ (.slice ba bs.length bc) = w6 at HS6 ⊢
      clear HS5 HO cB fB
      refine (pick_in w6 _ g _ (Drawn.start HS6.out.rd.rd) (by omega) 4 (by decide) (by decide)).mono ?_
      rintro e w7 ⟨k0, rfl, hk0, hk1, hD⟩
      obtain ⟨K0, rfl⟩ := Int.eq_ofNat_of_zero_le hk0
      have HS7 := Lib.hid (HS6.out.next zg hD)
      clear hD HS6
      go_wp2_with fail
      go_loopw [8, 9] (fun av i wr => ∃ (at' : Int) (k q fm : Nat) (s : SecD) (vb vf : Value), av = .int .i64 at' ∧ i = .int .i64 k ∧ 0 ≤ at' ∧ at' ≤ 14 ∧ fm + k ≤ 3 ∧ q ≤ p + 40 + 7 * (3 - k) ∧ s.bytes.length ≤ 14 ∧ Hid (SecSt g q w wr B fm s vb vf)) (fun _ i _ => (intOf i).toNat)
      case atStart => exact ⟨0, K0, q5 + 1, 0, _, _, _, rfl, rfl, by omega, by omega, by omega, by omega, hbl, HS7⟩
      case round =>
        clear HS7
        obtain ⟨at', k, q, fm, s, vb, vf, rfl, rfl, ha0, ha1, hfk, hq, hsl, HS⟩ := hrel
        by_cases hk : 0 < k
        case neg =>
          have hkz : ¬ (0 : Int) < (k : Int) := by omega
          clear hk
          go_wp2_with fail
          go_meet
          case rel => exact ⟨q, s, vb, vf, by omega, HS.out.more (by omega)⟩
        have hkz : (0 : Int) < (k : Int) := by omega
        by_cases hmz : 0 < many
        case neg =>
          go_wp2_with fail
          go_meet
          case rel => exact ⟨q, s, vb, vf, by omega, HS.out.more (by omega)⟩
        go_wp2_with fail
        refine (pick_in wr _ g _ (Drawn.start HS.out.rd.rd) (by omega) 3 (by decide) (by decide)).mono ?_
        rintro e z1 ⟨x1, rfl, hx10, hx11, hD⟩
        have H1 := Lib.hid (HS.out.next zg hD)
        clear hD HS
        go_wp2_with fail
        refine (pick_in z1 _ g _ (Drawn.start H1.out.rd.rd) (by omega) 3 (by decide) (by decide)).mono ?_
        rintro e z2 ⟨x2, rfl, hx20, hx21, hD⟩
        have H2 := Lib.hid (H1.out.next zg hD)
        clear hD H1
        go_wp2_with fail
        refine (pick_in z2 _ g _ (Drawn.start H2.out.rd.rd) (by omega) many (by omega) (by omega)).mono ?_
        rintro e z3 ⟨x3, rfl, hx30, hx31, hD⟩
        have H3 := Lib.hid (H2.out.next zg hD)
        clear hD H2
        go_wp2_with fail
        refine (pick_in z3 _ g _ (Drawn.start H3.out.rd.rd) (by omega) 9 (by decide) (by decide)).mono ?_
        rintro e z4 ⟨x4, rfl, hx40, hx41, hD⟩
        have H4 := Lib.hid (H3.out.next zg hD)
        clear hD H3
        go_wp2_with fail
        refine (pick_in z4 _ g _ (Drawn.start H4.out.rd.rd) (by omega) 256 (by decide) (by decide)).mono ?_
        rintro e z5 ⟨x5, rfl, hx50, hx51, hD⟩
        have H5 := Lib.hid (H4.out.next zg hD)
        clear hD H4
        go_wp2_with fail
        refine (pick_in z5 _ g _ (Drawn.start H5.out.rd.rd) (by omega) 256 (by decide) (by decide)).mono ?_
        rintro e z6 ⟨x6, rfl, hx60, hx61, hD⟩
        have H6 := Lib.hid (H5.out.next zg hD)
        clear hD H5
        go_wp2_with fail
        refine (pick_at (z6.alloc _) (z6.alloc _) g _ (Drawn.start (H6.out.alloc _).rd.rd) (by omega) (z6.heap.size + 1) (by simp) _ _ 7 (by decide) (by decide)).mono ?_
        rintro e z7 ⟨x7, rfl, hx70, hx71, hD, hB⟩
        obtain ⟨i7, hi0, hi1, hc7⟩ := lit_int hB x7 hx70 hx71 0 3 rfl
        have B4 := (Blk.new z6 #[.int .i64 (x4 - 4), .int .i64 0, .int .i64 x5, .int .i64 (-x6)] 3).drawn hD (by have := H6.out.rd.lt; omega)
        obtain ⟨u, hu, hc4⟩ := lit_at B4 i7 hi0 (by show i7 < 4; omega)
        obtain ⟨ad, rfl⟩ : ∃ ad, u = .int .i64 ad := by
          simp only [List.mem_cons, List.not_mem_nil, or_false] at hu
          rcases hu with rfl | rfl | rfl | rfl <;> exact ⟨_, rfl⟩
        have H7 := Lib.hid ((H6.out.alloc _).next zg hD)
        have hi4 : i7 < 4 := by omega
        clear hD hB B4 hu H6
        go_wp2_with fail
        have H8 := Lib.hid (H7.out.alloc (.cells #[.int .i64 (at' + x1), .int .i64 (1 + x2), .int .i64 x3, .int .i64 ad] 59))
        have F8 := Lib.hid (Blk.new z7 #[.int .i64 (at' + x1), .int .i64 (1 + x2), .int .i64 x3, .int .i64 ad] 59)
        have zf : B < z7.heap.size := H7.out.blk.lt
        have HVG : Hid (∀ k, vf.ownBlock = some k → k < z7.heap.size) := fun k hk => (World.ownsRow.lt H7.out.ownf k hk).2
        generalize z7.alloc (.cells #[.int .i64 (at' + x1), .int .i64 (1 + x2), .int .i64 x3, .int .i64 ad] 59) = z8 at H8 F8 ⊢
        generalize z7.heap.size = G at *
        clear hc7 hc4 H7
        have hWr := fixupWide_range (1 + x2)
        have hwf : ∀ wx : World, Calls Try.prog 67 #[.int .i64 (1 + x2)] wx fun e w' => e = .returned (.int .i64 (fixupWide (1 + x2))) ∧ Below wx.heap.size wx w' := fun wx => sFixupWide_any _ wx
        have HWF := Lib.hid hwf
        clear hwf
        generalize fixupWide (1 + x2) = W at *
        obtain ⟨fa, fc, rfl⟩ := owns_form H8.out.ownf
        obtain ⟨ba2, bc2, rfl⟩ := owns_form H8.out.own
        have s1 := IntWalk.i64_in (at' + x1 + W) (by omega)
        have p0 : ∀ p : Grew z8, p.w.cell? ⟨G, 0, none⟩ = some (.int .i64 (at' + x1)) := fun p => p.cell (F8.out.cell 0)
        have p1 : ∀ p : Grew z8, p.w.cell? ⟨G, 1, none⟩ = some (.int .i64 (1 + x2)) := fun p => p.cell (F8.out.cell 1)
        have p2 : ∀ p : Grew z8, p.w.cell? ⟨B, 3, none⟩ = some (.slice ba2 s.bytes.length bc2) := fun p => p.cell (H8.out.cells 3)
        by_cases hgt : (s.bytes.length : Int) < at' + x1 + W
        · refine wp_region_grew (by kernel_rfl) (by kernel_rfl) ?_
          repeat (go_big_quiet_step ((with_reducible exact grew_call (HWF.out _))))
          refine wpQuiet_nil ?_
          rintro _ ⟨pp, rfl⟩
          have H9 := Lib.hid (H8.out.call pp.h)
          clear s1 p0 p1 p2 H8 F8
          go_wp2_with fail
          go_meet
          case rel => exact ⟨_, s, _, _, (by omega : q + 1 + 1 + 1 + 1 + 1 + 1 + 1 ≤ p + 70), H9.out.more (by omega)⟩
        · refine wp_region_grew (by kernel_rfl) (by kernel_rfl) ?_
          repeat (go_big_quiet_step ((with_reducible exact grew_call (HWF.out _))))
          refine wpQuiet_nil ?_
          rintro _ ⟨pp, rfl⟩
          have H9 := Lib.hid (H8.out.call pp.h)
          have F9 := Lib.hid (F8.out.call pp.h)
          generalize pp.w = z9 at *
          have cB := H9.out.cells
          have cF := F9.out.cell
          clear p0 p1 p2 H8 F8
          have hfl := H9.out.fl
          go_wp2_with (at_builtin; refine wpList_append_own rfl (.tmp 85) (.tmp 87) 50 50 rfl (B + 1) 59 i0 _ 4 32 Try.underlying50 hi hz0 hz1 hz2 rfl (by decide) _ _ _ rfl (World.ownsRow.alloc H9.out.ownf _) _ 1 [_, _, _, _] rfl (src_new Try.underlying50 _ [_, _, _, _] 4 1 1 _ rfl ?c0) ?c1 ?c2 ?c3 ?_)
          case c0 =>
            exact ⟨rfl, rfl, rfl, rfl⟩
          case c1 => unfold maxLen; omega
          case c2 => omega
          case c3 => have := H9.out.blk.lt; simp; omega
          intro v' z10 hown hgr hpl
          have H10 := Lib.hid ((H9.out.alloc _).grownF zg hgr (show OwnF z10 (B + 1) v' (s.fix ++ [(at' + x1, 1 + x2, x3, ad)]) from by
            unfold OwnF
            rw [List.length_append, fixCells_append]
            exact hown) (by simpa using hpl))
          have F10 := Lib.hid (((F9.out.alloc _).grown hgr (fun e => by have := HVG.out G e.symm; omega)).other (p := ⟨B, 5, none⟩) (by show B ≠ G; omega) v')
          have BB := Lib.hid ((H9.out.blk.alloc _).grown hgr (fun e => by have := owns_block H9.out.ownf B e.symm; omega))
          have cBB := BB.out.cell
          have fBB := BB.out.frozen
          clear hown hgr hpl H9 F9 cB cF
          obtain ⟨va, vc, hv'⟩ := owns_form H10.out.ownf
          obtain ⟨vl, hvl⟩ : ∃ vl, (s.fix ++ [(at' + x1, 1 + x2, x3, ad)]).length = vl := ⟨_, rfl⟩
          rw [hvl] at hv'
          subst hv'
          clear hvl
          go_wp2_with fail
          clear cBB fBB BB
          generalize z10.setCell ⟨B, 5, none⟩ (.slice va vl vc) = z11 at *
          have p0 : ∀ p : Grew z11, p.w.cell? ⟨G, 0, none⟩ = some (.int .i64 (at' + x1)) := fun p => p.cell (F10.out.cell 0)
          have p1 : ∀ p : Grew z11, p.w.cell? ⟨G, 1, none⟩ = some (.int .i64 (1 + x2)) := fun p => p.cell (F10.out.cell 1)
          clear F10
          refine wp_region_grew (by kernel_rfl) (by kernel_rfl) ?_
          repeat (go_big_quiet_step ((with_reducible exact grew_call (HWF.out _))))
          refine wpQuiet_nil ?_
          rintro _ ⟨pp2, rfl⟩
          have H12 := Lib.hid (H10.out.call pp2.h)
          clear s1 p0 p1 H10
          go_wp2_with fail
          go_roundw
          case rel => exact ⟨at' + x1 + W, k - 1, _, fm + 1, { s with fix := s.fix ++ [(at' + x1, 1 + x2, x3, ad)] }, _, _, rfl, by go_num, by omega, by omega, by omega, (by omega : q + 1 + 1 + 1 + 1 + 1 + 1 + 1 ≤ p + 40 + 7 * (3 - (k - 1))), hsl, H12⟩
          case measure => simp [intOf]; try omega
  case rest =>
    obtain ⟨q, s, vb, vf, hq, HS⟩ := hcut
    clear HS4
    go_wp2_with fail
    refine (odd_any wc g q HS.out.rd.rd (by omega) n h0 (by omega)).mono ?_
    rintro e w5 ⟨_, q5, rfl, ⟨bo, rfl⟩, hq5, hD⟩
    have HS5 := Lib.hid (HS.out.next zg hD)
    clear hD HS
    go_upto_if 98 with fail
    go_cut [] (fun wx => ∃ q s vb vf, q ≤ p + 95 ∧ Hid (SecSt g q w wx B 4 s vb vf))
    case first =>
      cases bo
      · go_wp2_with fail
        go_meet
        case rel => exact ⟨q5, s, vb, vf, by omega, HS5.out.more (by omega)⟩
      go_wp2_with fail
      refine (pick_in w5 _ g _ (Drawn.start HS5.out.rd.rd) (by omega) 6 (by decide) (by decide)).mono ?_
      rintro e w6 ⟨y, rfl, hy0, hy1, hD⟩
      have HS6 := Lib.hid (HS5.out.next zg hD)
      have cB := HS6.out.cells
      have fB := HS6.out.blk.frozen
      clear hD HS5
      have hy : y = 0 ∨ y = 1 ∨ y = 2 ∨ y = 3 ∨ y = 4 ∨ y = 5 := by omega
      clear hy0 hy1
      rcases hy with rfl | rfl | rfl | rfl | rfl | rfl
      · go_wp2_with fail
        refine (l20Name_any w6 g _ HS6.out.rd.rd (by omega) 1 (by decide) (by decide)).mono ?_
        rintro e w7 ⟨_, q7, rfl, ⟨nm2, rfl, hnm2⟩, hq7, hD⟩
        have HS7 := Lib.hid (HS6.out.next zg hD)
        have cB := HS7.out.cells
        have fB := HS7.out.blk.frozen
        clear hD HS6
        go_wp2_with fail
        go_meet
        case rel => exact ⟨q7, { s with name := nm2 }, _, _, by omega, (HS7.out.set zg 0 _ (s' := { s with name := nm2 }) rfl hnm2 HS7.out.sz rfl rfl).more (by omega)⟩
      · go_wp2_with fail
        refine (pick_over w6 _ g _ (Drawn.start HS6.out.rd.rd) (by omega) _ _ 2 (by decide) (by decide)).mono ?_
        rintro e w7 ⟨z2, rfl, hz0, hz1, hD, hB⟩
        obtain ⟨u, hu, hc⟩ := lit_at hB z2 (by omega) (by show z2 < 2; omega)
        obtain ⟨sz, rfl, hs0, hs1⟩ : ∃ sz, u = .int .i64 sz ∧ (0) ≤ sz ∧ sz ≤ 4 := by
          simp only [List.mem_cons, List.not_mem_nil, or_false] at hu
          rcases hu with rfl | rfl <;> exact ⟨_, rfl, by decide, by decide⟩
        have HS7 := Lib.hid (HS6.out.next zg hD)
        have cB := HS7.out.cells
        have fB := HS7.out.blk.frozen
        clear hD hB hu HS6
        go_wp2_with fail
        go_meet
        case rel => exact ⟨_, { s with kind := sz }, _, _, (by omega : q5 + 1 + 1 ≤ p + 95), (HS7.out.set zg 1 _ (s' := { s with kind := sz }) rfl HS7.out.nm HS7.out.sz rfl rfl).more (by omega)⟩
      · go_wp2_with fail
        refine (pick_over w6 _ g _ (Drawn.start HS6.out.rd.rd) (by omega) _ _ 3 (by decide) (by decide)).mono ?_
        rintro e w7 ⟨z2, rfl, hz0, hz1, hD, hB⟩
        obtain ⟨u, hu, hc⟩ := lit_at hB z2 (by omega) (by show z2 < 3; omega)
        obtain ⟨sz, rfl, hs0, hs1⟩ : ∃ sz, u = .int .i64 sz ∧ (0) ≤ sz ∧ sz ≤ 16 := by
          simp only [List.mem_cons, List.not_mem_nil, or_false] at hu
          rcases hu with rfl | rfl | rfl <;> exact ⟨_, rfl, by decide, by decide⟩
        have HS7 := Lib.hid (HS6.out.next zg hD)
        have cB := HS7.out.cells
        have fB := HS7.out.blk.frozen
        clear hD hB hu HS6
        go_wp2_with fail
        go_meet
        case rel => exact ⟨_, { s with align := sz }, _, _, (by omega : q5 + 1 + 1 ≤ p + 95), (HS7.out.set zg 2 _ (s' := { s with align := sz }) rfl HS7.out.nm HS7.out.sz rfl rfl).more (by omega)⟩
      · go_wp2_with fail
        refine (pick_over w6 _ g _ (Drawn.start HS6.out.rd.rd) (by omega) _ _ 2 (by decide) (by decide)).mono ?_
        rintro e w7 ⟨z2, rfl, hz0, hz1, hD, hB⟩
        obtain ⟨u, hu, hc⟩ := lit_at hB z2 (by omega) (by show z2 < 2; omega)
        obtain ⟨sz, rfl, hs0, hs1⟩ : ∃ sz, u = .int .i64 sz ∧ (-1) ≤ sz ∧ sz ≤ 49 := by
          simp only [List.mem_cons, List.not_mem_nil, or_false] at hu
          rcases hu with rfl | rfl <;> exact ⟨_, rfl, by decide, by decide⟩
        have HS7 := Lib.hid (HS6.out.next zg hD)
        have cB := HS7.out.cells
        have fB := HS7.out.blk.frozen
        clear hD hB hu HS6
        go_wp2_with fail
        go_meet
        case rel => exact ⟨_, { s with size := sz }, _, _, (by omega : q5 + 1 + 1 ≤ p + 95), (HS7.out.set zg 4 _ (s' := { s with size := sz }) rfl HS7.out.nm ⟨hs0, hs1⟩ rfl rfl).more (by omega)⟩
      · obtain ⟨fa, fc, rfl⟩ := owns_form HS6.out.ownf
        clear cB fB
        have HS6b := HS6.out
        have ltg : g < B := by have := HS6b.lt; omega
        obtain ⟨q6, hq6, hq7⟩ : ∃ q6, q5 + 1 = q6 ∧ q6 ≤ p + 73 := ⟨_, rfl, by omega⟩
        rw [hq6] at HS6b
        clear HS6 hq6
        go_wp2_with fail
        let V : Nat → Value → World → Prop := fun i v u => match i with
          | 0 => v = .pointer (some ⟨B, 5, none⟩)
          | 1 => v = .slice fa s.fix.length fc
          | 2 => v = .int .i64 many
          | 3 => VLit g 3 (-1) 1000 u v
          | 4 => v = .pointer (some ⟨g, 0, none⟩)
          | 5 => VInt 0 2 u v
          | 6 => VAdr g (-1) 1000 u v
          | 7 => VInt (-1) 1000 u v
          | 8 => VLit g 2 0 1001 u v
          | 9 => v = .pointer (some ⟨g, 0, none⟩)
          | 10 => VInt 0 1 u v
          | 11 => VAdr g 0 1001 u v
          | 12 => VInt 0 1001 u v
          | 13 => ∃ a b, v = .agg #[.int .i64 0, .int .i64 1, .int .i64 a, .int .i64 b]
          | 14 => ∃ k a b, v = .slice (some ⟨k, 0, none⟩) 1 1 ∧ B < k ∧ Blk u k #[.int .i64 0, .int .i64 1, .int .i64 a, .int .i64 b] 59
          | 15 => ∃ q s' va vl vc, v = .slice va vl vc ∧ q ≤ q6 + 18 ∧ SecSt g q w (u.setCell ⟨B, 5, none⟩ v) B 4 s' vb v ∧ Blk u B (secCells s vb (.slice fa s.fix.length fc)) 52
          | 16 => v = .pointer (some ⟨B, 5, none⟩)
          | _ => True
        let S : Nat → (Nat → Bool) → World → Prop := fun n f u => (f 15 = false → ∃ q, q ≤ q6 + n ∧ SecSt g q w u B 3 s vb (.slice fa s.fix.length fc)) ∧ (f 17 = true → ∃ q s' vf', q ≤ q6 + 20 ∧ SecSt g q w u B 4 s' vb vf')
        have hno : ∀ k, k < 15 → needB 18 [[], [0], [], [2], [], [4], [3, 5], [6], [], [], [9], [8, 10], [11], [7, 12], [13], [1, 14], [], [15, 16]] [[], [0], [], [2], [], [4], [2, 3, 4, 5], [2, 3, 4, 5, 6], [], [], [4, 5, 9], [4, 5, 8, 9, 10], [4, 5, 8, 9, 10, 11], [2, 3, 4, 5, 6, 7, 8, 9, 10, 11, 12], [2, 3, 4, 5, 6, 7, 8, 9, 10, 11, 12, 13], [0, 1, 2, 3, 4, 5, 6, 7, 8, 9, 10, 11, 12, 13, 14], [0, 1, 2, 3, 4, 5, 6, 7, 8, 9, 10, 11, 12, 13, 14, 15], [0, 1, 2, 3, 4, 5, 6, 7, 8, 9, 10, 11, 12, 13, 14, 15, 16]] [] k 15 = false := by decide
        have hst : ∀ k, k < 15 → ∀ j u u' x, needB 18 [[], [0], [], [2], [], [4], [3, 5], [6], [], [], [9], [8, 10], [11], [7, 12], [13], [1, 14], [], [15, 16]] [[], [0], [], [2], [], [4], [2, 3, 4, 5], [2, 3, 4, 5, 6], [], [], [4, 5, 9], [4, 5, 8, 9, 10], [4, 5, 8, 9, 10, 11], [2, 3, 4, 5, 6, 7, 8, 9, 10, 11, 12], [2, 3, 4, 5, 6, 7, 8, 9, 10, 11, 12, 13], [0, 1, 2, 3, 4, 5, 6, 7, 8, 9, 10, 11, 12, 13, 14], [0, 1, 2, 3, 4, 5, 6, 7, 8, 9, 10, 11, 12, 13, 14, 15], [0, 1, 2, 3, 4, 5, 6, 7, 8, 9, 10, 11, 12, 13, 14, 15, 16]] [] k j = true → u.grownBy u' (some g) → V j x u → V j x u' := by
          intro k hk j u u' x hj hg h
          by_cases h15 : j = 15
          · subst h15; rw [hno k hk] at hj; cases hj
          rcases j with _ | _ | _ | _ | _ | _ | _ | _ | _ | _ | _ | _ | _ | _ | _ | _ | _ | j
          all_goals first
            | exact h
            | exact VLit.grown h hg
            | exact VAdr.grown h hg
            | exact absurd rfl h15
            | (obtain ⟨k2, a, b, h1, h2, h3⟩ := h
               exact ⟨k2, a, b, h1, h2, h3.grown hg (fun e => by simp only [Option.some.injEq] at e; omega)⟩)
        refine wp_region_set V S [[], [0], [], [2], [], [4], [3, 5], [6], [], [], [9], [8, 10], [11], [7, 12], [13], [1, 14], [], [15, 16]] [[], [0], [], [2], [], [4], [2, 3, 4, 5], [2, 3, 4, 5, 6], [], [], [4, 5, 9], [4, 5, 8, 9, 10], [4, 5, 8, 9, 10, 11], [2, 3, 4, 5, 6, 7, 8, 9, 10, 11, 12], [2, 3, 4, 5, 6, 7, 8, 9, 10, 11, 12, 13], [0, 1, 2, 3, 4, 5, 6, 7, 8, 9, 10, 11, 12, 13, 14], [0, 1, 2, 3, 4, 5, 6, 7, 8, 9, 10, 11, 12, 13, 14, 15], [0, 1, 2, 3, 4, 5, 6, 7, 8, 9, 10, 11, 12, 13, 14, 15, 16]] [] (by kernel_rfl) (by kernel_rfl) (by kernel_rfl) (by kernel_rfl) (by kernel_rfl) ⟨fun _ => ⟨q6, Nat.le_refl _, HS6b.drewN 1⟩, fun h => by cases h⟩ ?ho ?hq
        case ho =>
          refine ⟨?_, ?_, ?_, ?_, ?_, ?_, ?_, ?_, ?_, ?_, ?_, ?_, ?_, ?_, ?_, ?_, ?_, ?_, trivial⟩
          · intro n f A u K hfr hn hl hS hv hK
            have hn2 : n < 18 := hn
            obtain ⟨q, hq, H⟩ := hS.1 (hl.2.2 15 (by decide))
            have hN : ∀ u' q', q' ≤ q + 1 → SecSt g q' w u' B 3 s vb (.slice fa s.fix.length fc) → S (n + 1) (setl f 0) u' := fun u' q' h1 h2 => ⟨fun _ => ⟨q', by omega, h2⟩, fun h => by rw [setl_ne (by decide), hl.2.2 17 (by decide)] at h; cases h⟩
            have e4 : A.tmps.getD 7 undef = .pointer (some ⟨B, 0, none⟩) := hfr 7 (not_dst (by kernel_rfl))
            have e5 : (A.tmps[7]?).getD undef = .pointer (some ⟨B, 0, none⟩) := by simpa using e4
            refine owe_run rfl (wp_val (v := .pointer (some ⟨B, 5, none⟩)) ?_ (hK _ _ (hN u q (by omega) H) (fun _ _ _ h => h) (fun _ => rfl)))
            first
              | (go_simp; done)
              | (go_simp; rfl)
          · intro n f A u K hfr hn hl hS hv hK
            have hn2 : n < 18 := hn
            obtain ⟨q, hq, H⟩ := hS.1 (hl.2.2 15 (by decide))
            have hN : ∀ u' q', q' ≤ q + 1 → SecSt g q' w u' B 3 s vb (.slice fa s.fix.length fc) → S (n + 1) (setl f 1) u' := fun u' q' h1 h2 => ⟨fun _ => ⟨q', by omega, h2⟩, fun h => by rw [setl_ne (by decide), hl.2.2 17 (by decide)] at h; cases h⟩
            have c5 := H.cells 5
            simp at c5
            have q0 : A.tmps.getD 134 undef = .pointer (some ⟨B, 5, none⟩) := hv.1
            have r0 : (A.tmps[134]?).getD undef = .pointer (some ⟨B, 5, none⟩) := by simpa using q0
            refine owe_run rfl (wp_val (v := .slice fa s.fix.length fc) ?_ (hK _ _ (hN u q (by omega) H) (fun _ _ _ h => h) (fun _ => rfl)))
            first
              | (go_simp; done)
              | (go_simp; rfl)
          · intro n f A u K hfr hn hl hS hv hK
            have hn2 : n < 18 := hn
            obtain ⟨q, hq, H⟩ := hS.1 (hl.2.2 15 (by decide))
            have hN : ∀ u' q', q' ≤ q + 1 → SecSt g q' w u' B 3 s vb (.slice fa s.fix.length fc) → S (n + 1) (setl f 2) u' := fun u' q' h1 h2 => ⟨fun _ => ⟨q', by omega, h2⟩, fun h => by rw [setl_ne (by decide), hl.2.2 17 (by decide)] at h; cases h⟩
            have e4 : A.tmps.getD 1 undef = .int .i64 many := hfr 1 (not_dst (by kernel_rfl))
            refine owe_run rfl (wp_val (v := .int .i64 many) ?_ (hK _ _ (hN u q (by omega) H) (fun _ _ _ h => h) (fun _ => rfl)))
            first
              | (go_simp; done)
              | (go_simp; rfl)
          · intro n f A u K hfr hn hl hS hv hK
            have hn2 : n < 18 := hn
            obtain ⟨q, hq, H⟩ := hS.1 (hl.2.2 15 (by decide))
            have hN : ∀ u' q', q' ≤ q + 1 → SecSt g q' w u' B 3 s vb (.slice fa s.fix.length fc) → S (n + 1) (setl f 3) u' := fun u' q' h1 h2 => ⟨fun _ => ⟨q', by omega, h2⟩, fun h => by rw [setl_ne (by decide), hl.2.2 17 (by decide)] at h; cases h⟩
            have q2 : A.tmps.getD 136 undef = .int .i64 many := hv.1
            have r2 : (A.tmps[136]?).getD undef = .int .i64 many := by simpa using q2
            have hz := H.rd.lt
            refine owe_run rfl (wp_val (v := .slice (some ⟨u.heap.size, 0, none⟩) 3 3) (w' := u.alloc (.cells #[.int .i64 (0), .int .i64 (-1), .int .i64 (many)] 3)) ?_ (hK _ _ (hN _ q (by omega) (H.alloc _)) (fun j x hj h => hst 3 (by decide) j u _ x hj (World.grownBy_alloc u _ _) h) (fun _ => ⟨_, _, _, rfl, by omega, Blk.new u _ _, rfl, by intro z hz; simp only [List.mem_cons, List.not_mem_nil, or_false] at hz; rcases hz with rfl | rfl | rfl <;> exact ⟨_, rfl, by omega, by omega⟩⟩)))
            first
              | (go_simp; done)
              | (go_simp; rfl)
          · intro n f A u K hfr hn hl hS hv hK
            have hn2 : n < 18 := hn
            obtain ⟨q, hq, H⟩ := hS.1 (hl.2.2 15 (by decide))
            have hN : ∀ u' q', q' ≤ q + 1 → SecSt g q' w u' B 3 s vb (.slice fa s.fix.length fc) → S (n + 1) (setl f 4) u' := fun u' q' h1 h2 => ⟨fun _ => ⟨q', by omega, h2⟩, fun h => by rw [setl_ne (by decide), hl.2.2 17 (by decide)] at h; cases h⟩
            have e4 : A.tmps.getD 0 undef = .pointer (some ⟨g, 0, none⟩) := hfr 0 (not_dst (by kernel_rfl))
            refine owe_run rfl (wp_val (v := .pointer (some ⟨g, 0, none⟩)) ?_ (hK _ _ (hN u q (by omega) H) (fun _ _ _ h => h) (fun _ => rfl)))
            first
              | (go_simp; done)
              | (go_simp; rfl)
          · intro n f A u K hfr hn hl hS hv hK
            have hn2 : n < 18 := hn
            obtain ⟨q, hq, H⟩ := hS.1 (hl.2.2 15 (by decide))
            have hN : ∀ u' q', q' ≤ q + 1 → SecSt g q' w u' B 3 s vb (.slice fa s.fix.length fc) → S (n + 1) (setl f 5) u' := fun u' q' h1 h2 => ⟨fun _ => ⟨q', by omega, h2⟩, fun h => by rw [setl_ne (by decide), hl.2.2 17 (by decide)] at h; cases h⟩
            have h0 : A.tmps.getD 138 undef = .pointer (some ⟨g, 0, none⟩) := hv.1
            refine owe_run rfl (wp_fn rfl (args2 h0 rfl) (enter_fn Try.func49 (by kernel_rfl) rfl _ _) ((pick_in u u g q (Drawn.start H.rd.rd) (by omega) 3 (by decide) (by decide)).mono ?_))
            rintro e u1 ⟨x, rfl, hx0, hx1, hD2⟩
            exact ⟨_, rfl, hK _ _ (hN u1 (q + 1) (Nat.le_refl _) (H.next zg hD2)) (fun j x hj h => hst 5 (by decide) j u _ x hj hD2.grow h) (fun _ => ⟨x, rfl, hx0, by omega⟩)⟩
          · intro n f A u K hfr hn hl hS hv hK
            have hn2 : n < 18 := hn
            obtain ⟨q, hq, H⟩ := hS.1 (hl.2.2 15 (by decide))
            have hN : ∀ u' q', q' ≤ q + 1 → SecSt g q' w u' B 3 s vb (.slice fa s.fix.length fc) → S (n + 1) (setl f 6) u' := fun u' q' h1 h2 => ⟨fun _ => ⟨q', by omega, h2⟩, fun h => by rw [setl_ne (by decide), hl.2.2 17 (by decide)] at h; cases h⟩
            obtain ⟨k, c, t, h0, hk, hB, hs, hz⟩ : VLit g 3 (-1) 1000 u (A.tmps.getD 137 undef) := hv.1
            obtain ⟨x, h1, hx0, hx1⟩ : VInt 0 2 u (A.tmps.getD 139 undef) := hv.2.1
            have hx2 : x < 3 := by omega
            refine owe_run rfl (wp_val (v := .pointer (some ⟨k, x.toNat, none⟩)) ?_ (hK _ _ (hN u q (by omega) H) (fun _ _ _ h => h) (fun _ => vlit_adr hk hB hs hz x hx0 (by omega))))
            first
              | (go_simp; done)
              | (go_simp; rfl)
          · intro n f A u K hfr hn hl hS hv hK
            have hn2 : n < 18 := hn
            obtain ⟨q, hq, H⟩ := hS.1 (hl.2.2 15 (by decide))
            have hN : ∀ u' q', q' ≤ q + 1 → SecSt g q' w u' B 3 s vb (.slice fa s.fix.length fc) → S (n + 1) (setl f 7) u' := fun u' q' h1 h2 => ⟨fun _ => ⟨q', by omega, h2⟩, fun h => by rw [setl_ne (by decide), hl.2.2 17 (by decide)] at h; cases h⟩
            obtain ⟨k, o, y, h0, hk, hc, hy0, hy1⟩ : VAdr g (-1) 1000 u (A.tmps.getD 140 undef) := hv.1
            refine owe_run rfl (wp_val (v := .int .i64 y) ?_ (hK _ _ (hN u q (by omega) H) (fun _ _ _ h => h) (fun _ => ⟨y, rfl, hy0, hy1⟩)))
            first
              | (go_simp; done)
              | (go_simp; rfl)
          · intro n f A u K hfr hn hl hS hv hK
            have hn2 : n < 18 := hn
            obtain ⟨q, hq, H⟩ := hS.1 (hl.2.2 15 (by decide))
            have hN : ∀ u' q', q' ≤ q + 1 → SecSt g q' w u' B 3 s vb (.slice fa s.fix.length fc) → S (n + 1) (setl f 8) u' := fun u' q' h1 h2 => ⟨fun _ => ⟨q', by omega, h2⟩, fun h => by rw [setl_ne (by decide), hl.2.2 17 (by decide)] at h; cases h⟩
            have hz := H.rd.lt
            refine owe_run rfl (wp_val (v := .slice (some ⟨u.heap.size, 0, none⟩) 2 2) (w' := u.alloc (.cells #[.int .i64 (0), .int .i64 (1001)] 3)) ?_ (hK _ _ (hN _ q (by omega) (H.alloc _)) (fun j x hj h => hst 8 (by decide) j u _ x hj (World.grownBy_alloc u _ _) h) (fun _ => ⟨_, _, _, rfl, by omega, Blk.new u _ _, rfl, by intro z hz; simp only [List.mem_cons, List.not_mem_nil, or_false] at hz; rcases hz with rfl | rfl <;> exact ⟨_, rfl, by omega, by omega⟩⟩)))
            first
              | (go_simp; done)
              | (go_simp; rfl)
          · intro n f A u K hfr hn hl hS hv hK
            have hn2 : n < 18 := hn
            obtain ⟨q, hq, H⟩ := hS.1 (hl.2.2 15 (by decide))
            have hN : ∀ u' q', q' ≤ q + 1 → SecSt g q' w u' B 3 s vb (.slice fa s.fix.length fc) → S (n + 1) (setl f 9) u' := fun u' q' h1 h2 => ⟨fun _ => ⟨q', by omega, h2⟩, fun h => by rw [setl_ne (by decide), hl.2.2 17 (by decide)] at h; cases h⟩
            have e4 : A.tmps.getD 0 undef = .pointer (some ⟨g, 0, none⟩) := hfr 0 (not_dst (by kernel_rfl))
            refine owe_run rfl (wp_val (v := .pointer (some ⟨g, 0, none⟩)) ?_ (hK _ _ (hN u q (by omega) H) (fun _ _ _ h => h) (fun _ => rfl)))
            first
              | (go_simp; done)
              | (go_simp; rfl)
          · intro n f A u K hfr hn hl hS hv hK
            have hn2 : n < 18 := hn
            obtain ⟨q, hq, H⟩ := hS.1 (hl.2.2 15 (by decide))
            have hN : ∀ u' q', q' ≤ q + 1 → SecSt g q' w u' B 3 s vb (.slice fa s.fix.length fc) → S (n + 1) (setl f 10) u' := fun u' q' h1 h2 => ⟨fun _ => ⟨q', by omega, h2⟩, fun h => by rw [setl_ne (by decide), hl.2.2 17 (by decide)] at h; cases h⟩
            have h0 : A.tmps.getD 143 undef = .pointer (some ⟨g, 0, none⟩) := hv.1
            refine owe_run rfl (wp_fn rfl (args2 h0 rfl) (enter_fn Try.func49 (by kernel_rfl) rfl _ _) ((pick_in u u g q (Drawn.start H.rd.rd) (by omega) 2 (by decide) (by decide)).mono ?_))
            rintro e u1 ⟨x, rfl, hx0, hx1, hD2⟩
            exact ⟨_, rfl, hK _ _ (hN u1 (q + 1) (Nat.le_refl _) (H.next zg hD2)) (fun j x hj h => hst 10 (by decide) j u _ x hj hD2.grow h) (fun _ => ⟨x, rfl, hx0, by omega⟩)⟩
          · intro n f A u K hfr hn hl hS hv hK
            have hn2 : n < 18 := hn
            obtain ⟨q, hq, H⟩ := hS.1 (hl.2.2 15 (by decide))
            have hN : ∀ u' q', q' ≤ q + 1 → SecSt g q' w u' B 3 s vb (.slice fa s.fix.length fc) → S (n + 1) (setl f 11) u' := fun u' q' h1 h2 => ⟨fun _ => ⟨q', by omega, h2⟩, fun h => by rw [setl_ne (by decide), hl.2.2 17 (by decide)] at h; cases h⟩
            obtain ⟨k, c, t, h0, hk, hB, hs, hz⟩ : VLit g 2 (0) 1001 u (A.tmps.getD 142 undef) := hv.1
            obtain ⟨x, h1, hx0, hx1⟩ : VInt 0 1 u (A.tmps.getD 144 undef) := hv.2.1
            have hx2 : x < 2 := by omega
            refine owe_run rfl (wp_val (v := .pointer (some ⟨k, x.toNat, none⟩)) ?_ (hK _ _ (hN u q (by omega) H) (fun _ _ _ h => h) (fun _ => vlit_adr hk hB hs hz x hx0 (by omega))))
            first
              | (go_simp; done)
              | (go_simp; rfl)
          · intro n f A u K hfr hn hl hS hv hK
            have hn2 : n < 18 := hn
            obtain ⟨q, hq, H⟩ := hS.1 (hl.2.2 15 (by decide))
            have hN : ∀ u' q', q' ≤ q + 1 → SecSt g q' w u' B 3 s vb (.slice fa s.fix.length fc) → S (n + 1) (setl f 12) u' := fun u' q' h1 h2 => ⟨fun _ => ⟨q', by omega, h2⟩, fun h => by rw [setl_ne (by decide), hl.2.2 17 (by decide)] at h; cases h⟩
            obtain ⟨k, o, y, h0, hk, hc, hy0, hy1⟩ : VAdr g (0) 1001 u (A.tmps.getD 145 undef) := hv.1
            refine owe_run rfl (wp_val (v := .int .i64 y) ?_ (hK _ _ (hN u q (by omega) H) (fun _ _ _ h => h) (fun _ => ⟨y, rfl, hy0, hy1⟩)))
            first
              | (go_simp; done)
              | (go_simp; rfl)
          · intro n f A u K hfr hn hl hS hv hK
            have hn2 : n < 18 := hn
            obtain ⟨q, hq, H⟩ := hS.1 (hl.2.2 15 (by decide))
            have hN : ∀ u' q', q' ≤ q + 1 → SecSt g q' w u' B 3 s vb (.slice fa s.fix.length fc) → S (n + 1) (setl f 13) u' := fun u' q' h1 h2 => ⟨fun _ => ⟨q', by omega, h2⟩, fun h => by rw [setl_ne (by decide), hl.2.2 17 (by decide)] at h; cases h⟩
            obtain ⟨a, h0, ha0, ha1⟩ : VInt (-1) 1000 u (A.tmps.getD 141 undef) := hv.1
            obtain ⟨b, h1, hb0, hb1⟩ : VInt 0 1001 u (A.tmps.getD 146 undef) := hv.2.1
            have h0' : (A.tmps[141]?).getD undef = .int .i64 a := by simpa using h0
            have h1' : (A.tmps[146]?).getD undef = .int .i64 b := by simpa using h1
            refine owe_run rfl (wp_val (v := .agg #[.int .i64 0, .int .i64 1, .int .i64 a, .int .i64 b]) ?_ (hK _ _ (hN u q (by omega) H) (fun _ _ _ h => h) (fun _ => ⟨a, b, rfl⟩)))
            first
              | (go_simp; done)
              | (go_simp; rfl)
          · intro n f A u K hfr hn hl hS hv hK
            have hn2 : n < 18 := hn
            obtain ⟨q, hq, H⟩ := hS.1 (hl.2.2 15 (by decide))
            have hN : ∀ u' q', q' ≤ q + 1 → SecSt g q' w u' B 3 s vb (.slice fa s.fix.length fc) → S (n + 1) (setl f 14) u' := fun u' q' h1 h2 => ⟨fun _ => ⟨q', by omega, h2⟩, fun h => by rw [setl_ne (by decide), hl.2.2 17 (by decide)] at h; cases h⟩
            obtain ⟨a, b, h0⟩ : ∃ a b, A.tmps.getD 147 undef = .agg #[.int .i64 0, .int .i64 1, .int .i64 a, .int .i64 b] := hv.1
            have h0' : (A.tmps[147]?).getD undef = .agg #[.int .i64 0, .int .i64 1, .int .i64 a, .int .i64 b] := by simpa using h0
            have hz := H.blk.lt
            refine owe_run rfl (wp_val (v := .slice (some ⟨u.heap.size, 0, none⟩) 1 1) (w' := u.alloc (.cells #[.int .i64 0, .int .i64 1, .int .i64 a, .int .i64 b] 59)) ?_ (hK _ _ (hN _ q (by omega) (H.alloc _)) (fun j x hj h => hst 14 (by decide) j u _ x hj (World.grownBy_alloc u _ _) h) (fun _ => ⟨_, a, b, rfl, hz, Blk.new u _ _⟩)))
            first
              | (go_simp; done)
              | (go_simp; rfl)
          · intro n f A u K hfr hn hl hS hv hK
            have hn2 : n < 18 := hn
            obtain ⟨q, hq, H⟩ := hS.1 hl.1
            obtain ⟨h0, ⟨kk, a, b, h1, hk1, hk2⟩, -⟩ : A.tmps.getD 135 undef = .slice fa s.fix.length fc ∧ (∃ k a b, A.tmps.getD 148 undef = .slice (some ⟨k, 0, none⟩) 1 1 ∧ B < k ∧ Blk u k #[.int .i64 0, .int .i64 1, .int .i64 a, .int .i64 b] 59) ∧ True := ⟨hv.1, hv.2.1, trivial⟩
            have hfl := H.fl
            have hbl := H.blk.lt
            obtain ⟨v', u', hrun, hown, hgr, hpl⟩ := run_append_own u 50 50 50 (B + 1) 59 i0 _ Try.underlying50 hi hz0 (by rw [hz1]; rfl) (by rw [hz1]; decide) _ _ _ (by rw [hz1]; exact H.ownf) (.slice (some ⟨kk, 0, none⟩) 1 1) 1 [.int .i64 0, .int .i64 1, .int .i64 a, .int .i64 b] (by rw [hz1]; exact src_blk Try.underlying50 u kk [.int .i64 0, .int .i64 1, .int .i64 a, .int .i64 b] 4 1 1 59 hk2 rfl (fun x hx => by simp only [List.mem_cons, List.not_mem_nil, or_false] at hx; rcases hx with rfl | rfl | rfl | rfl <;> rfl)) (by unfold maxLen; omega) (by rw [hz2]; omega) (by omega)
            rw [hz1] at hown
            have hown2 : OwnF u' (B + 1) v' (s.fix ++ [(0, 1, a, b)]) := by
              unfold OwnF
              rw [List.length_append, fixCells_append]
              exact hown
            have H2 := H.grownF zg hgr hown2 hpl
            have HB2 : Blk u' B (secCells s vb (.slice fa s.fix.length fc)) 52 := H.blk.grown hgr (fun e => by have := owns_block H.ownf B e.symm; omega)
            obtain ⟨va, vc, hv'⟩ := owns_form hown2
            refine owe_run rfl (wp_val (v := v') (w' := u') ?_ (hK _ _ ⟨fun h => (by rw [setl_at] at h; cases h), fun h => (by rw [setl_ne (by decide), hl.2.2 17 (by decide)] at h; cases h)⟩ (fun j x hj h => ?_) (fun _ => ⟨q, _, va, _, vc, hv', (by omega : q ≤ q6 + 18), H2, HB2⟩)))
            · simp at h0 h1 hrun
              simp [execOp, resolve, invoke, builtin, Act.eval, h0, h1, hrun]
            · rcases j with _ | _ | _ | _ | _ | _ | _ | _ | _ | _ | _ | _ | _ | _ | _ | _ | _ | _ | j
              all_goals first
                | exact trivial
                | exact absurd hj (by decide)
          · intro n f A u K hfr hn hl hS hv hK
            have e4 : A.tmps.getD 7 undef = .pointer (some ⟨B, 0, none⟩) := hfr 7 (not_dst (by kernel_rfl))
            have e5 : (A.tmps[7]?).getD undef = .pointer (some ⟨B, 0, none⟩) := by simpa using e4
            refine owe_run rfl (wp_val (v := .pointer (some ⟨B, 5, none⟩)) ?_ (hK _ _ ⟨fun h => (by rw [setl_ne (by decide), hl.2.1 15 (by decide)] at h; cases h), fun h => (by rw [setl_ne (by decide), hl.2.2 17 (by decide)] at h; cases h)⟩ (fun _ _ _ h => h) (fun _ => rfl)))
            first
              | (go_simp; done)
              | (go_simp; rfl)
          · intro n f A u K hfr hn hl hS hv hK
            obtain ⟨⟨q, s', va, vl, vc, h0, hq, H2, HB2⟩, h1, -⟩ : (∃ q s' va vl vc, A.tmps.getD 149 undef = .slice va vl vc ∧ q ≤ q6 + 18 ∧ SecSt g q w (u.setCell ⟨B, 5, none⟩ (A.tmps.getD 149 undef)) B 4 s' vb (A.tmps.getD 149 undef) ∧ Blk u B (secCells s vb (.slice fa s.fix.length fc)) 52) ∧ A.tmps.getD 150 undef = .pointer (some ⟨B, 5, none⟩) ∧ True := ⟨hv.1, hv.2.1, trivial⟩
            rw [h0] at H2
            have h0' : (A.tmps[149]?).getD undef = .slice va vl vc := by simpa using h0
            have h1' : (A.tmps[150]?).getD undef = .pointer (some ⟨B, 5, none⟩) := by simpa using h1
            have c5 := HB2.cell 5
            have f5 := HB2.frozen 5
            simp at c5
            refine owe_run rfl (wp_skp (w' := u.setCell ⟨B, 5, none⟩ (.slice va vl vc)) ?_ (hK undef _ ⟨fun h => (by rw [setl_ne (by decide), hl.2.1 15 (by decide)] at h; cases h), fun _ => ⟨q, s', _, by omega, H2⟩⟩ (fun j x hj h => ?_) (fun h => absurd rfl h)))
            · first
                | (go_simp; done)
                | (go_simp; rfl)
            · rcases j with _ | _ | _ | _ | _ | _ | _ | _ | _ | _ | _ | _ | _ | _ | _ | _ | _ | _ | j
              all_goals first
                | exact trivial
                | exact absurd hj (by decide)
        case hq =>
          intro gg u hS hv
          obtain ⟨q, s', vf', hq, H9⟩ := hS.2 rfl
          have H9 := Lib.hid H9
          clear hv hS hst hno HS6b
          simp only [List.map, putG, List.setIfInBounds_toArray, List.set_cons_succ, List.set_cons_zero]
          go_wp2_with fail
          go_meet
          case rel => exact ⟨q, s', vb, vf', by omega, H9⟩
      · have hmk : ∀ u, (Instr.makeSlice 22 (.int .i64 49) (.int .i64 49)).run Try.prog u = .ok (.slice (some ⟨u.heap.size, 0, none⟩) 49 49) (u.alloc (.cells #[.int .u8 0, .int .u8 0, .int .u8 0, .int .u8 0, .int .u8 0, .int .u8 0, .int .u8 0, .int .u8 0, .int .u8 0, .int .u8 0, .int .u8 0, .int .u8 0, .int .u8 0, .int .u8 0, .int .u8 0, .int .u8 0, .int .u8 0, .int .u8 0, .int .u8 0, .int .u8 0, .int .u8 0, .int .u8 0, .int .u8 0, .int .u8 0, .int .u8 0, .int .u8 0, .int .u8 0, .int .u8 0, .int .u8 0, .int .u8 0, .int .u8 0, .int .u8 0, .int .u8 0, .int .u8 0, .int .u8 0, .int .u8 0, .int .u8 0, .int .u8 0, .int .u8 0, .int .u8 0, .int .u8 0, .int .u8 0, .int .u8 0, .int .u8 0, .int .u8 0, .int .u8 0, .int .u8 0, .int .u8 0, .int .u8 0] 5)) := fun _ => by kernel_rfl
        have zB := HS6.out.blk.lt
        have hlo : OwnB (w6.alloc (.cells #[.int .u8 0, .int .u8 0, .int .u8 0, .int .u8 0, .int .u8 0, .int .u8 0, .int .u8 0, .int .u8 0, .int .u8 0, .int .u8 0, .int .u8 0, .int .u8 0, .int .u8 0, .int .u8 0, .int .u8 0, .int .u8 0, .int .u8 0, .int .u8 0, .int .u8 0, .int .u8 0, .int .u8 0, .int .u8 0, .int .u8 0, .int .u8 0, .int .u8 0, .int .u8 0, .int .u8 0, .int .u8 0, .int .u8 0, .int .u8 0, .int .u8 0, .int .u8 0, .int .u8 0, .int .u8 0, .int .u8 0, .int .u8 0, .int .u8 0, .int .u8 0, .int .u8 0, .int .u8 0, .int .u8 0, .int .u8 0, .int .u8 0, .int .u8 0, .int .u8 0, .int .u8 0, .int .u8 0, .int .u8 0, .int .u8 0] 5)) (B + 1) (.slice (some ⟨w6.heap.size, 0, none⟩) 49 49) (List.replicate 49 (0 : UInt8)) :=
          owns_mono (World.ownsRow_lit w6 #[Value.int .u8 0, Value.int .u8 0, Value.int .u8 0, Value.int .u8 0, Value.int .u8 0, Value.int .u8 0, Value.int .u8 0, Value.int .u8 0, Value.int .u8 0, Value.int .u8 0, Value.int .u8 0, Value.int .u8 0, Value.int .u8 0, Value.int .u8 0, Value.int .u8 0, Value.int .u8 0, Value.int .u8 0, Value.int .u8 0, Value.int .u8 0, Value.int .u8 0, Value.int .u8 0, Value.int .u8 0, Value.int .u8 0, Value.int .u8 0, Value.int .u8 0, Value.int .u8 0, Value.int .u8 0, Value.int .u8 0, Value.int .u8 0, Value.int .u8 0, Value.int .u8 0, Value.int .u8 0, Value.int .u8 0, Value.int .u8 0, Value.int .u8 0, Value.int .u8 0, Value.int .u8 0, Value.int .u8 0, Value.int .u8 0, Value.int .u8 0, Value.int .u8 0, Value.int .u8 0, Value.int .u8 0, Value.int .u8 0, Value.int .u8 0, Value.int .u8 0, Value.int .u8 0, Value.int .u8 0, Value.int .u8 0] 49 (Nat.le_refl _) (by decide) rfl) (by omega)
        have HS7 := Lib.hid ((HS6.out.alloc _).setB zg hlo (by decide) (fun k hk e => by
          simp only [Value.ownBlock, Option.some.injEq] at hk
          have := (World.ownsRow.lt HS6.out.ownf k e).2
          omega))
        have HS8 := HS7.out
        rw [World.setCell_alloc_past _ _ _ _ zB] at HS8
        have HS7 := Lib.hid HS8
        clear hlo HS6 HS8
        go_wp2_with fail
        go_meet
        case rel => exact ⟨_, _, _, _, (by omega : q5 + 1 ≤ p + 95), HS7.out.more (by decide)⟩
    case rest =>
      obtain ⟨q, s, vb, vf, hq, HS⟩ := hcut
      have cT := HS.out.top.cell
      have fT := HS.out.top.frozen
      have cB := HS.out.cells
      have zT := HS.out.top.lt
      obtain ⟨ba3, bc3, rfl⟩ := owns_form HS.out.own
      obtain ⟨fa3, fc3, rfl⟩ := owns_form HS.out.ownf
      have HD := Lib.hid (HS.out.done zg (by decide) (.string s.name) (.int .i64 s.kind) (.int .i64 s.align) (.slice ba3 s.bytes.length bc3) (.int .i64 s.size) (.slice fa3 s.fix.length fc3))
      go_wp2_with fail
      refine bodyPost_ret (v := secV s (.slice ba3 s.bytes.length bc3) (.slice fa3 s.fix.length fc3)) (by simp [results, Try.results50, go_sem, cT, zT]) rfl ⟨_, q, rfl, HD.out.1, by omega, HD.out.2⟩
end Go.Proofs.Ytkefbhidfbnipaa
