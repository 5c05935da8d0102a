/- What the statements on sections draw. What the statements draw: symbols. What the statements on symbols draw. -/
import Derived.Test.YtkefbhidfbnipaaDrawS
import Derived.Test.YtkefbhidfbnipaaObjX
namespace Go.Proofs.Ytkefbhidfbnipaa
/-! DrawU -/
open Go.ChangeShapes Go.WideShapes Go.ChangeAt Go.RowKit Go.Joins
set_option linter.unusedSimpArgs false
set_option linter.unusedVariables false
set_option maxRecDepth 100000
/-- A section, written over the cells of a block. -/
@[reducible] def store6 (w : World) (T : Nat) (a b c d e f : Value) : World := (((((w.setCell ⟨T, 0, none⟩ a).setCell ⟨T, 1, none⟩ b).setCell ⟨T, 2, none⟩ c).setCell ⟨T, 3, none⟩ d).setCell ⟨T, 4, none⟩ e).setCell ⟨T, 5, none⟩ f
theorem owns_store6 {w : World} {base : Nat} {t : TypeId} {size : Nat} {v : Value} {n : Nat} {xs : List Value} (h : w.ownsRow base t size v n xs) {T : Nat} (hT : T < base) (a b c d e f : Value) : (store6 w T a b c d e f).ownsRow base t size v n xs :=
  ownsRow_setCell_below (ownsRow_setCell_below (ownsRow_setCell_below (ownsRow_setCell_below (ownsRow_setCell_below (ownsRow_setCell_below h (a := ⟨T, 0, none⟩) hT a) (a := ⟨T, 1, none⟩) hT b) (a := ⟨T, 2, none⟩) hT c) (a := ⟨T, 3, none⟩) hT d) (a := ⟨T, 4, none⟩) hT e) (a := ⟨T, 5, none⟩) hT f
theorem From.store6 {B : Nat} {a0 w : World} (h : From B a0 w) {T : Nat} (hT : B ≤ T) (a b c d e f : Value) : From B a0 (store6 w T a b c d e f) :=
  (((((h.setCell (p := ⟨T, 0, none⟩) hT a).setCell (p := ⟨T, 1, none⟩) hT b).setCell (p := ⟨T, 2, none⟩) hT c).setCell (p := ⟨T, 3, none⟩) hT d).setCell (p := ⟨T, 4, none⟩) hT e).setCell (p := ⟨T, 5, none⟩) hT f
/-- A section that can be read. -/
def ReadSec (w : World) (v : Value) : Prop := ∃ s vb vf, v = secV s vb vf ∧ BytesAt w vb s.bytes ∧ FixAt w vf s.fix ∧ s.name.size ≤ 9 ∧ s.bytes.length ≤ 49 ∧ s.fix.length ≤ 4 ∧ -1 ≤ s.size ∧ s.size ≤ 49
def ReadSecMany (w : World) (v : Value) : Prop := ∃ x m, v = .tuple #[x, .int .i64 m] ∧ ReadSec w x
/-! DrawY -/
open Go.ChangeShapes Go.WideShapes Go.ChangeAt Go.RowKit Go.Joins
set_option linter.unusedSimpArgs false
set_option linter.unusedVariables false
set_option maxRecDepth 100000
@[reducible] def symCells (s : SymD) : Array Value := #[.string s.name, .int .i64 s.bind, .int .i64 s.whr, .int .i64 s.val]
@[reducible] def symZero : Array Value := #[.string ⟨#[]⟩, .int .i64 0, .int .i64 0, .int .i64 0]
theorem OwnSecs.drawn {w w' : World} {base g : Nat} {v : Value} {ls : List (SecD × Value × Value)} (h : OwnSecs w base v ls) (hg : w.grownBy w' (some g)) (hb : g < base) : OwnSecs w' base v ls :=
  ⟨owns_drawn h.row hg hb, fun x hx => ⟨owns_drawn (h.each x hx).1 hg hb, owns_drawn (h.each x hx).2 hg hb⟩, h.nodup⟩
theorem OwnSecs.alloc {w : World} {base : Nat} {v : Value} {ls : List (SecD × Value × Value)} (h : OwnSecs w base v ls) (o : Obj) : OwnSecs (w.alloc o) base v ls :=
  ⟨h.row.alloc o, fun x hx => ⟨(h.each x hx).1.alloc o, (h.each x hx).2.alloc o⟩, h.nodup⟩
/-- A symbol that is being drawn: in block B. -/
structure SymSt (g q : Nat) (w0 u : World) (B : Nat) (s : SymD) : Prop where
  rd : Drawn g q w0 u
  top : Blk u w0.heap.size symZero 57
  blk : Blk u B (symCells s) 57
  lt : w0.heap.size < B
  nm : s.name.size ≤ 9
theorem SymSt.next {g q q' : Nat} {w0 u u' : World} {B : Nat} {s : SymD} (h : SymSt g q w0 u B s) (hg : g < w0.heap.size) (hD : Drawn g q' u u') : SymSt g q' w0 u' B s :=
  have h1 := h.lt
  ⟨h.rd.next hD, h.top.drawn hD (by omega), h.blk.drawn hD (by omega), h.lt, h.nm⟩
theorem SymSt.call {g q : Nat} {w0 u u' : World} {B : Nat} {s : SymD} (h : SymSt g q w0 u B s) (hb : Below u.heap.size u u') : SymSt g q w0 u' B s :=
  ⟨h.rd.below hb, h.top.call hb, h.blk.call hb, h.lt, h.nm⟩
theorem SymSt.set {g q : Nat} {w0 u : World} {B : Nat} {s s' : SymD} (h : SymSt g q w0 u B s) (hg : g < w0.heap.size) (j : Nat) (x : Value) (hc : (symCells s).setIfInBounds j x = symCells s') (hn : s'.name.size ≤ 9) : SymSt g q w0 (u.setCell ⟨B, j, none⟩ x) B s' :=
  have h1 := h.lt
  ⟨h.rd.set (by omega) hg j x, h.top.other (p := ⟨B, j, none⟩) (by show B ≠ _; omega) x, hc ▸ h.blk.set x, h.lt, hn⟩
def SomeSym (_ : World) (v : Value) : Prop := ∃ s, v = symV s ∧ s.name.size ≤ 9
/-- Sections that are small. -/
def SmallSecs (ls : List (SecD × Value × Value)) : Prop := ∀ x ∈ ls, x.1.name.size ≤ 9 ∧ x.1.bytes.length ≤ 49 ∧ x.1.fix.length ≤ 4 ∧ -1 ≤ x.1.size ∧ x.1.size ≤ 49
set_option maxHeartbeats 2000000 in
theorem l20Symbol_any (w : World) (g p : Nat) (h : RdAt w g p) (hp : p ≤ 1072000000) (base : Nat) (vs : Value) (ls : List (SecD × Value × Value)) (hO : OwnSecs w base vs ls) (hgb : g < base) (hlen : ls.length ≤ 100) (hsm : SmallSecs ls) (n : Int) (h0 : 0 ≤ n) (hn : n ≤ 1000) :
    Calls Try.prog 51 #[.pointer (some ⟨g, 0, none⟩), vs, .int .i64 n] w (DrawE SomeSym 40 w g p) := by
  have zg := h.lt
  have HR := Lib.hid h
  have HL := Lib.hid hO
  have HM := Lib.hid hsm
  obtain ⟨sa, sc, rfl⟩ := owns_form hO.row
  clear h hO hsm
  go_enter Try.func51, Try.ntmps51
  go_wp2_with fail
  refine (l20Name_any _ g p (HR.out.alloc _) (by omega) 0 (by decide) (by decide)).mono ?_
  rintro e w1 ⟨_, q1, rfl, ⟨nm, rfl, hnm⟩, hq1, hD⟩
  have HT1 := Lib.hid ((Blk.new w symZero 57).drawn hD (by omega))
  have HD1 := Lib.hid (((Drawn.start HR.out).alloc _).next hD)
  clear hD HR
  go_wp2_with fail
  refine (pick_over w1 _ g q1 (Drawn.start HD1.out.rd) (by omega) _ _ 4 (by decide) (by decide)).mono ?_
  rintro e w3 ⟨y, rfl, hy0', hy1', hD, hB⟩
  obtain ⟨z, hz0', hz1', hc⟩ := lit_int hB y hy0' hy1' 0 2 rfl
  have HT3 := Lib.hid (HT1.out.drawn hD (by omega))
  have HD3 := Lib.hid (HD1.out.next hD)
  have ltB : w.heap.size < w3.heap.size := HT3.out.lt
  clear hD hB HT1 HD1
  go_upto_region 4 with fail
  have S4 : SymSt g (q1 + 1) w (w3.alloc (.cells (symCells ⟨nm, z, 0, 0⟩) 57)) w3.heap.size ⟨nm, z, 0, 0⟩ :=
    ⟨HD3.out.alloc _, HT3.out.alloc _, Blk.new _ _ _, ltB, hnm⟩
  have HS4 := Lib.hid S4
  generalize hw4 : w3.alloc (.cells (symCells ⟨nm, z, 0, 0⟩) 57) = w4 at HS4 ⊢
  clear hw4 S4 HT3 HD3 hc
  generalize w3.heap.size = B at *
  rename_i K1 h1 K2 h2
  have hK : ∀ (q : Nat) (s : SymD) (wx : World) {u8 u9 u10 u11 u12 u13 u14 u15 u16 u17 u18 u19 u20 u21 u22 u23 u24 u25 u26 u27 u28 u29 u30 u31 u32 u33 u34 u35 u36 u37 u38 u39 u40 u41 u42 u43 u44 u45 u46 u47 u48 u49 u50 u51 u52 u53 u54 u55 u56 u57 u58 u59 u60 u61 u62 u63 u64 u65 u66 u67 u68 u69 u70 u71 u72 u73 u74 u75 u76 u77 u78 u79 u80 u81 u82 u83 u84 u85 u86 u87 u88 u89 u90 u91 u92 u93 u94 u95 u96 u97 : Value}, q ≤ p + 20 → SymSt g q w wx B s → K1 { tmps := #[.pointer (some ⟨g, 0, none⟩), .slice sa ls.length sc, .int .i64 n, undef, undef, undef, .pointer (some ⟨w.heap.size, 0, none⟩), .pointer (some ⟨B, 0, none⟩), u8, u9, u10, u11, u12, u13, u14, u15, u16, u17, u18, u19, u20, u21, u22, u23, u24, u25, u26, u27, u28, u29, u30, u31, u32, u33, u34, u35, u36, u37, u38, u39, u40, u41, u42, u43, u44, u45, u46, u47, u48, u49, u50, u51, u52, u53, u54, u55, u56, u57, u58, u59, u60, u61, u62, u63, u64, u65, u66, u67, u68, u69, u70, u71, u72, u73, u74, u75, u76, u77, u78, u79, u80, u81, u82, u83, u84, u85, u86, u87, u88, u89, u90, u91, u92, u93, u94, u95, u96, u97], defers := [] } wx := by
    intro q s wx u8 u9 u10 u11 u12 u13 u14 u15 u16 u17 u18 u19 u20 u21 u22 u23 u24 u25 u26 u27 u28 u29 u30 u31 u32 u33 u34 u35 u36 u37 u38 u39 u40 u41 u42 u43 u44 u45 u46 u47 u48 u49 u50 u51 u52 u53 u54 u55 u56 u57 u58 u59 u60 u61 u62 u63 u64 u65 u66 u67 u68 u69 u70 u71 u72 u73 u74 u75 u76 u77 u78 u79 u80 u81 u82 u83 u84 u85 u86 u87 u88 u89 u90 u91 u92 u93 u94 u95 u96 u97 hq hs
    have HS := Lib.hid hs
    clear HS4 hs h2
    refine h1 _ _ ?_
    go_wp2_with fail
    refine (odd_any wx g q HS.out.rd.rd (by omega) n h0 (by omega)).mono ?_
    rintro e w5 ⟨_, q5, rfl, ⟨bo, rfl⟩, hq5, hD⟩
    have HS5 := Lib.hid (HS.out.next zg hD)
    clear hD HS
    go_upto_if 62 with fail
    go_cut [] (fun wx => ∃ q s, q ≤ p + 30 ∧ Hid (SymSt g q w wx B s))
    case first =>
      cases bo
      · go_wp2_with fail
        go_meet
        case rel => exact ⟨q5, s, by omega, HS5⟩
      go_wp2_with fail
      refine (pick_in w5 _ g _ (Drawn.start HS5.out.rd.rd) (by omega) 5 (by decide) (by decide)).mono ?_
      rintro e w6 ⟨y, rfl, hy0, hy1, hD⟩
      have H6 := Lib.hid (HS5.out.next zg hD)
      have cB := H6.out.blk.cell
      have fB := H6.out.blk.frozen
      clear hD HS5
      have hy : y = 0 ∨ y = 1 ∨ y = 2 ∨ y = 3 ∨ y = 4 := by omega
      clear hy0 hy1
      rcases hy with rfl | rfl | rfl | rfl | rfl
      · go_wp2_with fail
        refine (l20Name_any w6 g _ H6.out.rd.rd (by omega) 1 (by decide) (by decide)).mono ?_
        rintro e w7 ⟨_, q7, rfl, ⟨nm2, rfl, hnm2⟩, hq7, hD⟩
        have H7 := Lib.hid (H6.out.next zg hD)
        have cB := H7.out.blk.cell
        have fB := H7.out.blk.frozen
        clear hD H6
        go_wp2_with fail
        go_meet
        case rel => exact ⟨q7, { s with name := nm2 }, by omega, H7.out.set zg 0 _ (s' := { s with name := nm2 }) rfl hnm2⟩
      · go_wp2_with fail
        refine (pick_over w6 _ g _ (Drawn.start H6.out.rd.rd) (by omega) _ _ 2 (by decide) (by decide)).mono ?_
        rintro e w7 ⟨z2, rfl, hz0, hz1, hD, hB⟩
        obtain ⟨u, hu, hc⟩ := lit_at hB z2 (by omega) (by show z2 < 2; omega)
        obtain ⟨sz, rfl⟩ : ∃ sz, u = .int .i64 sz := by
          simp only [List.mem_cons, List.not_mem_nil, or_false] at hu
          rcases hu with rfl | rfl <;> exact ⟨_, rfl⟩
        have H7 := Lib.hid (H6.out.next zg hD)
        have cB := H7.out.blk.cell
        have fB := H7.out.blk.frozen
        clear hD hB hu H6
        go_wp2_with fail
        go_meet
        case rel => exact ⟨_, { s with bind := sz }, (by omega : q5 + 1 + 1 ≤ p + 30), H7.out.set zg 1 _ (s' := { s with bind := sz }) rfl H7.out.nm⟩
      · go_wp2_with fail
        refine (pick_over w6 _ g _ (Drawn.start H6.out.rd.rd) (by omega) _ _ 2 (by decide) (by decide)).mono ?_
        rintro e w7 ⟨z2, rfl, hz0, hz1, hD, hB⟩
        obtain ⟨u, hu, hc⟩ := lit_at hB z2 (by omega) (by show z2 < 2; omega)
        obtain ⟨sz, rfl⟩ : ∃ sz, u = .int .i64 sz := by
          simp only [List.mem_cons, List.not_mem_nil, or_false] at hu
          rcases hu with rfl | rfl <;> exact ⟨_, rfl⟩
        have H7 := Lib.hid (H6.out.next zg hD)
        have cB := H7.out.blk.cell
        have fB := H7.out.blk.frozen
        clear hD hB hu H6
        go_wp2_with fail
        go_meet
        case rel => exact ⟨_, { s with whr := sz }, (by omega : q5 + 1 + 1 ≤ p + 30), H7.out.set zg 2 _ (s' := { s with whr := sz }) rfl H7.out.nm⟩
      · go_wp2_with fail
        refine (pick_over w6 _ g _ (Drawn.start H6.out.rd.rd) (by omega) _ _ 2 (by decide) (by decide)).mono ?_
        rintro e w7 ⟨z2, rfl, hz0, hz1, hD, hB⟩
        obtain ⟨u, hu, hc⟩ := lit_at hB z2 (by omega) (by show z2 < 2; omega)
        obtain ⟨sz, rfl⟩ : ∃ sz, u = .int .i64 sz := by
          simp only [List.mem_cons, List.not_mem_nil, or_false] at hu
          rcases hu with rfl | rfl <;> exact ⟨_, rfl⟩
        have H7 := Lib.hid (H6.out.next zg hD)
        have cB := H7.out.blk.cell
        have fB := H7.out.blk.frozen
        clear hD hB hu H6
        go_wp2_with fail
        go_meet
        case rel => exact ⟨_, { s with val := sz }, (by omega : q5 + 1 + 1 ≤ p + 30), H7.out.set zg 3 _ (s' := { s with val := sz }) rfl H7.out.nm⟩
      · have h120 : (⟨#[120]⟩ : ByteArray).size ≤ 9 := by decide
        go_wp2_with fail
        go_meet
        case rel => exact ⟨_, ⟨⟨#[120]⟩, 0, -1, 0⟩, (by omega : q5 + 1 ≤ p + 30), (((H6.out.set zg 0 (.string ⟨#[120]⟩) (s' := { s with name := ⟨#[120]⟩ }) rfl h120).set zg 1 (.int .i64 0) (s' := { s with name := ⟨#[120]⟩, bind := 0 }) rfl h120).set zg 2 (.int .i64 (-1)) (s' := { s with name := ⟨#[120]⟩, bind := 0, whr := -1 }) rfl h120).set zg 3 (.int .i64 0) (s' := ⟨⟨#[120]⟩, 0, -1, 0⟩) rfl h120⟩
    case rest =>
      obtain ⟨q, s, hq, HS⟩ := hcut
      have cT := HS.out.top.cell
      have fT := HS.out.top.frozen
      have cB := HS.out.blk.cell
      have zT := HS.out.top.lt
      have HD := Lib.hid ((((HS.out.rd.set (Nat.le_refl _) zg 0 (.string s.name)).set (Nat.le_refl _) zg 1 (.int .i64 s.bind)).set (Nat.le_refl _) zg 2 (.int .i64 s.whr)).set (Nat.le_refl _) zg 3 (.int .i64 s.val))
      have HN := Lib.hid HS.out.nm
      go_wp2_with fail
      refine bodyPost_ret (v := symV s) (by simp [results, Try.results51, go_sem, cT, zT]) rfl ⟨_, q, rfl, ⟨s, rfl, HN.out⟩, by omega, HD.out⟩
  clear h1
  go_wp2_with fail
  refine (pick_in w4 _ g _ (Drawn.start HS4.out.rd.rd) (by omega) 3 (by decide) (by decide)).mono ?_
  rintro e w5 ⟨a, rfl, ha0, ha1, hD⟩
  have HS5 := Lib.hid (HS4.out.next zg hD)
  clear hD HS4
  have cB := HS5.out.blk.cell
  have fB := HS5.out.blk.frozen
  by_cases hx : a = 0
  · subst hx
    go_wp2_with fail
    all_goals first
      | exact hK _ _ _ (by omega : q1 + 1 + 1 ≤ p + 20) ((HS5.out.set zg 2 (.int .i64 (-1)) (s' := ⟨nm, z, -1, 0⟩) rfl hnm).set zg 1 (.int .i64 1) (s' := ⟨nm, 1, -1, 0⟩) rfl hnm)
      | exact hK _ _ _ (by omega : q1 + 1 + 1 ≤ p + 20) ((HS5.out.set zg 2 (.int .i64 (-1)) (s' := ⟨nm, z, -1, 0⟩) rfl hnm).set zg 1 (.int .i64 z) (s' := ⟨nm, z, -1, 0⟩) rfl hnm)
  have ea : (a == 0) = false := by simpa using hx
  clear hx
  go_wp2_with fail
  refine (pick_in w5 _ g _ (Drawn.start HS5.out.rd.rd) (by omega) 6 (by decide) (by decide)).mono ?_
  rintro e w6 ⟨b, rfl, hb0, hb1, hD⟩
  have HS6 := Lib.hid (HS5.out.next zg hD)
  clear hD HS5 cB fB
  have cB := HS6.out.blk.cell
  have fB := HS6.out.blk.frozen
  by_cases hfx : b = 0 ∨ ls.length = 0
  · have hcond : (b == 0) = true ∨ ((b == 0) = false ∧ ((ls.length : Int) == 0) = true) := by
      by_cases hb : b = 0
      · left; simpa using hb
      · right; exact ⟨by simpa using hb, by simpa using (hfx.resolve_left hb)⟩
    clear hfx
    rcases hcond with e0 | ⟨e0, e1⟩
    · go_wp2_with fail
      have HS7 := Lib.hid (HS6.out.set zg 2 (.int .i64 (-2)) (s' := ⟨nm, z, -2, 0⟩) rfl hnm)
      generalize w6.setCell ⟨B, 2, none⟩ (.int .i64 (-2)) = w7 at HS7 ⊢
      clear HS6 cB fB
      refine (pick_in w7 _ g _ (Drawn.start HS7.out.rd.rd) (by omega) 256 (by decide) (by decide)).mono ?_
      rintro e w8 ⟨c, rfl, hc0, hc1, hD⟩
      have HS8 := Lib.hid (HS7.out.next zg hD)
      clear hD HS7
      go_wp2_with fail
      refine (pick_over w8 _ g _ (Drawn.start HS8.out.rd.rd) (by omega) _ _ 6 (by decide) (by decide)).mono ?_
      rintro e w9 ⟨d, rfl, hd0, hd1, hD, hB⟩
      obtain ⟨u, hu, hc⟩ := lit_at hB (d / 5) (by omega) (by show d / 5 < 2; omega)
      obtain ⟨sz, rfl⟩ : ∃ sz, u = .int .i64 sz := by
        simp only [List.mem_cons, List.not_mem_nil, or_false] at hu
        rcases hu with rfl | rfl <;> exact ⟨_, rfl⟩
      have HS9 := Lib.hid (HS8.out.next zg hD)
      have cB := HS9.out.blk.cell
      have fB := HS9.out.blk.frozen
      have d5 : d.tdiv 5 = d / 5 := Int.tdiv_eq_ediv_of_nonneg hd0
      have i1 : d / 5 < 2 := by omega
      have i0' : 0 ≤ d / 5 := by omega
      clear hD hB hu HS8
      go_wp2_with fail
      exact hK _ _ _ (by omega : q1 + 1 + 1 + 1 + 1 + 1 ≤ p + 20) (HS9.out.set zg 3 _ (s' := ⟨nm, z, -2, sz⟩) rfl hnm)
    · go_wp2_with fail
      have HS7 := Lib.hid (HS6.out.set zg 2 (.int .i64 (-2)) (s' := ⟨nm, z, -2, 0⟩) rfl hnm)
      generalize w6.setCell ⟨B, 2, none⟩ (.int .i64 (-2)) = w7 at HS7 ⊢
      clear HS6 cB fB
      refine (pick_in w7 _ g _ (Drawn.start HS7.out.rd.rd) (by omega) 256 (by decide) (by decide)).mono ?_
      rintro e w8 ⟨c, rfl, hc0, hc1, hD⟩
      have HS8 := Lib.hid (HS7.out.next zg hD)
      clear hD HS7
      go_wp2_with fail
      refine (pick_over w8 _ g _ (Drawn.start HS8.out.rd.rd) (by omega) _ _ 6 (by decide) (by decide)).mono ?_
      rintro e w9 ⟨d, rfl, hd0, hd1, hD, hB⟩
      obtain ⟨u, hu, hc⟩ := lit_at hB (d / 5) (by omega) (by show d / 5 < 2; omega)
      obtain ⟨sz, rfl⟩ : ∃ sz, u = .int .i64 sz := by
        simp only [List.mem_cons, List.not_mem_nil, or_false] at hu
        rcases hu with rfl | rfl <;> exact ⟨_, rfl⟩
      have HS9 := Lib.hid (HS8.out.next zg hD)
      have cB := HS9.out.blk.cell
      have fB := HS9.out.blk.frozen
      have d5 : d.tdiv 5 = d / 5 := Int.tdiv_eq_ediv_of_nonneg hd0
      have i1 : d / 5 < 2 := by omega
      have i0' : 0 ≤ d / 5 := by omega
      clear hD hB hu HS8
      go_wp2_with fail
      exact hK _ _ _ (by omega : q1 + 1 + 1 + 1 + 1 + 1 ≤ p + 20) (HS9.out.set zg 3 _ (s' := ⟨nm, z, -2, sz⟩) rfl hnm)
  · have e0 : (b == 0) = false := by simpa using fun h => hfx (.inl h)
    have e1 : ((ls.length : Int) == 0) = false := by simpa using fun h => hfx (.inr h)
    have e2 : 0 < ls.length := by
      rcases Nat.eq_zero_or_pos ls.length with h | h
      · exact absurd (.inr h) hfx
      · exact h
    clear hfx
    go_wp2_with fail
    refine (pick_in w6 _ g _ (Drawn.start HS6.out.rd.rd) (by omega) ls.length (by omega) (by omega)).mono ?_
    rintro e w7 ⟨c, rfl, hc0, hc1, hD⟩
    obtain ⟨C, rfl⟩ := Int.eq_ofNat_of_zero_le hc0
    have HS7 := Lib.hid (HS6.out.next zg hD)
    clear hD HS6 cB fB
    have cB := HS7.out.blk.cell
    have fB := HS7.out.blk.frozen
    have hC : C < ls.length := by omega
    go_upto_region 3 with fail
    have HS8 := Lib.hid (HS7.out.set zg 2 (.int .i64 C) (s' := ⟨nm, z, C, 0⟩) rfl hnm)
    generalize w7.setCell ⟨B, 2, none⟩ (.int .i64 C) = w8 at HS8 ⊢
    clear HS7 cB fB
    have HL8 := HL.out.drawn HS8.out.rd.grow hgb
    obtain ⟨a', cap', hv, hcap, hmax, hnone, hcell⟩ := reads_form secL_length HL8.reads.1
    simp only [Value.slice.injEq] at hv
    obtain ⟨rfl, -, rfl⟩ := hv
    obtain ⟨b2, off, rfl, hcc⟩ := hcell (by omega)
    have c0 := hcc C hC 0 _ rfl
    rw [Nat.add_zero] at c0
    have c1 := hcc C hC 1 _ rfl
    have c2 := hcc C hC 2 _ rfl
    have c3 := hcc C hC 3 _ rfl
    have c4 := hcc C hC 4 _ rfl
    have c5 := hcc C hC 5 _ rfl
    have hX := HL8.reads.2 ls[C] (List.getElem_mem hC)
    have hb := HM.out ls[C] (List.getElem_mem hC)
    have HX : Hid (SecAt w8 (secV ls[C].1 ls[C].2.1 ls[C].2.2) ls[C].1) := ⟨_, _, rfl, hX.1, hX.2⟩
    have cB := HS8.out.blk.cell
    have i1 : (C : Int) < (ls.length : Int) := by omega
    obtain ⟨ba, bc, hba, -⟩ := hX.1.form
    obtain ⟨fa, fc, hfa, -⟩ := hX.2.form
    clear hcc hcell HL8 hX hnone
    generalize ls[C] = x at *
    rw [hba] at c3 HX
    rw [hfa] at c5 HX
    clear hba hfa
    go_wp2_with fail
    refine (s_SectionSize _ (secV x.1 (.slice ba x.1.bytes.length bc) (.slice fa x.1.fix.length fc)) x.1 HX.out).mono ?_
    rintro e w9 ⟨rfl, h9⟩
    have hz : -1 ≤ sectionSize x.1 ∧ sectionSize x.1 ≤ 49 := by unfold sectionSize; split <;> omega
    generalize sectionSize x.1 = sz at *
    have HS9 := Lib.hid (HS8.out.call h9)
    clear h9 HS8 cB c0 c1 c2 c3 c4 c5
    go_wp2_with fail
    refine (pick_any w9 g _ HS9.out.rd.rd (by omega) (sz + 1) (by omega)).mono ?_
    rintro e w10 ⟨d, rfl, hd0, hd1, hD⟩
    have HS10 := Lib.hid (HS9.out.next zg hD)
    have cB := HS10.out.blk.cell
    have fB := HS10.out.blk.frozen
    clear hD HS9
    go_wp2_with fail
    exact hK _ _ _ (by omega : q1 + 1 + 1 + 1 + 1 + 1 ≤ p + 20) (HS10.out.set zg 3 _ (s' := ⟨nm, z, C, d⟩) rfl hnm)
/-! DrawV -/
open Go.ChangeShapes Go.WideShapes Go.ChangeAt Go.RowKit Go.Joins
set_option linter.unusedSimpArgs false
set_option linter.unusedVariables false
set_option maxRecDepth 100000
theorem mem_blks1 {ls : List (SecD × Value × Value)} {y : SecD × Value × Value} (hy : y ∈ ls) {k : Nat} (h : y.2.1.ownBlock = some k) : k ∈ blksOf ls :=
  List.mem_flatMap.2 ⟨y, hy, List.mem_append.2 (.inl (by simp [h]))⟩
theorem mem_blks2 {ls : List (SecD × Value × Value)} {y : SecD × Value × Value} (hy : y ∈ ls) {k : Nat} (h : y.2.2.ownBlock = some k) : k ∈ blksOf ls :=
  List.mem_flatMap.2 ⟨y, hy, List.mem_append.2 (.inr (by simp [h]))⟩
theorem nodup_opt (o : Option Nat) : o.toList.Nodup := by cases o <;> simp
/-- Sections that the call owns: one more. -/
theorem OwnSecs.snoc {w w' : World} {base m : Nat} {v v' : Value} {ls : List (SecD × Value × Value)} {x : SecD × Value × Value} (h : OwnSecs w base v ls) (hlt : ∀ k ∈ v.ownBlock.toList ++ blksOf ls, k < m) (hm : base ≤ m)
    (h1 : OwnB w m x.2.1 x.1.bytes) (h2 : OwnF w m x.2.2 x.1.fix) (hne : ∀ k, x.2.1.ownBlock = some k → x.2.2.ownBlock ≠ some k)
    (hgr : w.grownBy w' v.ownBlock) (hrow : w'.ownsRow base 52 6 v' (ls.length + 1) (ls.flatMap secL ++ secL x)) (hpl : v'.ownBlock = v.ownBlock ∨ v'.ownBlock = some w.heap.size) : OwnSecs w' base v' (ls ++ [x]) := by
  have hnd := List.nodup_append.1 h.nodup
  have hv : ∀ k, v.ownBlock = some k → k < m := fun k hk => hlt k (List.mem_append.2 (.inl (by simp [hk])))
  have hb : ∀ k ∈ blksOf ls, k < m := fun k hk => hlt k (List.mem_append.2 (.inr hk))
  have hvb : ∀ k, v.ownBlock = some k → k ∉ blksOf ls := fun k hk hm => hnd.2.2 k (by simp [hk]) k hm rfl
  have hx1 : ∀ k, x.2.1.ownBlock = some k → m ≤ k ∧ k < w.heap.size := fun k hk => World.ownsRow.lt h1 k hk
  have hx2 : ∀ k, x.2.2.ownBlock = some k → m ≤ k ∧ k < w.heap.size := fun k hk => World.ownsRow.lt h2 k hk
  have hall : ∀ k ∈ blksOf ls, k < w.heap.size := fun k hk => (h.lt k (List.mem_append.2 (.inr hk))).2
  have hother : ∀ o : Option Nat, (∀ k, o = some k → v.ownBlock ≠ some k) → o = none ∨ o ≠ v.ownBlock := by
    intro o ho
    cases o with
    | none => exact .inl rfl
    | some k => exact .inr fun e => ho k rfl e.symm
  refine ⟨by rw [List.length_append, List.flatMap_append]; simpa using hrow, fun y hy => ?_, ?_⟩
  · rcases List.mem_append.1 hy with hy | hy
    · have hy2 := h.each y hy
      exact ⟨World.ownsRow.kept hy2.1 hgr (hother _ fun k hk e => hvb k e (mem_blks1 hy hk)), World.ownsRow.kept hy2.2 hgr (hother _ fun k hk e => hvb k e (mem_blks2 hy hk))⟩
    · obtain rfl := List.mem_singleton.1 hy
      exact ⟨owns_mono (World.ownsRow.kept h1 hgr (hother _ fun k hk e => by have := hx1 k hk; have := hv k e; omega)) hm, owns_mono (World.ownsRow.kept h2 hgr (hother _ fun k hk e => by have := hx2 k hk; have := hv k e; omega)) hm⟩
  · rw [blksOf_append]
    have hbx : blksOf [x] = x.2.1.ownBlock.toList ++ x.2.2.ownBlock.toList := by simp [blksOf]
    rw [hbx]
    have hxin : ∀ k ∈ x.2.1.ownBlock.toList ++ x.2.2.ownBlock.toList, m ≤ k ∧ k < w.heap.size := by
      intro k hk
      rcases List.mem_append.1 hk with hk | hk
      · exact hx1 k (by simpa using hk)
      · exact hx2 k (by simpa using hk)
    refine List.nodup_append.2 ⟨nodup_opt _, List.nodup_append.2 ⟨hnd.2.1, List.nodup_append.2 ⟨nodup_opt _, nodup_opt _, ?_⟩, ?_⟩, ?_⟩
    · intro a ha c hc e
      subst e
      exact hne a (by simpa using ha) (by simpa using hc)
    · intro a ha c hc e
      have h1 := hb a ha
      have h2 := hxin c hc
      omega
    · intro a ha c hc e
      subst e
      have ha' : v'.ownBlock = some a := by simpa using ha
      rcases hpl with hp | hp
      · rw [hp] at ha'
        rcases List.mem_append.1 hc with hc | hc
        · exact hvb a ha' hc
        · have := hxin a hc; have := hv a ha'; omega
      · rw [hp] at ha'
        simp only [Option.some.injEq] at ha'
        subst ha'
        rcases List.mem_append.1 hc with hc | hc
        · have := hall _ hc; omega
        · have := hxin _ hc; omega
theorem SmallSecs.snoc {ls : List (SecD × Value × Value)} (h : SmallSecs ls) {x : SecD × Value × Value} (hx : x.1.name.size ≤ 9 ∧ x.1.bytes.length ≤ 49 ∧ x.1.fix.length ≤ 4 ∧ -1 ≤ x.1.size ∧ x.1.size ≤ 49) : SmallSecs (ls ++ [x]) := by
  intro y hy
  rcases List.mem_append.1 hy with hy | hy
  · exact h y hy
  · obtain rfl := List.mem_singleton.1 hy; exact hx
/-- A symbol, written over the cells of a block. -/
@[reducible] def store4 (w : World) (T : Nat) (a b c d : Value) : World := (((w.setCell ⟨T, 0, none⟩ a).setCell ⟨T, 1, none⟩ b).setCell ⟨T, 2, none⟩ c).setCell ⟨T, 3, none⟩ d
theorem OwnSecs.store4 {w : World} {base : Nat} {v : Value} {ls : List (SecD × Value × Value)} (h : OwnSecs w base v ls) {T : Nat} (hT : T < base) (a b c d : Value) : OwnSecs (store4 w T a b c d) base v ls :=
  (((h.setBelow (a := ⟨T, 0, none⟩) hT a).setBelow (a := ⟨T, 1, none⟩) hT b).setBelow (a := ⟨T, 2, none⟩) hT c).setBelow (a := ⟨T, 3, none⟩) hT d
theorem From.store4 {B : Nat} {a0 w : World} (h : From B a0 w) {T : Nat} (hT : B ≤ T) (a b c d : Value) : From B a0 (store4 w T a b c d) :=
  (((h.setCell (p := ⟨T, 0, none⟩) hT a).setCell (p := ⟨T, 1, none⟩) hT b).setCell (p := ⟨T, 2, none⟩) hT c).setCell (p := ⟨T, 3, none⟩) hT d
/-- A symbol and sections. -/
def ReadSymSecs (w : World) (v : Value) : Prop := ∃ s vs l, v = .tuple #[symV s, vs] ∧ SecsAt w vs l ∧ s.name.size ≤ 9 ∧ l.length ≤ 2 ∧ ∀ x ∈ l, x.name.size ≤ 9
end Go.Proofs.Ytkefbhidfbnipaa
