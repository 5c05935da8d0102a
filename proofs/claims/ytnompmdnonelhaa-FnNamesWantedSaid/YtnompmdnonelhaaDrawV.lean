/- What the statements on symbols draw. -/
import Derived.Test.YtnompmdnonelhaaDrawY
namespace Go.Proofs.Ytnompmdnonelhaa
open Go.ChangeShapes Go.WideShapes Go.ChangeAt Go.RowKit Go.Joins
set_option linter.unusedSimpArgs false
set_option linter.unusedVariables false
set_option maxRecDepth 100000
theorem mem_blks1 {ls : List (SecD × Value × Value)} {y : SecD × Value × Value} (hy : y ∈ ls) {k : Nat} (h : y.2.1.ownBlock = some k) : k ∈ blksOf ls :=
  List.mem_flatMap.2 ⟨y, hy, List.mem_append.2 (.inl (by simp [h]))⟩
theorem mem_blks2 {ls : List (SecD × Value × Value)} {y : SecD × Value × Value} (hy : y ∈ ls) {k : Nat} (h : y.2.2.ownBlock = some k) : k ∈ blksOf ls :=
  List.mem_flatMap.2 ⟨y, hy, List.mem_append.2 (.inr (by simp [h]))⟩
theorem nodup_opt (o : Option Nat) : o.toList.Nodup := by cases o <;> simp
/-- Sections that the call owns: one more. -/
theorem OwnSecs.snoc {w w' : World} {base m : Nat} {v v' : Value} {ls : List (SecD × Value × Value)} {x : SecD × Value × Value} (h : OwnSecs w base v ls) (hlt : ∀ k ∈ v.ownBlock.toList ++ blksOf ls, k < m) (hm : base ≤ m)
    (h1 : OwnB w m x.2.1 x.1.bytes) (h2 : OwnF w m x.2.2 x.1.fix) (hne : ∀ k, x.2.1.ownBlock = some k → x.2.2.ownBlock ≠ some k)
    (hgr : w.grownBy w' v.ownBlock) (hrow : w'.ownsRow base 25 6 v' (ls.length + 1) (ls.flatMap secL ++ secL x)) (hpl : v'.ownBlock = v.ownBlock ∨ v'.ownBlock = some w.heap.size) : OwnSecs w' base v' (ls ++ [x]) := by
  have hnd := List.nodup_append.1 h.nodup
  have hv : ∀ k, v.ownBlock = some k → k < m := fun k hk => hlt k (List.mem_append.2 (.inl (by simp [hk])))
  have hb : ∀ k ∈ blksOf ls, k < m := fun k hk => hlt k (List.mem_append.2 (.inr hk))
  have hvb : ∀ k, v.ownBlock = some k → k ∉ blksOf ls := fun k hk hm => hnd.2.2 k (by simp [hk]) k hm rfl
  have hx1 : ∀ k, x.2.1.ownBlock = some k → m ≤ k ∧ k < w.heap.size := fun k hk => World.ownsRow.lt h1 k hk
  have hx2 : ∀ k, x.2.2.ownBlock = some k → m ≤ k ∧ k < w.heap.size := fun k hk => World.ownsRow.lt h2 k hk
  have hall : ∀ k ∈ blksOf ls, k < w.heap.size := fun k hk => (h.lt k (List.mem_append.2 (.inr hk))).2
  have hother : ∀ o : Option Nat, (∀ k, o = some k → v.ownBlock ≠ some k) → o = none ∨ o ≠ v.ownBlock := by
    intro o ho
    cases o with
    | none => exact .inl rfl
    | some k => exact .inr fun e => ho k rfl e.symm
  refine ⟨by rw [List.length_append, List.flatMap_append]; simpa using hrow, fun y hy => ?_, ?_⟩
  · rcases List.mem_append.1 hy with hy | hy
    · have hy2 := h.each y hy
      exact ⟨World.ownsRow.kept hy2.1 hgr (hother _ fun k hk e => hvb k e (mem_blks1 hy hk)), World.ownsRow.kept hy2.2 hgr (hother _ fun k hk e => hvb k e (mem_blks2 hy hk))⟩
    · obtain rfl := List.mem_singleton.1 hy
      exact ⟨owns_mono (World.ownsRow.kept h1 hgr (hother _ fun k hk e => by have := hx1 k hk; have := hv k e; omega)) hm, owns_mono (World.ownsRow.kept h2 hgr (hother _ fun k hk e => by have := hx2 k hk; have := hv k e; omega)) hm⟩
  · rw [blksOf_append]
    have hbx : blksOf [x] = x.2.1.ownBlock.toList ++ x.2.2.ownBlock.toList := by simp [blksOf]
    rw [hbx]
    have hxin : ∀ k ∈ x.2.1.ownBlock.toList ++ x.2.2.ownBlock.toList, m ≤ k ∧ k < w.heap.size := by
      intro k hk
      rcases List.mem_append.1 hk with hk | hk
      · exact hx1 k (by simpa using hk)
      · exact hx2 k (by simpa using hk)
    refine List.nodup_append.2 ⟨nodup_opt _, List.nodup_append.2 ⟨hnd.2.1, List.nodup_append.2 ⟨nodup_opt _, nodup_opt _, ?_⟩, ?_⟩, ?_⟩
    · intro a ha c hc e
      subst e
      exact hne a (by simpa using ha) (by simpa using hc)
    · intro a ha c hc e
      have h1 := hb a ha
      have h2 := hxin c hc
      omega
    · intro a ha c hc e
      subst e
      have ha' : v'.ownBlock = some a := by simpa using ha
      rcases hpl with hp | hp
      · rw [hp] at ha'
        rcases List.mem_append.1 hc with hc | hc
        · exact hvb a ha' hc
        · have := hxin a hc; have := hv a ha'; omega
      · rw [hp] at ha'
        simp only [Option.some.injEq] at ha'
        subst ha'
        rcases List.mem_append.1 hc with hc | hc
        · have := hall _ hc; omega
        · have := hxin _ hc; omega
theorem SmallSecs.snoc {ls : List (SecD × Value × Value)} (h : SmallSecs ls) {x : SecD × Value × Value} (hx : x.1.name.size ≤ 9 ∧ x.1.bytes.length ≤ 49 ∧ x.1.fix.length ≤ 4 ∧ -1 ≤ x.1.size ∧ x.1.size ≤ 49) : SmallSecs (ls ++ [x]) := by
  intro y hy
  rcases List.mem_append.1 hy with hy | hy
  · exact h y hy
  · obtain rfl := List.mem_singleton.1 hy; exact hx
/-- A symbol, written over the cells of a block. -/
@[reducible] def store4 (w : World) (T : Nat) (a b c d : Value) : World := (((w.setCell ⟨T, 0, none⟩ a).setCell ⟨T, 1, none⟩ b).setCell ⟨T, 2, none⟩ c).setCell ⟨T, 3, none⟩ d
theorem OwnSecs.store4 {w : World} {base : Nat} {v : Value} {ls : List (SecD × Value × Value)} (h : OwnSecs w base v ls) {T : Nat} (hT : T < base) (a b c d : Value) : OwnSecs (store4 w T a b c d) base v ls :=
  (((h.setBelow (a := ⟨T, 0, none⟩) hT a).setBelow (a := ⟨T, 1, none⟩) hT b).setBelow (a := ⟨T, 2, none⟩) hT c).setBelow (a := ⟨T, 3, none⟩) hT d
theorem From.store4 {B : Nat} {a0 w : World} (h : From B a0 w) {T : Nat} (hT : B ≤ T) (a b c d : Value) : From B a0 (store4 w T a b c d) :=
  (((h.setCell (p := ⟨T, 0, none⟩) hT a).setCell (p := ⟨T, 1, none⟩) hT b).setCell (p := ⟨T, 2, none⟩) hT c).setCell (p := ⟨T, 3, none⟩) hT d
/-- A symbol and sections. -/
def ReadSymSecs (w : World) (v : Value) : Prop := ∃ s vs l, v = .tuple #[symV s, vs] ∧ SecsAt w vs l ∧ s.name.size ≤ 9 ∧ l.length ≤ 2 ∧ ∀ x ∈ l, x.name.size ≤ 9
set_option maxHeartbeats 1000000 in
theorem drawSymbolValid_any (w : World) (v : Value) (l : List UInt8) (h : BytesAt w v l) :
    Calls Try.prog 24 #[v] w (DrawB ReadSymSecs w) := by
  obtain ⟨i0, hi, hz0, hz1, hz2⟩ := info_parts info_sec
  have H := Lib.hid h
  clear h
  go_enter Try.func24, Try.ntmps24
  go_wp2_with fail
  refine (l20Open_any _ _ l (H.out.below (Nat.le_refl _) ((From.start w).alloc _).below)).mono ?_
  rintro e w1 ⟨g, rfl, hg, hR, hb⟩
  have HF := Lib.hid (((From.start w).alloc _).call hb)
  have HT := Lib.hid ((Blk.new w symZero 34).call hb)
  have HR := Lib.hid hR
  have gT : g ≠ w.heap.size := by simp at hg; omega
  have gle : w.heap.size ≤ g := by simp at hg; omega
  have zg := hR.lt
  have zT : w.heap.size < w1.heap.size := HT.out.lt
  clear hb hR hg H
  go_wp2_with fail
  refine (pick_over w1 w1 g 0 (Drawn.start HR.out) (by decide) _ _ 3 (by decide) (by decide)).mono ?_
  rintro e w2 ⟨x, rfl, hx0, hx1, hD, hB⟩
  obtain ⟨k0, rfl⟩ := Int.eq_ofNat_of_zero_le hx0
  have hO : OwnSecs w2 w1.heap.size (.slice (some ⟨w1.heap.size, 0, none⟩) 0 0) [] := ⟨⟨rfl, .inr ⟨w1.heap.size, 0, #[], rfl, Nat.le_refl _, hB, Nat.le_refl _, Nat.zero_le _, rfl, rfl⟩⟩, fun x hx => (by cases hx), by simp [blksOf, Value.ownBlock]⟩
  have HO0 := Lib.hid hO
  have HD0 := Lib.hid hD
  have HT0 := Lib.hid (HT.out.drawn hD gT)
  clear hO hD hB HR HT
  go_wp2_with fail
  go_loopw [5, 6] (fun out i wr => ∃ (ls : List (SecD × Value × Value)) (k q : Nat), i = .int .i64 k ∧ ls.length + k ≤ 2 ∧ Hid (OwnSecs wr w1.heap.size out ls) ∧ Hid (SmallSecs ls) ∧ q ≤ 1 + 100 * ls.length ∧ Hid (Drawn g q w1 wr) ∧ Hid (Blk wr w.heap.size symZero 34)) (fun _ i _ => (intOf i).toNat)
  case atStart => exact ⟨[], k0, 1, rfl, by simp; omega, HO0, (fun x hx => by cases hx), by simp, HD0, HT0⟩
  case round =>
    clear HO0 HD0 HT0
    obtain ⟨ls, k, q, rfl, hlk, HO, HM, hq, HD, HT⟩ := hrel
    by_cases hlt : 0 < k
    · obtain ⟨oa, oc, rfl⟩ := owns_form HO.out.row
      have HLT := Lib.hid HO.out.lt
      go_wp2_with fail
      refine (l20Section_any wr g q HD.out.rd (by omega) 0 (by decide) (by decide) 0 (by decide) (by decide)).mono ?_
      rintro e w3 ⟨_, q3, rfl, ⟨s, vb, vf, rfl, ho1, ho2, hne, hn, hbl, hfl, hz0', hz1'⟩, hq3, hD⟩
      have HO3 := Lib.hid (HO.out.drawn hD.grow zg)
      have HD3 := Lib.hid (HD.out.next hD)
      have HT3 := Lib.hid (HT.out.drawn hD gT)
      have HB3 := Lib.hid ho1
      have HF3 := Lib.hid ho2
      have HN3 := Lib.hid hne
      have z3 : w1.heap.size ≤ wr.heap.size := HD.out.grow.size
      have HSM := Lib.hid (HM.out.snoc (x := (s, vb, vf)) ⟨hn, hbl, hfl, hz0', hz1'⟩)
      obtain ⟨ba, bc, rfl⟩ := owns_form ho1
      obtain ⟨fa, fc, rfl⟩ := owns_form ho2
      clear hD ho1 ho2 hne HO HD HT HM
      go_wp2_with (at_builtin; refine wpList_append_own rfl (.tmp 16) (.tmp 19) 35 35 rfl w1.heap.size 25 i0 _ 6 88 Try.underlying35 hi hz0 hz1 hz2 rfl (by decide) _ _ _ rfl (World.ownsRow.alloc HO3.out.row _) _ 1 [_, _, _, _, _, _] rfl (src_new Try.underlying35 _ [_, _, _, _, _, _] 6 1 1 _ rfl ?c0) ?c1 ?c2 ?c3 ?_)
      case c0 =>
        intro u hu
        simp only [List.mem_cons, List.not_mem_nil, or_false] at hu
        rcases hu with rfl | rfl | rfl | rfl | rfl | rfl <;> rfl
      case c1 => unfold maxLen; omega
      case c2 => omega
      case c3 => have := HD3.out.grow.size; simp; omega
      intro v' w4 hown hgr hpl
      have HO4 := Lib.hid ((HO3.out.alloc _).snoc (m := wr.heap.size) (x := (s, .slice ba s.bytes.length bc, .slice fa s.fix.length fc)) (fun k hk => (HLT.out k hk).2) z3 (HB3.out.alloc _) (HF3.out.alloc _) HN3.out hgr hown (by simpa using hpl))
      have HD4 := Lib.hid ((HD3.out.alloc _).ownGrown hgr (HO3.out.row.alloc _) zg)
      have HT4 := Lib.hid ((HT3.out.alloc _).grown hgr (fun e => by have := owns_block HO3.out.row w.heap.size e.symm; omega))
      clear hown hgr hpl HO3 HD3 HT3 HB3 HF3 HN3 HLT
      go_wp2_with fail
      go_roundw
      case rel => exact ⟨ls ++ [(s, .slice ba s.bytes.length bc, .slice fa s.fix.length fc)], k - 1, q3, by go_num, by simp; omega, HO4, HSM, by simp; omega, HD4, HT4⟩
      case measure => simp [intOf]; try omega
    · obtain rfl : k = 0 := by omega
      clear hlt
      obtain ⟨oa, oc, rfl⟩ := owns_form HO.out.row
      go_wp2_with fail
      refine (l20Symbol_any wr g q HD.out.rd (by omega) w1.heap.size _ ls HO.out zg (by omega) HM.out 2 (by decide) (by decide)).mono ?_
      rintro e w3 ⟨_, q3, rfl, ⟨s, rfl, hn⟩, hq3, hD⟩
      have HO3 := Lib.hid ((HO.out.drawn hD.grow zg).store4 zT (.string s.name) (.int .i64 s.bind) (.int .i64 s.whr) (.int .i64 s.val))
      have HT3 := Lib.hid (HT.out.drawn hD gT)
      have hF3 : From w.heap.size w w3 := (HF.out.grown HD.out.grow (by intro k hk; simp only [Option.some.injEq] at hk; omega)).drawn hD gle
      have HF3 := Lib.hid (hF3.store4 (Nat.le_refl _) (.string s.name) (.int .i64 s.bind) (.int .i64 s.whr) (.int .i64 s.val))
      have cT := HT3.out.cell
      have fT := HT3.out.frozen
      have z3 : w.heap.size < w3.heap.size := HT3.out.lt
      have HN := Lib.hid (fun x hx => by
        obtain ⟨y, hy, rfl⟩ := List.mem_map.1 hx
        exact (HM.out y hy).1 : ∀ x ∈ ls.map (·.1), x.name.size ≤ 9)
      clear hD HO HD HT HF hF3
      go_wp2_with fail
      refine bodyPost_ret (v := .tuple #[symV s, .slice oa ls.length oc]) (by simp [results, Try.results24, go_sem, cT, z3]) rfl ⟨_, rfl, ⟨s, _, ls.map (·.1), rfl, HO3.out.at, hn, by rw [List.length_map]; omega, HN.out⟩, HF3.out⟩
end Go.Proofs.Ytnompmdnonelhaa
