/- Symbols that fixups use; objects stripped: the program. Objects with some of their sections: the program. Objects with some of their sections: the program's function. Objects with some of their sections: the reference's function. -/
import Derived.Test.YthccjimckjecjaaKeepI
import Derived.Test.YthccjimckjecjaaObjValI
import Derived.Test.YthccjimckjecjaaInts
import Derived.Test.YthccjimckjecjaaStripS
namespace Go.Proofs.Ythccjimckjecjaa
/-! Uses -/
open Go.ChangeShapes Go.WideShapes Go.ChangeAt Go.RowKit Go.Joins
set_option linter.unusedSimpArgs false
set_option linter.unusedVariables false
set_option maxRecDepth 100000
theorem any_findI {α : Type} (p : α → Bool) (l : List α) : l.any p = decide (0 ≤ findI p l) := by
  by_cases h : 0 ≤ findI p l
  · rw [decide_eq_true h]; exact (findI_nonneg _ _).1 h
  · rw [decide_eq_false h]
    cases hq : l.any p with
    | false => rfl
    | true => exact absurd ((findI_nonneg _ _).2 hq) h
set_option maxHeartbeats 1000000 in
theorem indexFuncFix_any (g : FuncId) (lb : Array Value) (p : FixD → Bool) (eg : ∀ args u, (callFunc g args).run Try.prog u = .ok (.enter g args) u) (w : World) (v : Value) (l : List FixD) (h : FixAt w v l)
    (hp : ∀ x ∈ l, ∀ u, Below w.heap.size w u → Calls Try.prog g (#[fixV x] ++ lb) u fun e w' => e = .returned (.bool (p x)) ∧ Below u.heap.size u w') :
    Calls Try.prog 153 #[v, .func (.func g) #[] lb] w fun e w' => e = .returned (.int .i64 (findI p l)) ∧ Below w.heap.size w w' := by
  obtain ⟨a, cap, rfl, hcap, hmax, hnone, hcell⟩ := h.form
  have HC := Lib.hid hcell
  have HP := Lib.hid hp
  clear h hcell hnone hp
  unfold maxLen at hmax
  go_enter Try.func153, Try.ntmps153
  go_wp2_with fail
  go_loopw [8] (fun i wr => ∃ k : Nat, k ≤ l.length ∧ i = .int .i64 k ∧ Hid (∀ x ∈ l.take k, p x = false) ∧ Hid (From w.heap.size w wr)) (fun i _ => l.length - (intOf i).toNat)
  case atStart => exact ⟨0, Nat.zero_le _, rfl, (fun x hx => by simp at hx), From.start w⟩
  case round =>
    obtain ⟨k, hk, rfl, HB, HF⟩ := hrel
    by_cases hlt : k < l.length
    · obtain ⟨b, off, rfl, hc⟩ := HC.out (by omega)
      obtain ⟨c0, c1, c2, c3⟩ := hc k hlt
      have hbl : b < w.heap.size := World.block_lt_of_cell? w _ c0
      have g0 := (HF.out.below.cell (p := ⟨b, off + k * 4, none⟩) hbl).trans c0
      have g1 := (HF.out.below.cell (p := ⟨b, off + k * 4 + 1, none⟩) hbl).trans c1
      have g2 := (HF.out.below.cell (p := ⟨b, off + k * 4 + 2, none⟩) hbl).trans c2
      have g3 := (HF.out.below.cell (p := ⟨b, off + k * 4 + 3, none⟩) hbl).trans c3
      have i1 : (k : Int) < (l.length : Int) := by omega
      have i3 : (0 : Int) ≤ (k : Int) := by omega
      have hcl := HP.out l[k] (List.getElem_mem hlt) wr HF.out.below
      have HG := Lib.hid (take_bad hlt HB.out)
      have HH := Lib.hid (fun h => findI_hit hlt h HB.out : p l[k] = true → findI p l = k)
      clear hc c0 c1 c2 c3
      generalize l[k] = x at *
      cases hq : p x
      · rw [hq] at hcl
        have HQ := Lib.hid hq
        have HCL := Lib.hid hcl
        clear hq hcl
        go_wp2_with fail
        refine HCL.out.mono ?_
        rintro e w2 ⟨rfl, h2⟩
        have HF2 := Lib.hid (HF.out.call h2)
        clear h2 HF g0 g1 g2 g3
        go_wp2_with fail
        go_roundw
        case rel => exact ⟨k + 1, by omega, by go_num, HG.out HQ.out, HF2⟩
        case measure => simp [intOf]; try omega
      · rw [hq] at hcl
        have HQ := Lib.hid (HH.out hq)
        have HCL := Lib.hid hcl
        clear hq hcl
        go_wp2_with fail
        refine HCL.out.mono ?_
        rintro e w2 ⟨rfl, h2⟩
        have HF2 := Lib.hid (HF.out.call h2)
        clear h2 HF g0 g1 g2 g3
        go_wp2_with fail
        go_ret
        exact ⟨by rw [HQ.out]; try rfl, HF2.out.below⟩
    · obtain rfl : k = l.length := by omega
      have E : Hid (findI p l = -1) := findI_miss (by have := HB.out; rwa [List.take_length] at this)
      go_wp2_with fail
      go_ret
      exact ⟨by rw [E.out]; try rfl, HF.out.below⟩
set_option maxHeartbeats 1000000 in
theorem containsFuncFix_any (g : FuncId) (lb : Array Value) (p : FixD → Bool) (eg : ∀ args u, (callFunc g args).run Try.prog u = .ok (.enter g args) u) (w : World) (v : Value) (l : List FixD) (h : FixAt w v l)
    (hp : ∀ x ∈ l, ∀ u, Below w.heap.size w u → Calls Try.prog g (#[fixV x] ++ lb) u fun e w' => e = .returned (.bool (p x)) ∧ Below u.heap.size u w') :
    Calls Try.prog 100 #[v, .func (.func g) #[] lb] w fun e w' => e = .returned (.bool (l.any p)) ∧ Below w.heap.size w w' := by
  have E := Lib.hid (any_findI p l)
  obtain ⟨a, cap, rfl, -⟩ := h.form
  have H := Lib.hid h
  have HP := Lib.hid hp
  clear h hp
  go_enter Try.func100, Try.ntmps100
  go_wp2_with fail
  refine (indexFuncFix_any g lb p eg w _ l H.out HP.out).mono ?_
  rintro e w2 ⟨rfl, h2⟩
  have HF := Lib.hid ((From.start w).call h2)
  clear h2
  go_wp2_with fail
  go_ret
  exact ⟨by rw [E.out]; try rfl, HF.out.below⟩
set_option maxHeartbeats 1000000 in
theorem indexFuncSec_any (g : FuncId) (lb : Array Value) (p : SecD → Bool) (eg : ∀ args u, (callFunc g args).run Try.prog u = .ok (.enter g args) u) (w : World) (v : Value) (l : List SecD) (h : SecsAt w v l)
    (hp : ∀ x ∈ l, ∀ u vx, Below w.heap.size w u → SecAt u vx x → Calls Try.prog g (#[vx] ++ lb) u fun e w' => e = .returned (.bool (p x)) ∧ Below u.heap.size u w') :
    Calls Try.prog 174 #[v, .func (.func g) #[] lb] w fun e w' => e = .returned (.int .i64 (findI p l)) ∧ Below w.heap.size w w' := by
  obtain ⟨a, cap, rfl, hcap, hmax, hnone, hcell⟩ := h.form
  have HC := Lib.hid hcell
  have HP := Lib.hid hp
  clear h hcell hnone hp
  unfold maxLen at hmax
  go_enter Try.func174, Try.ntmps174
  go_wp2_with fail
  go_loopw [8] (fun i wr => ∃ k : Nat, k ≤ l.length ∧ i = .int .i64 k ∧ Hid (∀ x ∈ l.take k, p x = false) ∧ Hid (From w.heap.size w wr)) (fun i _ => l.length - (intOf i).toNat)
  case atStart => exact ⟨0, Nat.zero_le _, rfl, (fun x hx => by simp at hx), From.start w⟩
  case round =>
    obtain ⟨k, hk, rfl, HB, HF⟩ := hrel
    by_cases hlt : k < l.length
    · obtain ⟨b, off, rfl, hc⟩ := HC.out (by omega)
      obtain ⟨vb, vf, hb, hf, c0, c1, c2, c3, c4, c5⟩ := hc k hlt
      obtain ⟨ba, bc, rfl, -⟩ := hb.form
      obtain ⟨fa, fc, rfl, -⟩ := hf.form
      have hbl : b < w.heap.size := World.block_lt_of_cell? w _ c0
      have g0 := (HF.out.below.cell (p := ⟨b, off + k * 6, none⟩) hbl).trans c0
      have g1 := (HF.out.below.cell (p := ⟨b, off + k * 6 + 1, none⟩) hbl).trans c1
      have g2 := (HF.out.below.cell (p := ⟨b, off + k * 6 + 2, none⟩) hbl).trans c2
      have g3 := (HF.out.below.cell (p := ⟨b, off + k * 6 + 3, none⟩) hbl).trans c3
      have g4 := (HF.out.below.cell (p := ⟨b, off + k * 6 + 4, none⟩) hbl).trans c4
      have g5 := (HF.out.below.cell (p := ⟨b, off + k * 6 + 5, none⟩) hbl).trans c5
      have i1 : (k : Int) < (l.length : Int) := by omega
      have i3 : (0 : Int) ≤ (k : Int) := by omega
      have hcl := HP.out l[k] (List.getElem_mem hlt) wr (secV l[k] (.slice ba l[k].bytes.length bc) (.slice fa l[k].fix.length fc)) HF.out.below ⟨_, _, rfl, hb.below (Nat.le_refl _) HF.out.below, hf.below (Nat.le_refl _) HF.out.below⟩
      have HG := Lib.hid (take_bad hlt HB.out)
      have HH := Lib.hid (fun h => findI_hit hlt h HB.out : p l[k] = true → findI p l = k)
      clear hc c0 c1 c2 c3 c4 c5 hb hf
      generalize l[k] = x at *
      cases hq : p x
      · rw [hq] at hcl
        have HQ := Lib.hid hq
        have HCL := Lib.hid hcl
        clear hq hcl
        go_wp2_with fail
        refine HCL.out.mono ?_
        rintro e w2 ⟨rfl, h2⟩
        have HF2 := Lib.hid (HF.out.call h2)
        clear h2 HF g0 g1 g2 g3 g4 g5
        go_wp2_with fail
        go_roundw
        case rel => exact ⟨k + 1, by omega, by go_num, HG.out HQ.out, HF2⟩
        case measure => simp [intOf]; try omega
      · rw [hq] at hcl
        have HQ := Lib.hid (HH.out hq)
        have HCL := Lib.hid hcl
        clear hq hcl
        go_wp2_with fail
        refine HCL.out.mono ?_
        rintro e w2 ⟨rfl, h2⟩
        have HF2 := Lib.hid (HF.out.call h2)
        clear h2 HF g0 g1 g2 g3 g4 g5
        go_wp2_with fail
        go_ret
        exact ⟨by rw [HQ.out]; try rfl, HF2.out.below⟩
    · obtain rfl : k = l.length := by omega
      have E : Hid (findI p l = -1) := findI_miss (by have := HB.out; rwa [List.take_length] at this)
      go_wp2_with fail
      go_ret
      exact ⟨by rw [E.out]; try rfl, HF.out.below⟩
set_option maxHeartbeats 1000000 in
theorem containsFuncSec_any (g : FuncId) (lb : Array Value) (p : SecD → Bool) (eg : ∀ args u, (callFunc g args).run Try.prog u = .ok (.enter g args) u) (w : World) (v : Value) (l : List SecD) (h : SecsAt w v l)
    (hp : ∀ x ∈ l, ∀ u vx, Below w.heap.size w u → SecAt u vx x → Calls Try.prog g (#[vx] ++ lb) u fun e w' => e = .returned (.bool (p x)) ∧ Below u.heap.size u w') :
    Calls Try.prog 149 #[v, .func (.func g) #[] lb] w fun e w' => e = .returned (.bool (l.any p)) ∧ Below w.heap.size w w' := by
  have E := Lib.hid (any_findI p l)
  obtain ⟨a, cap, rfl, -⟩ := h.form
  have H := Lib.hid h
  have HP := Lib.hid hp
  clear h hp
  go_enter Try.func149, Try.ntmps149
  go_wp2_with fail
  refine (indexFuncSec_any g lb p eg w _ l H.out HP.out).mono ?_
  rintro e w2 ⟨rfl, h2⟩
  have HF := Lib.hid ((From.start w).call h2)
  clear h2
  go_wp2_with fail
  go_ret
  exact ⟨by rw [E.out]; try rfl, HF.out.below⟩
theorem uses11 (u : World) (x : FixD) (c : Addr) (j : Int) (hc : u.cell? c = some (.int .i64 j)) :
    Calls Try.prog 151 #[fixV x, .pointer (some c)] u fun e w' => e = .returned (.bool (usesF j x)) ∧ Below u.heap.size u w' := by
  obtain ⟨x0, x1, x2, x3⟩ := x
  have hcl : c.block < u.heap.size := World.block_lt_of_cell? u _ hc
  have hcx := (((From.start u).alloc (.cells #[.int .i64 x0, .int .i64 x1, .int .i64 x2, .int .i64 x3] 80)).below.cell (p := c) hcl).trans hc
  clear hc hcl
  have E : Hid ((x2 == j) = usesF j (x0, x1, x2, x3)) := by show _ = _; unfold usesF; by_cases h : x2 = j <;> simp [h]
  go_enter Try.func151, Try.ntmps151
  go_wp2_with fail
  go_ret
  exact ⟨by rw [← E.out]; try rfl, ((From.start u).alloc _).below⟩
theorem uses1 (u : World) (vx : Value) (x : SecD) (hx : SecAt u vx x) (c : Addr) (j : Int) (hc : u.cell? c = some (.int .i64 j)) :
    Calls Try.prog 150 #[vx, .pointer (some c)] u fun e w' => e = .returned (.bool (usesS j x)) ∧ Below u.heap.size u w' := by
  obtain ⟨vb, vf, rfl, hb, hf⟩ := hx
  obtain ⟨ba, bc, rfl, -⟩ := hb.form
  have HFX := Lib.hid hf
  obtain ⟨fa, fc, rfl, -⟩ := hf.form
  obtain ⟨nb, hnb⟩ : ∃ nb, x.bytes.length = nb := ⟨_, rfl⟩
  obtain ⟨nf, hnf⟩ : ∃ nf, x.fix.length = nf := ⟨_, rfl⟩
  have hcl : c.block < u.heap.size := World.block_lt_of_cell? u _ hc
  have HC : Hid (∀ u', Below u.heap.size u u' → u'.cell? c = some (.int .i64 j)) := fun u' hu => (hu.cell (p := c) hcl).trans hc
  clear hb hf hc hcl
  unfold secV
  rw [hnf] at HFX ⊢
  rw [hnb]
  clear hnb hnf
  go_enter Try.func150, Try.ntmps150
  go_wp2_with fail
  have F1 := Lib.hid ((From.start u).alloc (.cells #[.string x.name, .int .i64 x.kind, .int .i64 x.align, .slice ba nb bc, .int .i64 x.size, .slice fa nf fc] 69))
  refine (containsFuncFix_any 151 #[.pointer (some c)] (usesF j) (fun args u => enter_fn Try.func151 (by kernel_rfl) rfl args u) _ _ x.fix (HFX.out.below (Nat.le_refl _) F1.out.below) (fun y _ u' hu => uses11 u' y c j (HC.out u' (F1.out.below.trans (hu.mono F1.out.le))))).mono ?_
  rintro e w2 ⟨rfl, h2⟩
  have F2 := Lib.hid (F1.out.call h2)
  clear h2
  go_wp2_with fail
  go_ret
  exact ⟨rfl, F2.out.below⟩
theorem i_uses (w : World) (v : Value) (o : ObjD) (h : ObjAt w v o) (j : Int) :
    Calls Try.prog 94 #[v, .int .i64 j] w fun e w' => e = .returned (.bool (usedB o.secs j)) ∧ Below w.heap.size w w' := by
  obtain ⟨vs, vy, rfl, h1, h2⟩ := h
  have HS := Lib.hid h1
  obtain ⟨sa, sc, rfl, -⟩ := h1.form
  obtain ⟨ya, yc, rfl, -⟩ := h2.form
  clear h1 h2
  obtain ⟨n1, hn1⟩ : ∃ n1, o.secs.length = n1 := ⟨_, rfl⟩
  obtain ⟨n2, hn2⟩ : ∃ n2, o.syms.length = n2 := ⟨_, rfl⟩
  rw [hn1] at HS ⊢
  rw [hn2]
  clear hn1 hn2
  have F1 := Lib.hid (((From.start w).alloc (.cells #[.slice sa n1 sc, .slice ya n2 yc] 26)).alloc (.cells #[.int .i64 j] 3))
  have hB : Blk ((w.alloc (.cells #[.slice sa n1 sc, .slice ya n2 yc] 26)).alloc (.cells #[.int .i64 j] 3)) (w.heap.size + 1) #[.int .i64 j] 3 := Blk.newAt _ _ _ _ (by simp)
  have HB := Lib.hid hB
  clear hB
  go_enter Try.func94, Try.ntmps94
  go_wp2_with fail
  refine (containsFuncSec_any 150 #[.pointer (some ⟨w.heap.size + 1, 0, none⟩)] (usesS j) (fun args u => enter_fn Try.func150 (by kernel_rfl) rfl args u) _ _ o.secs (HS.out.below (Nat.le_refl _) F1.out.below) (fun y _ u' vx hu hx => uses1 u' vx y hx ⟨w.heap.size + 1, 0, none⟩ j (((HB.out.call hu).cell 0).trans rfl))).mono ?_
  rintro e w2 ⟨rfl, h2⟩
  have F2 := Lib.hid (F1.out.call h2)
  clear h2
  go_wp2_with fail
  go_ret
  exact ⟨rfl, F2.out.below⟩
theorem StripLocals1 (u : World) (k : Nat) (x : SymD) (c : Nat) (o : ObjD) (v : Value) (hv : ObjAt u v o) (sa : Option Addr) (sc n1 n2 : Nat) (ya : Option Addr) (yc : Nat) (ev : v = .agg #[.slice sa n1 sc, .slice ya n2 yc]) (hc : Blk u c #[.slice sa n1 sc, .slice ya n2 yc] 26) :
    Calls Try.prog 93 #[.int .i64 (k : Int), symV x, .pointer (some ⟨c, 0, none⟩)] u fun e w' => e = .returned (.bool (localK o.secs k x)) ∧ Below u.heap.size u w' := by
  subst ev
  have HV := Lib.hid hv
  have HB := Lib.hid (hc.alloc (.cells #[.string x.name, .int .i64 x.bind, .int .i64 x.whr, .int .i64 x.val] 78))
  have F1 := Lib.hid ((From.start u).alloc (.cells #[.string x.name, .int .i64 x.bind, .int .i64 x.whr, .int .i64 x.val] 78))
  have cb := HB.out.cell
  have zb : c < u.heap.size := hc.lt
  clear hv hc
  by_cases hb : x.bind = 0
  · have e0 : (x.bind != 0) = false := by simpa using hb
    have E : Hid (localK o.secs k x = usedB o.secs k) := by show _ = _; unfold localK; simp [hb]
    clear hb
    go_enter Try.func93, Try.ntmps93
    go_wp2_with fail
    refine (i_uses _ _ o (HV.out.below (Nat.le_refl _) F1.out.below) k).mono ?_
    rintro e w2 ⟨rfl, h2⟩
    have F2 := Lib.hid (F1.out.call h2)
    clear h2
    go_wp2_with fail
    go_ret
    exact ⟨by rw [E.out]; try rfl, F2.out.below⟩
  · have e0 : (x.bind != 0) = true := by simpa using hb
    have E : Hid (localK o.secs k x = true) := by show _ = _; unfold localK; simp [hb]
    clear hb
    go_enter Try.func93, Try.ntmps93
    go_wp2_with fail
    go_ret
    exact ⟨by rw [E.out]; try rfl, F1.out.below⟩
set_option maxHeartbeats 2000000 in
theorem i_StripLocals (w : World) (v : Value) (o : ObjD) (h : ObjAt w v o) (hs : (∀ s ∈ o.secs, s.name.size ≤ maxLen) ∧ ∀ s ∈ o.syms, s.name.size ≤ maxLen) :
    Calls Try.prog 36 #[v] w fun e w' => ∃ r, e = .returned r ∧ OwnObj w' w.heap.size r (stripO localK o) ∧ Below w.heap.size w w' := by
  have HOB := Lib.hid h
  have HN0 := Lib.hid hs
  obtain ⟨sa, sc, ya, yc, rfl⟩ := h.agg
  clear h hs
  obtain ⟨n1, hn1⟩ : ∃ n1, o.secs.length = n1 := ⟨_, rfl⟩
  obtain ⟨n2, hn2⟩ : ∃ n2, o.syms.length = n2 := ⟨_, rfl⟩
  rw [hn1, hn2] at HOB ⊢
  clear hn1 hn2
  have HF0 := Lib.hid (((From.start w).alloc (.cells #[.slice sa n1 sc, .slice ya n2 yc] 26)).alloc (.cells #[.slice none 0 0, .slice none 0 0] 26))
  have HB0 := Lib.hid ((Blk.new w #[.slice sa n1 sc, .slice ya n2 yc] 26).alloc (.cells #[.slice none 0 0, .slice none 0 0] 26))
  have hr0 : Blk ((w.alloc (.cells #[.slice sa n1 sc, .slice ya n2 yc] 26)).alloc (.cells #[.slice none 0 0, .slice none 0 0] 26)) (w.heap.size + 1) #[.slice none 0 0, .slice none 0 0] 26 := Blk.newAt _ _ _ _ (by simp)
  have HR0 := Lib.hid hr0
  clear hr0
  cases hq : objB o
  · have E : stripO localK o = ⟨[], []⟩ := by unfold stripO; rw [hq]; rfl
    rw [E]
    go_enter Try.func36, Try.ntmps36
    go_wp2_with fail
    refine (i_ObjectValid _ _ o (HOB.out.below (Nat.le_refl _) HF0.out.below) HN0.out).mono ?_
    rw [hq]
    rintro e w2 ⟨rfl, k2⟩
    have HF2 := Lib.hid (HF0.out.call k2)
    have HR2 := Lib.hid (HR0.out.call k2)
    have cR := HR2.out.cell
    have fR := HR2.out.frozen
    have zR := HR2.out.lt
    clear k2 hq
    go_wp2_with fail
    refine bodyPost_ret (v := .agg #[.slice none 0 0, .slice none 0 0]) (by simp [results, Try.results36, go_sem, cR, zR]) rfl ⟨_, rfl, ⟨_, _, [], rfl, rfl, ⟨World.ownsRow_nil _ _ _ _, (fun x hx => by cases hx), by simp [blksOf, Value.ownBlock]⟩, World.ownsRow_nil _ _ _ _, fun k hk => by cases hk⟩, ?_⟩
    exact ((HF2.out.setCell (p := ⟨w.heap.size + 1, 0, none⟩) (Nat.le_succ _) (.slice none 0 0)).setCell (p := ⟨w.heap.size + 1, 1, none⟩) (Nat.le_succ _) (.slice none 0 0)).below
  have HFew := Lib.hid (objB_fewO hq)
  have HFX : Hid (∀ s ∈ o.secs, ∀ f ∈ s.fix, 0 ≤ f.2.2.1 ∧ f.2.2.1 < o.syms.length) := fun s hs f hf => ((objB_sec hq hs).fix f hf).to
  have EI : Hid (stripO localK o = keepO o (maskL (localK o.secs) o.syms)) := by show _ = _; unfold stripO; rw [hq, if_pos rfl]
  go_enter Try.func36, Try.ntmps36
  go_wp2_with fail
  refine (i_ObjectValid _ _ o (HOB.out.below (Nat.le_refl _) HF0.out.below) HN0.out).mono ?_
  rw [hq]
  rintro e w2 ⟨rfl, k2⟩
  have HF2 := Lib.hid (HF0.out.call k2)
  have HR2 := Lib.hid (HR0.out.call k2)
  have HB2 := Lib.hid (HB0.out.call k2)
  have HO2 := Lib.hid (HOB.out.below (Nat.le_refl _) HF2.out.below)
  have cb := HB2.out.cell
  have zb := HB2.out.lt
  clear k2 hq HF0 HR0 HB0
  go_wp2_with fail
  refine (i_keepSymbols 93 #[.pointer (some ⟨w.heap.size, 0, none⟩)] (localK o.secs) (fun args u => enter_fn Try.func93 (by kernel_rfl) rfl args u) w2 _ o HO2.out HFew.out HFX.out
    (fun k hk u hu => StripLocals1 u k _ w.heap.size o _ (HO2.out.below (Nat.le_refl _) hu) sa sc n1 n2 ya yc rfl (HB2.out.call hu))).mono ?_
  rintro e w3 ⟨r, rfl, ⟨vs, vy, ls, rfl, hsecs, hS, hY, hd⟩, k3⟩
  obtain ⟨pa, pc, rfl⟩ := owns_form hS.row
  obtain ⟨qa, qc, rfl⟩ := owns_form hY
  have zR2 : w.heap.size + 1 < w2.heap.size := HR2.out.lt
  have HF3 := Lib.hid (HF2.out.call k3)
  have HR3 := Lib.hid (HR2.out.call k3)
  have HS3 := Lib.hid hS
  have HY3 := Lib.hid hY
  have HD3 := Lib.hid hd
  have HSE := Lib.hid hsecs
  have cR := HR3.out.cell
  have fR := HR3.out.frozen
  have zR := HR3.out.lt
  have z2 : w.heap.size ≤ w2.heap.size := HF2.out.le
  clear hS hY hd hsecs k3 cb zb HB2 HF2 HR2
  obtain ⟨m1, hm1⟩ : ∃ m1, ls.length = m1 := ⟨_, rfl⟩
  obtain ⟨m2, hm2⟩ : ∃ m2, (keepO o (maskL (localK o.secs) o.syms)).syms.length = m2 := ⟨_, rfl⟩
  have HM1 := Lib.hid hm1
  have HM2 := Lib.hid hm2
  rw [hm1] at HS3 HD3 ⊢
  rw [hm2] at HY3 HD3 ⊢
  clear hm1 hm2
  go_wp2_with fail
  refine bodyPost_ret (v := .agg #[.slice pa m1 pc, .slice qa m2 qc]) (by simp [results, Try.results36, go_sem, cR, zR]) rfl ⟨_, rfl, ?_, ?_⟩
  · rw [EI.out]
    refine ⟨_, _, ls, rfl, HSE.out, ?_, ?_, HD3.out⟩
    · exact ((HS3.out.setBelow (a := ⟨w.heap.size + 1, 0, none⟩) zR2 _).setBelow (a := ⟨w.heap.size + 1, 1, none⟩) zR2 _).mono z2
    · have h := ownsRow_setCell_below (ownsRow_setCell_below HY3.out (a := ⟨w.heap.size + 1, 0, none⟩) zR2 (.slice pa m1 pc)) (a := ⟨w.heap.size + 1, 1, none⟩) zR2 (.slice qa m2 qc)
      unfold OwnSyms
      rw [HM2.out]
      rw [HM2.out] at h
      exact owns_mono h z2
  · exact ((HF3.out.setCell (p := ⟨w.heap.size + 1, 0, none⟩) (Nat.le_succ _) (.slice pa m1 pc)).setCell (p := ⟨w.heap.size + 1, 1, none⟩) (Nat.le_succ _) (.slice qa m2 qc)).below
theorem StripWanted1 (u : World) (k : Nat) (x : SymD) (c : Nat) (o : ObjD) (v : Value) (hv : ObjAt u v o) (sa : Option Addr) (sc n1 n2 : Nat) (ya : Option Addr) (yc : Nat) (ev : v = .agg #[.slice sa n1 sc, .slice ya n2 yc]) (hc : Blk u c #[.slice sa n1 sc, .slice ya n2 yc] 26) :
    Calls Try.prog 95 #[.int .i64 (k : Int), symV x, .pointer (some ⟨c, 0, none⟩)] u fun e w' => e = .returned (.bool (wantK o.secs k x)) ∧ Below u.heap.size u w' := by
  subst ev
  have HV := Lib.hid hv
  have HB := Lib.hid (hc.alloc (.cells #[.string x.name, .int .i64 x.bind, .int .i64 x.whr, .int .i64 x.val] 78))
  have F1 := Lib.hid ((From.start u).alloc (.cells #[.string x.name, .int .i64 x.bind, .int .i64 x.whr, .int .i64 x.val] 78))
  have cb := HB.out.cell
  have zb : c < u.heap.size := hc.lt
  clear hv hc
  by_cases hb : x.whr = -1
  · have e0 : (x.whr != -1) = false := by simpa using hb
    have E : Hid (wantK o.secs k x = usedB o.secs k) := by show _ = _; unfold wantK; simp [hb]
    clear hb
    go_enter Try.func95, Try.ntmps95
    go_wp2_with fail
    refine (i_uses _ _ o (HV.out.below (Nat.le_refl _) F1.out.below) k).mono ?_
    rintro e w2 ⟨rfl, h2⟩
    have F2 := Lib.hid (F1.out.call h2)
    clear h2
    go_wp2_with fail
    go_ret
    exact ⟨by rw [E.out]; try rfl, F2.out.below⟩
  · have e0 : (x.whr != -1) = true := by simpa using hb
    have E : Hid (wantK o.secs k x = true) := by show _ = _; unfold wantK; simp [hb]
    clear hb
    go_enter Try.func95, Try.ntmps95
    go_wp2_with fail
    go_ret
    exact ⟨by rw [E.out]; try rfl, F1.out.below⟩
set_option maxHeartbeats 2000000 in
theorem i_StripWanted (w : World) (v : Value) (o : ObjD) (h : ObjAt w v o) (hs : (∀ s ∈ o.secs, s.name.size ≤ maxLen) ∧ ∀ s ∈ o.syms, s.name.size ≤ maxLen) :
    Calls Try.prog 38 #[v] w fun e w' => ∃ r, e = .returned r ∧ OwnObj w' w.heap.size r (stripO wantK o) ∧ Below w.heap.size w w' := by
  have HOB := Lib.hid h
  have HN0 := Lib.hid hs
  obtain ⟨sa, sc, ya, yc, rfl⟩ := h.agg
  clear h hs
  obtain ⟨n1, hn1⟩ : ∃ n1, o.secs.length = n1 := ⟨_, rfl⟩
  obtain ⟨n2, hn2⟩ : ∃ n2, o.syms.length = n2 := ⟨_, rfl⟩
  rw [hn1, hn2] at HOB ⊢
  clear hn1 hn2
  have HF0 := Lib.hid (((From.start w).alloc (.cells #[.slice sa n1 sc, .slice ya n2 yc] 26)).alloc (.cells #[.slice none 0 0, .slice none 0 0] 26))
  have HB0 := Lib.hid ((Blk.new w #[.slice sa n1 sc, .slice ya n2 yc] 26).alloc (.cells #[.slice none 0 0, .slice none 0 0] 26))
  have hr0 : Blk ((w.alloc (.cells #[.slice sa n1 sc, .slice ya n2 yc] 26)).alloc (.cells #[.slice none 0 0, .slice none 0 0] 26)) (w.heap.size + 1) #[.slice none 0 0, .slice none 0 0] 26 := Blk.newAt _ _ _ _ (by simp)
  have HR0 := Lib.hid hr0
  clear hr0
  cases hq : objB o
  · have E : stripO wantK o = ⟨[], []⟩ := by unfold stripO; rw [hq]; rfl
    rw [E]
    go_enter Try.func38, Try.ntmps38
    go_wp2_with fail
    refine (i_ObjectValid _ _ o (HOB.out.below (Nat.le_refl _) HF0.out.below) HN0.out).mono ?_
    rw [hq]
    rintro e w2 ⟨rfl, k2⟩
    have HF2 := Lib.hid (HF0.out.call k2)
    have HR2 := Lib.hid (HR0.out.call k2)
    have cR := HR2.out.cell
    have fR := HR2.out.frozen
    have zR := HR2.out.lt
    clear k2 hq
    go_wp2_with fail
    refine bodyPost_ret (v := .agg #[.slice none 0 0, .slice none 0 0]) (by simp [results, Try.results38, go_sem, cR, zR]) rfl ⟨_, rfl, ⟨_, _, [], rfl, rfl, ⟨World.ownsRow_nil _ _ _ _, (fun x hx => by cases hx), by simp [blksOf, Value.ownBlock]⟩, World.ownsRow_nil _ _ _ _, fun k hk => by cases hk⟩, ?_⟩
    exact ((HF2.out.setCell (p := ⟨w.heap.size + 1, 0, none⟩) (Nat.le_succ _) (.slice none 0 0)).setCell (p := ⟨w.heap.size + 1, 1, none⟩) (Nat.le_succ _) (.slice none 0 0)).below
  have HFew := Lib.hid (objB_fewO hq)
  have HFX : Hid (∀ s ∈ o.secs, ∀ f ∈ s.fix, 0 ≤ f.2.2.1 ∧ f.2.2.1 < o.syms.length) := fun s hs f hf => ((objB_sec hq hs).fix f hf).to
  have EI : Hid (stripO wantK o = keepO o (maskL (wantK o.secs) o.syms)) := by show _ = _; unfold stripO; rw [hq, if_pos rfl]
  go_enter Try.func38, Try.ntmps38
  go_wp2_with fail
  refine (i_ObjectValid _ _ o (HOB.out.below (Nat.le_refl _) HF0.out.below) HN0.out).mono ?_
  rw [hq]
  rintro e w2 ⟨rfl, k2⟩
  have HF2 := Lib.hid (HF0.out.call k2)
  have HR2 := Lib.hid (HR0.out.call k2)
  have HB2 := Lib.hid (HB0.out.call k2)
  have HO2 := Lib.hid (HOB.out.below (Nat.le_refl _) HF2.out.below)
  have cb := HB2.out.cell
  have zb := HB2.out.lt
  clear k2 hq HF0 HR0 HB0
  go_wp2_with fail
  refine (i_keepSymbols 95 #[.pointer (some ⟨w.heap.size, 0, none⟩)] (wantK o.secs) (fun args u => enter_fn Try.func95 (by kernel_rfl) rfl args u) w2 _ o HO2.out HFew.out HFX.out
    (fun k hk u hu => StripWanted1 u k _ w.heap.size o _ (HO2.out.below (Nat.le_refl _) hu) sa sc n1 n2 ya yc rfl (HB2.out.call hu))).mono ?_
  rintro e w3 ⟨r, rfl, ⟨vs, vy, ls, rfl, hsecs, hS, hY, hd⟩, k3⟩
  obtain ⟨pa, pc, rfl⟩ := owns_form hS.row
  obtain ⟨qa, qc, rfl⟩ := owns_form hY
  have zR2 : w.heap.size + 1 < w2.heap.size := HR2.out.lt
  have HF3 := Lib.hid (HF2.out.call k3)
  have HR3 := Lib.hid (HR2.out.call k3)
  have HS3 := Lib.hid hS
  have HY3 := Lib.hid hY
  have HD3 := Lib.hid hd
  have HSE := Lib.hid hsecs
  have cR := HR3.out.cell
  have fR := HR3.out.frozen
  have zR := HR3.out.lt
  have z2 : w.heap.size ≤ w2.heap.size := HF2.out.le
  clear hS hY hd hsecs k3 cb zb HB2 HF2 HR2
  obtain ⟨m1, hm1⟩ : ∃ m1, ls.length = m1 := ⟨_, rfl⟩
  obtain ⟨m2, hm2⟩ : ∃ m2, (keepO o (maskL (wantK o.secs) o.syms)).syms.length = m2 := ⟨_, rfl⟩
  have HM1 := Lib.hid hm1
  have HM2 := Lib.hid hm2
  rw [hm1] at HS3 HD3 ⊢
  rw [hm2] at HY3 HD3 ⊢
  clear hm1 hm2
  go_wp2_with fail
  refine bodyPost_ret (v := .agg #[.slice pa m1 pc, .slice qa m2 qc]) (by simp [results, Try.results38, go_sem, cR, zR]) rfl ⟨_, rfl, ?_, ?_⟩
  · rw [EI.out]
    refine ⟨_, _, ls, rfl, HSE.out, ?_, ?_, HD3.out⟩
    · exact ((HS3.out.setBelow (a := ⟨w.heap.size + 1, 0, none⟩) zR2 _).setBelow (a := ⟨w.heap.size + 1, 1, none⟩) zR2 _).mono z2
    · have h := ownsRow_setCell_below (ownsRow_setCell_below HY3.out (a := ⟨w.heap.size + 1, 0, none⟩) zR2 (.slice pa m1 pc)) (a := ⟨w.heap.size + 1, 1, none⟩) zR2 (.slice qa m2 qc)
      unfold OwnSyms
      rw [HM2.out]
      rw [HM2.out] at h
      exact owns_mono h z2
  · exact ((HF3.out.setCell (p := ⟨w.heap.size + 1, 0, none⟩) (Nat.le_succ _) (.slice pa m1 pc)).setCell (p := ⟨w.heap.size + 1, 1, none⟩) (Nat.le_succ _) (.slice qa m2 qc)).below
/-! KeepSec -/
/-! Kept -/
open Go.ChangeShapes Go.WideShapes Go.ChangeAt Go.RowKit Go.Joins
set_option linter.unusedSimpArgs false
set_option linter.unusedVariables false
set_option maxRecDepth 100000
section
variable {P : Program} {ops : Array Oper} {Q : Exit → Act → World → Prop} {o : Oper} {a : Act} {w : World} {K : Act → World → Prop}
/-- A call of a function value. -/
theorem wp_fnv {x : Operand} {g : FuncId} {lb vs : Array Value} {args : Array Operand} {tys : Array TypeId} (ho : o.op = .call { callee := .value x, args := args, argTypes := tys }) (hx : a.eval x = .func (.func g) #[] lb) (hargs : args.map a.eval = vs)
    (he : (callFunc g (vs ++ lb)).run P w = .ok (.enter g (vs ++ lb)) w)
    (h : Calls P g (vs ++ lb) w (fun e w' => ∃ v, e = .returned v ∧ K (a.put o.dst v) w')) : Oper.wp P o a w K Q := by
  have hr : (execOp a.eval o).run P w = .ok (.enter g (vs ++ lb)) w := by
    simp [execOp, ho, resolve, hargs, hx, Deferred.ofValue, invoke, he]
  unfold Oper.wp
  rw [hr]
  refine h.mono fun e w' ⟨v, he, hk⟩ => ?_
  subst he
  exact hk
end
theorem inI_findI (l : List Int) (s : Int) : inI l s = decide (0 ≤ findI (fun n => decide (n = s)) l) := by
  unfold inI; exact any_findI _ _
set_option maxHeartbeats 1000000 in
theorem indexInt_any (w : World) (v : Value) (l : List Int) (s : Int) (h : IntsAt w v l) :
    Calls Try.prog 152 #[v, .int .i64 s] w fun e w' => e = .returned (.int .i64 (findI (fun n => decide (n = s)) l)) ∧ Below w.heap.size w w' := by
  obtain ⟨a, cap, rfl, hcap, hmax, hnone, hcell⟩ := h.form
  have HC := Lib.hid hcell
  clear h hcell hnone
  unfold maxLen at hmax
  go_enter Try.func152, Try.ntmps152
  go_wp2_with fail
  go_loopw [8] (fun i wr => ∃ k : Nat, k ≤ l.length ∧ i = .int .i64 k ∧ Hid (∀ x ∈ l.take k, (fun n => decide (n = s)) x = false) ∧ Hid (From w.heap.size w wr)) (fun i _ => l.length - (intOf i).toNat)
  case atStart => exact ⟨0, Nat.zero_le _, rfl, (fun x hx => by simp at hx), From.start w⟩
  case round =>
    obtain ⟨k, hk, rfl, HB, HF⟩ := hrel
    by_cases hlt : k < l.length
    · obtain ⟨b, off, rfl, hc⟩ := HC.out (by omega)
      have c0 := hc k hlt
      have hbl : b < w.heap.size := World.block_lt_of_cell? w _ c0
      have g0 := (HF.out.below.cell (p := ⟨b, off + k, none⟩) hbl).trans c0
      have i1 : (k : Int) < (l.length : Int) := by omega
      have i3 : (0 : Int) ≤ (k : Int) := by omega
      have HG := Lib.hid (take_bad (p := fun n => decide (n = s)) hlt HB.out)
      have HH := Lib.hid (fun h => findI_hit hlt h HB.out : (fun n => decide (n = s)) l[k] = true → findI (fun n => decide (n = s)) l = k)
      clear hc c0
      generalize l[k] = x at *
      by_cases hq : s = x
      · have e1 : (s == x) = true := by simpa using hq
        have E := Lib.hid (HH.out (by simpa using hq.symm))
        clear HG HH HB hq
        go_wp2_with fail
        go_ret
        exact ⟨by rw [E.out]; try rfl, HF.out.below⟩
      · have e1 : (s == x) = false := by simpa using hq
        have HG2 := Lib.hid (HG.out (by simpa using fun e : x = s => hq e.symm))
        clear HG HH HB hq
        go_wp2_with fail
        go_roundw
        case rel => exact ⟨k + 1, by omega, by go_num, HG2, HF⟩
        case measure => simp [intOf]; try omega
    · obtain rfl : k = l.length := by omega
      have E : Hid (findI (fun n => decide (n = s)) l = -1) := findI_miss (by have := HB.out; rwa [List.take_length] at this)
      go_wp2_with fail
      go_ret
      exact ⟨by rw [E.out]; try rfl, HF.out.below⟩
set_option maxHeartbeats 1000000 in
theorem containsInt_any (w : World) (v : Value) (l : List Int) (s : Int) (h : IntsAt w v l) :
    Calls Try.prog 98 #[v, .int .i64 s] w fun e w' => e = .returned (.bool (inI l s)) ∧ Below w.heap.size w w' := by
  have E := Lib.hid (inI_findI l s)
  obtain ⟨a, cap, rfl, -⟩ := h.form
  have H := Lib.hid h
  clear h
  go_enter Try.func98, Try.ntmps98
  go_wp2_with fail
  refine (indexInt_any w _ l s H.out).mono ?_
  rintro e w2 ⟨rfl, h2⟩
  have HF := Lib.hid ((From.start w).call h2)
  clear h2
  go_wp2_with fail
  go_ret
  exact ⟨by rw [E.out]; try rfl, HF.out.below⟩
set_option maxHeartbeats 1000000 in
/-- Whether a symbol is kept. -/
theorem kept1 (u : World) (x : SymD) (c : Nat) (za : Option Addr) (zc : Nat) (list : List Int) (hL : IntsAt u (.slice za list.length zc) list) (hc : Blk u c #[.slice za list.length zc] 52) :
    Calls Try.prog 97 #[symV x, .pointer (some ⟨c, 0, none⟩)] u fun e w' => e = .returned (.bool (keptS list x)) ∧ Below u.heap.size u w' := by
  have HL := Lib.hid hL
  have HB := Lib.hid (hc.alloc (.cells #[.string x.name, .int .i64 x.bind, .int .i64 x.whr, .int .i64 x.val] 78))
  have F1 := Lib.hid ((From.start u).alloc (.cells #[.string x.name, .int .i64 x.bind, .int .i64 x.whr, .int .i64 x.val] 78))
  have cb := HB.out.cell
  have zb : c < u.heap.size := hc.lt
  clear hL hc
  obtain ⟨n3, hn3⟩ : ∃ n3, list.length = n3 := ⟨_, rfl⟩
  simp only [hn3] at HL HB cb
  clear hn3
  by_cases hw : x.whr < 0
  · have e0 : decide (x.whr < 0) = true := decide_eq_true hw
    have E : Hid (keptS list x = true) := by show _ = _; unfold keptS; simp [hw]
    go_enter Try.func97, Try.ntmps97
    go_wp2_with fail
    go_ret
    exact ⟨by rw [E.out]; try rfl, F1.out.below⟩
  · have hw2 : 0 ≤ x.whr := by omega
    have E : Hid (keptS list x = inI list x.whr) := by show _ = _; unfold keptS; simp [hw]
    go_enter Try.func97, Try.ntmps97
    go_wp2_with fail
    refine (containsInt_any _ _ list x.whr (HL.out.below (Nat.le_refl _) F1.out.below)).mono ?_
    rintro e w2 ⟨rfl, h2⟩
    have F2 := Lib.hid (F1.out.call h2)
    clear h2
    go_wp2_with fail
    go_ret
    exact ⟨by rw [E.out]; try rfl, F2.out.below⟩
set_option maxHeartbeats 1000000 in
theorem kept3 (u : World) (j : Int) (x : SymD) (c d : Nat) (za : Option Addr) (zc : Nat) (list : List Int) (hL : IntsAt u (.slice za list.length zc) list) (hc : Blk u c #[.slice za list.length zc] 52)
    (t : TypeId) (hd : Blk u d #[.func (.func 97) #[] #[.pointer (some ⟨c, 0, none⟩)]] t) :
    Calls Try.prog 102 #[.int .i64 j, symV x, .pointer (some ⟨d, 0, none⟩)] u fun e w' => e = .returned (.bool (keptS list x)) ∧ Below u.heap.size u w' := by
  have HL := Lib.hid hL
  have HC := Lib.hid (hc.alloc (.cells #[.string x.name, .int .i64 x.bind, .int .i64 x.whr, .int .i64 x.val] 78))
  have HD := Lib.hid (hd.alloc (.cells #[.string x.name, .int .i64 x.bind, .int .i64 x.whr, .int .i64 x.val] 78))
  have F1 := Lib.hid ((From.start u).alloc (.cells #[.string x.name, .int .i64 x.bind, .int .i64 x.whr, .int .i64 x.val] 78))
  have cb := HD.out.cell
  have zb : d < u.heap.size := hd.lt
  clear hL hc hd
  go_enter Try.func102, Try.ntmps102
  go_wp2_with fail
  refine (kept1 _ x c za zc list (HL.out.below (Nat.le_refl _) F1.out.below) HC.out).mono ?_
  rintro e w2 ⟨rfl, h2⟩
  have F2 := Lib.hid (F1.out.call h2)
  clear h2
  go_wp2_with fail
  go_ret
  exact ⟨rfl, F2.out.below⟩
set_option maxHeartbeats 2000000 in
/-- Whether a fixup's symbol is not kept. -/
theorem kept2 (u : World) (f : FixD) (c d e0 : Nat) (za : Option Addr) (zc : Nat) (list : List Int) (hL : IntsAt u (.slice za list.length zc) list) (hc : Blk u c #[.slice za list.length zc] 52)
    (t : TypeId) (hd : Blk u d #[.func (.func 97) #[] #[.pointer (some ⟨c, 0, none⟩)]] t)
    (o : ObjD) (vs : Value) (ya : Option Addr) (yc : Nat) (hy : SymsAt u (.slice ya o.syms.length yc) o.syms) (he : Blk u e0 #[vs, .slice ya o.syms.length yc] 26) (hf : 0 ≤ f.2.2.1 ∧ f.2.2.1 < o.syms.length) :
    Calls Try.prog 101 #[fixV f, .pointer (some ⟨d, 0, none⟩), .pointer (some ⟨e0, 0, none⟩)] u fun e w' => e = .returned (.bool (!fixGood (symK o list) f)) ∧ Below u.heap.size u w' := by
  obtain ⟨f0', f1', f2', f3'⟩ := f
  simp only at hf
  obtain ⟨m, rfl⟩ := Int.eq_ofNat_of_zero_le hf.1
  have hm : m < o.syms.length := by omega
  obtain ⟨ya', yc', hv', hcap, hmax, -, hcell⟩ := hy.form
  simp only [Value.slice.injEq] at hv'
  obtain ⟨rfl, -, rfl⟩ := hv'
  obtain ⟨b, off, rfl, hcc⟩ := hcell (by omega)
  have hx := hcc m hm
  have hbl : b < u.heap.size := World.block_lt_of_cell? u _ hx.1
  have E : Hid (fixGood (symK o list) (f0', f1', (m : Int), f3') = keptS list o.syms[m]) := by
    show _ = _
    unfold fixGood symK
    simp [List.getD_eq_getElem?_getD, hm]
  have HX := Lib.hid hx
  have m1 : (m : Int) < (o.syms.length : Int) := by omega
  have m3 : (0 : Int) ≤ (m : Int) := by omega
  clear hx hcc hcell hf
  generalize o.syms[m] = x at *
  have HL := Lib.hid hL
  have HC := Lib.hid (hc.alloc (.cells #[.int .i64 f0', .int .i64 f1', .int .i64 (m : Int), .int .i64 f3'] 80))
  have HD := Lib.hid (hd.alloc (.cells #[.int .i64 f0', .int .i64 f1', .int .i64 (m : Int), .int .i64 f3'] 80))
  have HE := Lib.hid (he.alloc (.cells #[.int .i64 f0', .int .i64 f1', .int .i64 (m : Int), .int .i64 f3'] 80))
  have HN := Lib.hid (Blk.new u #[.int .i64 f0', .int .i64 f1', .int .i64 (m : Int), .int .i64 f3'] 80)
  have F1 := Lib.hid ((From.start u).alloc (.cells #[.int .i64 f0', .int .i64 f1', .int .i64 (m : Int), .int .i64 f3'] 80))
  clear hL hc hd he hy
  obtain ⟨n2, hn2⟩ : ∃ n2, o.syms.length = n2 := ⟨_, rfl⟩
  simp only [hn2] at HE m1 hm hcap
  clear hn2
  go_enter Try.func101, Try.ntmps101
  go_wp2_with fail
  generalize hw1 : u.alloc (.cells #[.int .i64 f0', .int .i64 f1', .int .i64 (m : Int), .int .i64 f3'] 80) = W at *
  clear hw1
  obtain ⟨N, hN⟩ : ∃ N, u.heap.size = N := ⟨_, rfl⟩
  simp only [hN] at HN hbl ⊢
  have HNe := Lib.hid hN
  clear hN
  let v0 : Nat → Value := fun i => match i with
    | 0 => .func (.func 97) #[] #[.pointer (some ⟨c, 0, none⟩)]
    | 1 => .pointer (some ⟨e0, 1, none⟩)
    | 2 => .slice (some ⟨b, off, none⟩) n2 yc
    | 3 => .pointer (some ⟨N, 2, none⟩)
    | 4 => .int .i64 (m : Int)
    | 5 => .pointer (some ⟨b, off + m * 4, none⟩)
    | 6 => symV x
    | 7 => .bool (keptS list x)
    | 8 => .bool (!keptS list x)
    | 9 => .bool (!keptS list x)
    | _ => undef
  refine wp_region_get (fun i v u => v = v0 i) (fun _ f u => From W.heap.size W u) [[], [], [1], [], [3], [2, 4], [5], [0, 6], [7], [8]] [[], [], [1], [], [3], [1, 2, 3, 4], [1, 2, 3, 4, 5], [0, 1, 2, 3, 4, 5, 6], [0, 1, 2, 3, 4, 5, 6, 7], [0, 1, 2, 3, 4, 5, 6, 7, 8]] [9] (by kernel_rfl) (by kernel_rfl) (by kernel_rfl) (by kernel_rfl) (by kernel_rfl) (From.start W).drew ?ho ?hq
  case ho =>
    refine ⟨?_, ?_, ?_, ?_, ?_, ?_, ?_, ?_, ?_, ?_, trivial⟩
    · intro n f A u2 K' hfr hn hl hS hv hK'
      have eA9 : A.tmps.getD 1 undef = .pointer (some ⟨d, 0, none⟩) := hfr 1 (no_dst (by kernel_rfl))
      have eB9 : (A.tmps[1]?).getD undef = .pointer (some ⟨d, 0, none⟩) := by simpa using eA9
      have cu := (HD.out.call hS.below).cell
      refine owe_run rfl (wp_val (v := .func (.func 97) #[] #[.pointer (some ⟨c, 0, none⟩)]) ?_ (hK' _ _ hS (fun _ _ _ h => h) (fun _ => rfl)))
      first
        | (go_simp; done)
        | (go_simp; rfl)
    · intro n f A u2 K' hfr hn hl hS hv hK'
      have eA9 : A.tmps.getD 2 undef = .pointer (some ⟨e0, 0, none⟩) := hfr 2 (no_dst (by kernel_rfl))
      have eB9 : (A.tmps[2]?).getD undef = .pointer (some ⟨e0, 0, none⟩) := by simpa using eA9
      refine owe_run rfl (wp_val (v := .pointer (some ⟨e0, 1, none⟩)) ?_ (hK' _ _ hS (fun _ _ _ h => h) (fun _ => rfl)))
      first
        | (go_simp; done)
        | (go_simp; rfl)
    · intro n f A u2 K' hfr hn hl hS hv hK'
      have eA0 : A.tmps.getD 6 undef = .pointer (some ⟨e0, 1, none⟩) := hv.1
      have eB0 : (A.tmps[6]?).getD undef = .pointer (some ⟨e0, 1, none⟩) := by simpa using eA0
      have cu := (HE.out.call hS.below).cell
      refine owe_run rfl (wp_val (v := .slice (some ⟨b, off, none⟩) n2 yc) ?_ (hK' _ _ hS (fun _ _ _ h => h) (fun _ => rfl)))
      first
        | (go_simp; done)
        | (go_simp; rfl)
    · intro n f A u2 K' hfr hn hl hS hv hK'
      have eA9 : A.tmps.getD 3 undef = .pointer (some ⟨N, 0, none⟩) := hfr 3 (no_dst (by kernel_rfl))
      have eB9 : (A.tmps[3]?).getD undef = .pointer (some ⟨N, 0, none⟩) := by simpa using eA9
      refine owe_run rfl (wp_val (v := .pointer (some ⟨N, 2, none⟩)) ?_ (hK' _ _ hS (fun _ _ _ h => h) (fun _ => rfl)))
      first
        | (go_simp; done)
        | (go_simp; rfl)
    · intro n f A u2 K' hfr hn hl hS hv hK'
      have eA0 : A.tmps.getD 8 undef = .pointer (some ⟨N, 2, none⟩) := hv.1
      have eB0 : (A.tmps[8]?).getD undef = .pointer (some ⟨N, 2, none⟩) := by simpa using eA0
      have cu := (HN.out.call hS.below).cell
      refine owe_run rfl (wp_val (v := .int .i64 (m : Int)) ?_ (hK' _ _ hS (fun _ _ _ h => h) (fun _ => rfl)))
      first
        | (go_simp; done)
        | (go_simp; rfl)
    · intro n f A u2 K' hfr hn hl hS hv hK'
      have eA0 : A.tmps.getD 7 undef = .slice (some ⟨b, off, none⟩) n2 yc := hv.1
      have eB0 : (A.tmps[7]?).getD undef = .slice (some ⟨b, off, none⟩) n2 yc := by simpa using eA0
      have eA1 : A.tmps.getD 9 undef = .int .i64 (m : Int) := hv.2.1
      have eB1 : (A.tmps[9]?).getD undef = .int .i64 (m : Int) := by simpa using eA1
      refine owe_run rfl (wp_val (v := .pointer (some ⟨b, off + m * 4, none⟩)) ?_ (hK' _ _ hS (fun _ _ _ h => h) (fun _ => rfl)))
      first
        | (go_simp; done)
        | (go_simp; rfl)
    · intro n f A u2 K' hfr hn hl hS hv hK'
      have eA0 : A.tmps.getD 10 undef = .pointer (some ⟨b, off + m * 4, none⟩) := hv.1
      have eB0 : (A.tmps[10]?).getD undef = .pointer (some ⟨b, off + m * 4, none⟩) := by simpa using eA0
      have hb2 : Below N u u2 := by have := (F1.out.call hS.below).below; rwa [HNe.out] at this
      have p0 := (hb2.cell (p := ⟨b, off + m * 4, none⟩) hbl).trans HX.out.1
      have p1 := (hb2.cell (p := ⟨b, off + m * 4 + 1, none⟩) hbl).trans HX.out.2.1
      have p2 := (hb2.cell (p := ⟨b, off + m * 4 + 2, none⟩) hbl).trans HX.out.2.2.1
      have p3 := (hb2.cell (p := ⟨b, off + m * 4 + 3, none⟩) hbl).trans HX.out.2.2.2
      refine owe_run rfl (wp_val (v := symV x) ?_ (hK' _ _ hS (fun _ _ _ h => h) (fun _ => rfl)))
      first
        | (go_simp; done)
        | (go_simp; rfl)
    · intro n f A u2 K' hfr hn hl hS hv hK'
      have eA0 : A.tmps.getD 5 undef = .func (.func 97) #[] #[.pointer (some ⟨c, 0, none⟩)] := hv.1
      have eB0 : (A.tmps[5]?).getD undef = .func (.func 97) #[] #[.pointer (some ⟨c, 0, none⟩)] := by simpa using eA0
      have eA1 : A.tmps.getD 11 undef = symV x := hv.2.1
      have eB1 : (A.tmps[11]?).getD undef = symV x := by simpa using eA1
      refine owe_run rfl (wp_fnv rfl eA0 (args1 eA1) (enter_fn Try.func97 (by kernel_rfl) rfl _ _) ((kept1 u2 x c za zc list (HL.out.below (Nat.le_refl _) (F1.out.call hS.below).below) (HC.out.call hS.below)).mono ?_))
      rintro e u3 ⟨rfl, k1⟩
      exact ⟨_, rfl, hK' _ _ (hS.call k1) (fun _ _ _ h => h) (fun _ => rfl)⟩
    · intro n f A u2 K' hfr hn hl hS hv hK'
      have eA0 : A.tmps.getD 12 undef = .bool (keptS list x) := hv.1
      have eB0 : (A.tmps[12]?).getD undef = .bool (keptS list x) := by simpa using eA0
      refine owe_run rfl (wp_val (v := .bool (!keptS list x)) ?_ (hK' _ _ hS (fun _ _ _ h => h) (fun _ => rfl)))
      first
        | (go_simp; done)
        | (go_simp; rfl)
    · intro n f A u2 K' hfr hn hl hS hv hK'
      have eA0 : A.tmps.getD 13 undef = .bool (!keptS list x) := hv.1
      have eB0 : (A.tmps[13]?).getD undef = .bool (!keptS list x) := by simpa using eA0
      refine owe_run rfl (wp_val (v := .bool (!keptS list x)) ?_ (hK' _ _ hS (fun _ _ _ h => h) (fun _ => rfl)))
      first
        | (go_simp; done)
        | (go_simp; rfl)
  case hq =>
    intro gg u2 hS hv
    have e9 : gg 9 = .bool (!keptS list x) := hv.2.2.2.2.2.2.2.2.2.1 (by decide)
    have HS := Lib.hid hS
    clear hv v0 hS
    simp only [List.map, putG, e9, Nat.zero_add, Nat.reduceAdd, List.setIfInBounds_toArray, List.set_cons_zero, List.set_cons_succ]
    clear e9
    have HF9 := Lib.hid (F1.out.call HS.out.below)
    go_wp2_with fail
    go_ret
    exact ⟨by rw [E.out]; try rfl, by have := HF9.out.below; rw [HNe.out] at *; exact this⟩
/-! KeepSecI -/
open Go.ChangeShapes Go.WideShapes Go.ChangeAt Go.RowKit Go.Joins
set_option linter.unusedSimpArgs false
set_option linter.unusedVariables false
set_option maxRecDepth 100000
/-- What a function ends in that hands back an object of its own and a truth. -/
def RetOB (w : World) (o : ObjD) (b : Bool) (e : Ending) (w' : World) : Prop := ∃ r, e = .returned (.tuple #[r, .bool b]) ∧ OwnObj w' w.heap.size r o ∧ Below w.heap.size w w'
theorem ownObj_nil (w : World) (B : Nat) : OwnObj w B (.agg #[.slice none 0 0, .slice none 0 0]) ⟨[], []⟩ :=
  ⟨_, _, [], rfl, rfl, ⟨World.ownsRow_nil _ _ _ _, (fun x hx => by cases hx), by simp [blksOf, Value.ownBlock]⟩, World.ownsRow_nil _ _ _ _, fun k hk => by cases hk⟩
theorem keepL_mapV {α β : Type} (f : α → β) (K : List Bool) (l : List α) : keepL K (l.map f) = (keepL K l).map f := (keepL_map f K l).symm
theorem blks_sub {a b : List (SecD × Value × Value)} (h : a.Sublist b) : (blksOf a).Sublist (blksOf b) := by
  induction h with
  | slnil => exact List.Sublist.refl _
  | cons x h ih =>
    unfold blksOf at ih ⊢
    rw [List.flatMap_cons]
    exact ih.trans (List.sublist_append_right _ _)
  | cons_cons x h ih =>
    unfold blksOf at ih ⊢
    rw [List.flatMap_cons, List.flatMap_cons]
    exact ih.append_left _
/-- Some of the sections, in a row of their own. -/
theorem OwnSecs.pickS {u : World} {B B' : Nat} {v v' : Value} {ls U : List (SecD × Value × Value)} (h : OwnSecs u B v ls) (hU : U.Sublist ls) (hrow : u.ownsRow B' 69 6 v' U.length (U.flatMap secL)) (hB : B ≤ B') : OwnSecs u B v' U := by
  refine ⟨owns_mono hrow hB, fun x hx => h.each x (hU.subset hx), ?_⟩
  have hn := List.nodup_append.1 h.nodup
  refine List.nodup_append.2 ⟨by cases v'.ownBlock <;> simp, (blks_sub hU).nodup hn.2.1, fun a ha c hc e => ?_⟩
  subst e
  obtain ⟨x, hx, hc⟩ := List.mem_flatMap.1 hc
  have hm := h.each x (hU.subset hx)
  rcases List.mem_append.1 hc with hc | hc
  · exact owns_ne hrow hm.1 (by decide) a (by simpa using ha) (by simpa using hc)
  · exact owns_ne hrow hm.2 (by decide) a (by simpa using ha) (by simpa using hc)
/-- Sections outlive what grows in blocks that are new. -/
theorem OwnSecs.keptOld {u u' : World} {B M : Nat} {v : Value} {ls : List (SecD × Value × Value)} {row : Option Nat} (h : OwnSecs u B v ls) (hlt : ∀ k ∈ v.ownBlock.toList ++ blksOf ls, k < M) (hg : u.grownBy u' row) (hr : ∀ k, row = some k → M ≤ k) : OwnSecs u' B v ls :=
  h.other (Other.grown (bs := row.toList) hg fun k hk => by simpa using hk) fun k hk hm => by have := hlt k hk; have := hr k (by simpa using hm); omega
set_option maxHeartbeats 8000000 in
theorem i_KeepSections (w : World) (v v2 : Value) (o : ObjD) (list : List Int) (h : ObjAt w v o) (hL : IntsAt w v2 list) (hs : (∀ s ∈ o.secs, s.name.size ≤ maxLen) ∧ ∀ s ∈ o.syms, s.name.size ≤ maxLen) :
    Calls Try.prog 43 #[v, v2] w (RetOB w (keepSO o list) (keepSB o list)) := by
  obtain ⟨i0, hi0, ia0, ia1, ia2⟩ := info_parts info_int
  obtain ⟨j0, hj0, ja0, ja1, ja2⟩ := info_parts info_sec
  have HOB := Lib.hid h
  have HN0 := Lib.hid hs
  obtain ⟨vs, vy, rfl, h1, h2⟩ := h
  obtain ⟨sa, sc, rfl, -⟩ := h1.form
  have HYo := Lib.hid h2
  obtain ⟨ya, yc, rfl, -⟩ := h2.form
  obtain ⟨za, zc, rfl, -⟩ := hL.form
  have HL := Lib.hid hL
  clear h1 h2 hs hL
  obtain ⟨n1, hn1⟩ : ∃ n1, o.secs.length = n1 := ⟨_, rfl⟩
  obtain ⟨n2, hn2⟩ : ∃ n2, o.syms.length = n2 := ⟨_, rfl⟩
  obtain ⟨n3, hn3⟩ : ∃ n3, list.length = n3 := ⟨_, rfl⟩
  have HN1 := Lib.hid hn1
  have HN2 := Lib.hid hn2
  have HN3 := Lib.hid hn3
  rw [hn1, hn2] at HOB
  rw [hn1, hn2, hn3]
  rw [hn2] at HYo
  rw [hn3] at HL
  clear hn1 hn2 hn3
  have HF0 := Lib.hid ((((From.start w).alloc (.cells #[.slice sa n1 sc, .slice ya n2 yc] 26)).alloc (.cells #[.slice za n3 zc] 52)).alloc (.cells #[.slice none 0 0, .slice none 0 0] 26))
  have HA0 := Lib.hid (((Blk.new w #[.slice sa n1 sc, .slice ya n2 yc] 26).alloc (.cells #[.slice za n3 zc] 52)).alloc (.cells #[.slice none 0 0, .slice none 0 0] 26))
  have hl0 : Blk ((w.alloc (.cells #[.slice sa n1 sc, .slice ya n2 yc] 26)).alloc (.cells #[.slice za n3 zc] 52)) (w.heap.size + 1) #[.slice za n3 zc] 52 := Blk.newAt _ _ _ _ (by simp)
  have HK0 := Lib.hid (hl0.alloc (.cells #[.slice none 0 0, .slice none 0 0] 26))
  have hr0 : Blk (((w.alloc (.cells #[.slice sa n1 sc, .slice ya n2 yc] 26)).alloc (.cells #[.slice za n3 zc] 52)).alloc (.cells #[.slice none 0 0, .slice none 0 0] 26)) (w.heap.size + 2) #[.slice none 0 0, .slice none 0 0] 26 := Blk.newAt _ _ _ _ (by simp)
  obtain ⟨X, hX⟩ : ∃ X, w.heap.size + 2 = X := ⟨_, rfl⟩
  have hXw : w.heap.size + 1 < X := by omega
  rw [hX] at hr0
  have HR0 := Lib.hid hr0
  have HXe := Lib.hid hX
  clear hl0 hr0 hX
  have e2 : w.heap.size + 1 + 1 = X := HXe.out
  cases hq : objB o
  · have E1 : keepSB o list = false := by unfold keepSB; rw [hq]; rfl
    have E2 : keepSO o list = ⟨[], []⟩ := by unfold keepSO; rw [E1]; rfl
    rw [E1, E2]
    go_enter Try.func43, Try.ntmps43
    have cA0 := HA0.out.cell
    have zA0 := HA0.out.lt
    go_wp2_with fail
    generalize hw1 : ((w.alloc (.cells #[.slice sa n1 sc, .slice ya n2 yc] 26)).alloc (.cells #[.slice za n3 zc] 52)).alloc (.cells #[.slice none 0 0, .slice none 0 0] 26) = w1 at *
    clear hw1
    try simp only [e2]
    clear e2 cA0 zA0
    refine (i_ObjectValid _ _ o (HOB.out.below (Nat.le_refl _) HF0.out.below) HN0.out).mono ?_
    rw [hq]
    rintro e w2 ⟨rfl, k2⟩
    have HF2 := Lib.hid (HF0.out.call k2)
    have HR2 := Lib.hid (HR0.out.call k2)
    have cR := HR2.out.cell
    have fR := HR2.out.frozen
    have zR := HR2.out.lt
    clear k2 hq
    go_wp2_with fail
    refine bodyPost_ret (v := .tuple #[.agg #[.slice none 0 0, .slice none 0 0], .bool false]) (by simp [results, Try.results43, go_sem, cR, zR]) rfl ⟨_, rfl, ownObj_nil _ _, ?_⟩
    exact ((HF2.out.setCell (p := ⟨X, 0, none⟩) (by show _ ≤ X; omega) (.slice none 0 0)).setCell (p := ⟨X, 1, none⟩) (by show _ ≤ X; omega) (.slice none 0 0)).below
  have HV := Lib.hid hq
  have HFew := Lib.hid (objB_fewO hq)
  have hf1 := (objB_few hq).1
  have hf2 := (objB_few hq).2
  rw [HN1.out] at hf1
  rw [HN2.out] at hf2
  have ESB : Hid (keepSB o list = goodB o list) := by show _ = _; unfold keepSB; rw [hq, Bool.true_and]
  go_enter Try.func43, Try.ntmps43
  have cA0 := HA0.out.cell
  have zA0 := HA0.out.lt
  go_wp2_with fail
  generalize hw1 : ((w.alloc (.cells #[.slice sa n1 sc, .slice ya n2 yc] 26)).alloc (.cells #[.slice za n3 zc] 52)).alloc (.cells #[.slice none 0 0, .slice none 0 0] 26) = w1 at *
  clear hw1
  try simp only [e2]
  clear e2 cA0 zA0
  refine (i_ObjectValid _ _ o (HOB.out.below (Nat.le_refl _) HF0.out.below) HN0.out).mono ?_
  rw [hq]
  rintro e w2 ⟨rfl, k2⟩
  have HF2 := Lib.hid ((HF0.out.call k2).alloc (.cells #[.func (.func 97) #[] #[.pointer (some ⟨w.heap.size + 1, 0, none⟩)]] 94))
  have HR2 := Lib.hid ((HR0.out.call k2).alloc (.cells #[.func (.func 97) #[] #[.pointer (some ⟨w.heap.size + 1, 0, none⟩)]] 94))
  have HA2 := Lib.hid ((HA0.out.call k2).alloc (.cells #[.func (.func 97) #[] #[.pointer (some ⟨w.heap.size + 1, 0, none⟩)]] 94))
  have HK2 := Lib.hid ((HK0.out.call k2).alloc (.cells #[.func (.func 97) #[] #[.pointer (some ⟨w.heap.size + 1, 0, none⟩)]] 94))
  have HD2 := Lib.hid (Blk.new w2 #[.func (.func 97) #[] #[.pointer (some ⟨w.heap.size + 1, 0, none⟩)]] 94)
  clear k2 hq HF0 HR0 HA0 HK0
  have hsf : ∀ (u : World) (a : Addr), (store a (.func (.func 97) #[] #[.pointer (some ⟨w.heap.size + 1, 0, none⟩)])).run Try.prog u = stored Try.prog u a (.func (.func 97) #[] #[.pointer (some ⟨w.heap.size + 1, 0, none⟩)]) .plain := fun u a => run_store Try.prog u a _ _ rfl
  go_wp2_with fail
  clear hsf
  generalize hw3 : w2.alloc (.cells #[.func (.func 97) #[] #[.pointer (some ⟨w.heap.size + 1, 0, none⟩)]] 94) = W at *
  clear hw3
  generalize w2.heap.size = D at *
  have zW := HR2.out.lt
  have zD := HD2.out.lt
  generalize hB : W.heap.size = B at *
  let VB : Bool → Nat → Value → World → Prop := fun b i v u => match i with
    | 0 => v = .pointer (some ⟨w.heap.size, 1, none⟩)
    | 1 => v = .slice ya n2 yc
    | 2 => OwnSyms u B v o.syms
    | 3 => ∃ qa qc, v = .agg #[.slice none 0 0, .slice qa o.syms.length qc] ∧ OwnSyms u B (.slice qa o.syms.length qc) o.syms
    | 4 => v = .pointer (some ⟨w.heap.size, 0, none⟩)
    | 5 => v = .slice sa n1 sc
    | 6 => v = .int .i64 (n1 : Int)
    | 7 => ∃ z, v = .slice (some ⟨z, 0, none⟩) n1 n1 ∧ u.ownsRow B 3 1 (.slice (some ⟨z, 0, none⟩) n1 n1) n1 (ivs (List.replicate n1 0))
    | 8 => ∃ q c, v = .pointer (some ⟨q, 0, none⟩) ∧ B ≤ q ∧ Blk u q c 26 ∧ c.size = 2 ∧ (b = true → ∃ qa qc, c = #[.slice none 0 0, .slice qa o.syms.length qc] ∧ OwnSyms u B (.slice qa o.syms.length qc) o.syms)
    | 10 => ∃ z, v = .slice (some ⟨z, 0, none⟩) n1 n1 ∧ u.ownsRow B 3 1 (.slice (some ⟨z, 0, none⟩) n1 n1) n1 (ivs (List.replicate n1 0))
    | _ => True
  let V : (Nat → Bool) → Nat → Value → World → Prop := fun f => VB (f 9)
  have hsame : ∀ k, k ≠ 9 → ∀ (f : Nat → Bool) j x u, V f j x u → V (setl f k) j x u := by
    intro k hk f j x u h
    show VB (setl f k 9) j x u
    rw [setl_ne (Ne.symm hk)]
    exact h
  have halloc : ∀ k, k ≠ 9 → ∀ (f : Nat → Bool) j x u u', Below u.heap.size u u' → V f j x u → V (setl f k) j x u' := by
    intro k hk f j x u u' hb h
    show VB (setl f k 9) j x u'
    rw [setl_ne (Ne.symm hk)]
    have h : VB (f 9) j x u := h
    rcases j with _ | _ | _ | _ | _ | _ | _ | _ | _ | _ | _ | j
    all_goals first
      | exact h
      | exact owns_call h hb
      | (obtain ⟨z, h4, h5⟩ := h
         exact ⟨z, h4, owns_call h5 hb⟩)
      | (obtain ⟨z, z', h4, h5⟩ := h
         exact ⟨z, z', h4, owns_call h5 hb⟩)
      | (obtain ⟨q, c, h4, h5, h6, h7, h8⟩ := h
         exact ⟨q, c, h4, h5, h6.call hb, h7, fun hh => (by obtain ⟨z, z', h9, h10⟩ := h8 hh; exact ⟨z, z', h9, owns_call h10 hb⟩)⟩)
  refine wp_region_flag V (fun _ _ u => From B W u) [[], [0], [1], [2], [], [4], [5], [6], [], [3, 8], [7]] [[], [0], [0, 1], [0, 1, 2], [], [4], [4, 5], [4, 5, 6], [], [0, 1, 2, 3, 8], [0, 1, 2, 3, 4, 5, 6, 7, 8, 9]] [8, 10] (by kernel_rfl) (by kernel_rfl) (by kernel_rfl) (by kernel_rfl) (by kernel_rfl) (by rw [← hB]; exact (From.start W).drew) ?ho ?hq
  case ho =>
    refine ⟨?_, ?_, ?_, ?_, ?_, ?_, ?_, ?_, ?_, ?_, ?_, trivial⟩
    · intro n f A u K' hfr hn hl hS hv hK'
      have eA9 : A.tmps.getD 2 undef = .pointer (some ⟨w.heap.size, 0, none⟩) := hfr 2 (not_dst (by kernel_rfl))
      have eB9 : (A.tmps[2]?).getD undef = .pointer (some ⟨w.heap.size, 0, none⟩) := by simpa using eA9
      refine owe_run rfl (wp_val (v := .pointer (some ⟨w.heap.size, 1, none⟩)) ?_ (hK' _ _ hS (fun j d hd hj h => hsame 0 (by decide) f j _ u h) (fun _ => rfl)))
      first
        | (go_simp; done)
        | (go_simp; rfl)
    · intro n f A u K' hfr hn hl hS hv hK'
      have eA0 : A.tmps.getD 18 undef = .pointer (some ⟨w.heap.size, 1, none⟩) := hv.1
      have eB0 : (A.tmps[18]?).getD undef = .pointer (some ⟨w.heap.size, 1, none⟩) := by simpa using eA0
      have cX := (HA2.out.below hS.below (by omega)).cell
      refine owe_run rfl (wp_val (v := .slice ya n2 yc) ?_ (hK' _ _ hS (fun j d hd hj h => hsame 1 (by decide) f j _ u h) (fun _ => rfl)))
      first
        | (go_simp; done)
        | (go_simp; rfl)
    · intro n f A u K' hfr hn hl hS hv hK'
      have h0 : A.tmps.getD 19 undef = .slice ya n2 yc := hv.1
      have q1 := cloneSyms u (.slice ya n2 yc) o.syms (HYo.out.below (Nat.le_refl _) (HF2.out.trans (hS.below.mono (by have := HF2.out.le; omega))).below) (by rw [HN2.out]; omega)
      refine owe_run rfl (wp_fn rfl (args1 h0) (enter_fn Try.func99 (by kernel_rfl) rfl _ _) (q1.mono ?_))
      rintro e u1 ⟨r, rfl, o5, h5⟩
      exact ⟨_, rfl, hK' _ _ (hS.call h5) (fun j d hd hj h => halloc 2 (by decide) f j _ u _ h5 h) (fun _ => owns_mono o5 hS.le)⟩
    · intro n f A u K' hfr hn hl hS hv hK'
      have h0 : OwnSyms u B (A.tmps.getD 20 undef) o.syms := hv.1
      obtain ⟨qa, qc, h1⟩ := owns_form h0
      rw [h1] at h0
      have eB0 : (A.tmps[20]?).getD undef = .slice qa o.syms.length qc := by simpa using h1
      refine owe_run rfl (wp_val (v := .agg #[.slice none 0 0, .slice qa o.syms.length qc]) ?_ (hK' _ _ hS (fun j d hd hj h => hsame 3 (by decide) f j _ u h) (fun _ => ⟨qa, qc, rfl, h0⟩)))
      first
        | (go_simp; done)
        | (go_simp; rfl)
    · intro n f A u K' hfr hn hl hS hv hK'
      have eA9 : A.tmps.getD 2 undef = .pointer (some ⟨w.heap.size, 0, none⟩) := hfr 2 (not_dst (by kernel_rfl))
      have eB9 : (A.tmps[2]?).getD undef = .pointer (some ⟨w.heap.size, 0, none⟩) := by simpa using eA9
      refine owe_run rfl (wp_val (v := .pointer (some ⟨w.heap.size, 0, none⟩)) ?_ (hK' _ _ hS (fun j d hd hj h => hsame 4 (by decide) f j _ u h) (fun _ => rfl)))
      first
        | (go_simp; done)
        | (go_simp; rfl)
    · intro n f A u K' hfr hn hl hS hv hK'
      have eA0 : A.tmps.getD 22 undef = .pointer (some ⟨w.heap.size, 0, none⟩) := hv.1
      have eB0 : (A.tmps[22]?).getD undef = .pointer (some ⟨w.heap.size, 0, none⟩) := by simpa using eA0
      have cX := (HA2.out.below hS.below (by omega)).cell
      refine owe_run rfl (wp_val (v := .slice sa n1 sc) ?_ (hK' _ _ hS (fun j d hd hj h => hsame 5 (by decide) f j _ u h) (fun _ => rfl)))
      first
        | (go_simp; done)
        | (go_simp; rfl)
    · intro n f A u K' hfr hn hl hS hv hK'
      have eA0 : A.tmps.getD 23 undef = .slice sa n1 sc := hv.1
      have eB0 : (A.tmps[23]?).getD undef = .slice sa n1 sc := by simpa using eA0
      refine owe_run rfl (wp_val (v := .int .i64 (n1 : Int)) ?_ (hK' _ _ hS (fun j d hd hj h => hsame 6 (by decide) f j _ u h) (fun _ => rfl)))
      first
        | (go_simp; done)
        | (go_simp; rfl)
    · intro n f A u K' hfr hn hl hS hv hK'
      have eA0 : A.tmps.getD 24 undef = .int .i64 (n1 : Int) := hv.1
      have eB0 : (A.tmps[24]?).getD undef = .int .i64 (n1 : Int) := by simpa using eA0
      obtain ⟨u', hrun, hown, hgr⟩ := run_make_full (P := Try.prog) u B 52 3 i0 (.int .i64 0) 1 Try.underlying52 hi0 ia0 ia1 .i64 .i64 n1 (by rw [ia2]; omega) (by unfold maxLen; omega) hS.le
      have hown' : u'.ownsRow B 3 1 (.slice (some ⟨u.heap.size, 0, none⟩) n1 n1) n1 (ivs (List.replicate n1 0)) := by
        have e : (madeCells (Value.int .i64 0).cells (n1 * 1)).toList = ivs (List.replicate n1 0) := by
          rw [Nat.mul_one]
          show (madeCells #[Value.int .i64 0] n1).toList = _
          rw [toList_madeCells_one]
          simp [ivs]
        rw [e] at hown
        exact hown
      refine owe_run rfl (wp_val (v := .slice (some ⟨u.heap.size, 0, none⟩) n1 n1) (w' := u') ?_ (hK' _ _ (hS.call (below_of_grown hgr)) (fun j d hd hj h => halloc 7 (by decide) f j _ u _ (below_of_grown hgr) h) (fun _ => ⟨_, rfl, hown'⟩)))
      simp [execOp, Act.eval, eB0, hrun]
    · intro n f A u K' hfr hn hl hS hv hK'
      refine owe_run rfl (wp_val (v := .pointer (some ⟨u.heap.size, 0, none⟩)) (w' := u.alloc (.cells #[.slice none 0 0, .slice none 0 0] 26)) ?_ (hK' _ _ (hS.alloc _) (fun j d hd hj h => halloc 8 (by decide) f j _ u _ ((From.start u).alloc _).below h) (fun _ => ⟨_, _, rfl, hS.le, Blk.new u _ _, rfl, fun hf => by rw [setl_ne (by decide), hl.2.2 9 (by decide)] at hf; cases hf⟩)))
      first
        | (go_simp; done)
        | (go_simp; rfl)
    · intro n f A u K' hfr hn hl hS hv hK'
      obtain ⟨⟨t1, t2, h0, hY1⟩, ⟨q, c, h2, h3, h4, h5, -⟩, -⟩ : (∃ qa qc, A.tmps.getD 21 undef = .agg #[.slice none 0 0, .slice qa o.syms.length qc] ∧ OwnSyms u B (.slice qa o.syms.length qc) o.syms) ∧ (∃ q c, A.tmps.getD 7 undef = .pointer (some ⟨q, 0, none⟩) ∧ B ≤ q ∧ Blk u q c 26 ∧ c.size = 2 ∧ (f 9 = true → ∃ qa qc, c = #[.slice none 0 0, .slice qa o.syms.length qc] ∧ OwnSyms u B (.slice qa o.syms.length qc) o.syms)) ∧ True := ⟨hv.1, hv.2.1, trivial⟩
      obtain ⟨z0, z1, rfl⟩ : ∃ z0 z1, c = #[z0, z1] := by
        rcases c with ⟨_ | ⟨z0, _ | ⟨z1, _ | ⟨z2, zr⟩⟩⟩⟩ <;> simp at h5
        exact ⟨z0, z1, rfl⟩
      have h0' : (A.tmps[21]?).getD undef = .agg #[.slice none 0 0, .slice t1 o.syms.length t2] := by simpa using h0
      have h2' : (A.tmps[7]?).getD undef = .pointer (some ⟨q, 0, none⟩) := by simpa using h2
      have cq := h4.cell
      have fq := h4.frozen
      have hB1 := h4.set (o := 0) (.slice none 0 0)
      have hB2 : Blk ((u.setCell ⟨q, 0, none⟩ (.slice none 0 0)).setCell ⟨q, 1, none⟩ (.slice t1 o.syms.length t2)) q #[.slice none 0 0, .slice t1 o.syms.length t2] 26 := by
        have := hB1.set (o := 1) (.slice t1 o.syms.length t2)
        simpa using this
      have hO2 : OwnSyms ((u.setCell ⟨q, 0, none⟩ (.slice none 0 0)).setCell ⟨q, 1, none⟩ (.slice t1 o.syms.length t2)) B (.slice t1 o.syms.length t2) o.syms := row_storeB (row_storeB hY1 h4 (by decide) 0 _) hB1 (by decide) 1 _
      refine owe_run rfl (wp_skp (w' := (u.setCell ⟨q, 0, none⟩ (.slice none 0 0)).setCell ⟨q, 1, none⟩ (.slice t1 o.syms.length t2)) ?_ (hK' undef _ ((hS.setCell (p := ⟨q, 0, none⟩) h3 _).setCell (p := ⟨q, 1, none⟩) h3 _) (fun j d hd hj h => ?_) (fun h => absurd rfl h)))
      · first
          | (go_simp; done)
          | (go_simp; rfl)
      · have h : VB (f 9) j (A.tmps.getD d undef) u := h
        show VB (setl f 9 9) j (A.tmps.getD d undef) _
        rcases j with _ | _ | _ | _ | _ | _ | _ | _ | _ | _ | _ | j
        · exact h
        · exact h
        · exact absurd hj (by decide)
        · exact absurd hj (by decide)
        · exact h
        · exact h
        · exact h
        · obtain ⟨z, h8, h9⟩ := h
          exact ⟨z, h8, row_storeB (row_storeB h9 h4 (by decide) 0 _) hB1 (by decide) 1 _⟩
        · have e13 := hd.symm.trans (show _ = some 7 by kernel_rfl)
          simp only [Option.some.injEq] at e13
          subst e13
          exact ⟨q, _, h2, h3, hB2, rfl, fun _ => ⟨_, _, rfl, hO2⟩⟩
        · trivial
        · obtain ⟨z, h8, h9⟩ := h
          exact ⟨z, h8, row_storeB (row_storeB h9 h4 (by decide) 0 _) hB1 (by decide) 1 _⟩
        · trivial
    · intro n f A u K' hfr hn hl hS hv hK'
      obtain ⟨z, e7, h9⟩ : ∃ z, A.tmps.getD 25 undef = .slice (some ⟨z, 0, none⟩) n1 n1 ∧ u.ownsRow B 3 1 (.slice (some ⟨z, 0, none⟩) n1 n1) n1 (ivs (List.replicate n1 0)) := hv.1
      have e8 : (A.tmps[25]?).getD undef = .slice (some ⟨z, 0, none⟩) n1 n1 := by simpa using e7
      refine owe_run rfl (wp_val (v := .slice (some ⟨z, 0, none⟩) n1 n1) ?_ (hK' _ _ hS (fun j d hd hj h => hsame 10 (by decide) f j _ u h) (fun _ => ⟨z, rfl, h9⟩)))
      first
        | (go_simp; done)
        | (go_simp; rfl)
  case hq =>
    intro gg u hS hv
    obtain ⟨q, c, eq5, hq, hBq, hc2, hOb⟩ : ∃ q c, gg 8 = .pointer (some ⟨q, 0, none⟩) ∧ B ≤ q ∧ Blk u q c 26 ∧ c.size = 2 ∧ (true = true → ∃ qa qc, c = #[.slice none 0 0, .slice qa o.syms.length qc] ∧ OwnSyms u B (.slice qa o.syms.length qc) o.syms) := hv.2.2.2.2.2.2.2.2.1 (by decide)
    obtain ⟨z, eq6, hZ⟩ : ∃ z, gg 10 = .slice (some ⟨z, 0, none⟩) n1 n1 ∧ u.ownsRow B 3 1 (.slice (some ⟨z, 0, none⟩) n1 n1) n1 (ivs (List.replicate n1 0)) := hv.2.2.2.2.2.2.2.2.2.1 (by decide)
    obtain ⟨qa, qc, rfl, hY⟩ := hOb rfl
    clear hv hc2 hOb hsame halloc V VB
    simp only [List.map, putG, List.setIfInBounds_toArray, List.set_cons_succ, List.set_cons_zero]
    simp only [Nat.zero_add, Nat.reduceAdd] at eq5 eq6 ⊢
    rw [eq5, eq6]
    have HF1 := Lib.hid (HF2.out.trans (hS.below.mono (show w.heap.size ≤ B by have := HF2.out.le; omega)))
    have HR1 := Lib.hid (HR2.out.below hS.below (by omega))
    have HA1 := Lib.hid (HA2.out.below hS.below (by omega))
    have HK1 := Lib.hid (HK2.out.below hS.below (by omega))
    have HD1 := Lib.hid (HD2.out.below hS.below (by omega))
    obtain ⟨KS, hKS⟩ : ∃ KS, secK list n1 = KS := ⟨_, rfl⟩
    have HKSe : Hid (secK list o.secs.length = KS) := by show _ = _; rw [HN1.out]; exact hKS
    have HKSl : Hid (KS.length = n1) := by show _ = _; rw [← hKS, secK_length]
    have HKSg : Hid (∀ k, k < n1 → KS[k]? = some (inI list k)) := fun k hk => by rw [← hKS]; exact secK_get? list n1 k hk
    clear hKS
    have HZ1 : Hid (u.ownsRow B 3 1 (.slice (some ⟨z, 0, none⟩) n1 n1) n1 (ivs (numL KS n1 0))) := by show World.ownsRow _ _ _ _ _ _ _; rw [numL_zero]; exact hZ
    have HY1 := Lib.hid hY
    have HQ1 := Lib.hid hBq
    have cA := HA1.out.cell
    have zA := HA1.out.lt
    clear hZ hY hBq hS HF2 HR2 HA2 HK2 HD2 eq5 eq6
    go_wp2_with fail
    refine (i_copyObject u _ o (HOB.out.below (Nat.le_refl _) HF1.out.below) HFew.out).mono ?_
    rintro e w5 ⟨r, rfl, ⟨vs, vy, ls, rfl, hse, hS1, hYc, -⟩, k5⟩
    have hls : ls.length = n1 := by have := congrArg List.length hse; rw [List.length_map, HN1.out] at this; exact this.symm
    have hrow := hS1.row
    rw [hls] at hrow
    obtain ⟨pa, pc, rfl⟩ := owns_form hrow
    obtain ⟨qy, qz, rfl⟩ := owns_form hYc
    clear hYc
    have HSlt := Lib.hid hS1.lt
    have HS5 := Lib.hid (hS1.mono (show B ≤ u.heap.size by have := HQ1.out.lt; omega))
    have HSE := Lib.hid hse
    have HLS := Lib.hid hls
    have HF5 := Lib.hid (HF1.out.call k5)
    have HR5 := Lib.hid (HR1.out.call k5)
    have HA5 := Lib.hid (HA1.out.call k5)
    have HK5 := Lib.hid (HK1.out.call k5)
    have HD5 := Lib.hid (HD1.out.call k5)
    have HQ5 := Lib.hid (HQ1.out.call k5)
    have HZ5 : Hid (w5.ownsRow B 3 1 (.slice (some ⟨z, 0, none⟩) n1 n1) n1 (ivs (numL KS n1 0))) := owns_call HZ1.out k5
    have HY5 : Hid (OwnSyms w5 B (.slice qa o.syms.length qc) o.syms) := owns_call HY1.out k5
    have hzB := (World.ownsRow.lt HZ5.out z rfl).1
    obtain ⟨M, hM⟩ : ∃ M, w5.heap.size = M := ⟨_, rfl⟩
    rw [hM] at HSlt
    have hwM : w.heap.size ≤ M := by have := HF5.out.le; omega
    have hBM : B ≤ M := by have := HQ5.out.lt; omega
    have HMe := Lib.hid hM
    rw [HN2.out] at HQ5 HY5
    have HN5 := Lib.hid HN2.out
    clear hrow hS1 hse hls k5 HF1 HR1 HA1 HK1 HD1 HQ1 HZ1 HY1 cA zA hM
    have hMw5 : M ≤ w5.heap.size := by rw [HMe.out]; exact Nat.le_refl _
    have hfd : ∀ (s t : Value) (u : World), (Instr.field 26 (.agg #[s, t]) 0).run Try.prog u = .ok s u := fun s t u => by first | rfl | kernel_rfl
    go_wp2_with fail
    clear hfd
    go_loopw [30] (fun i wr => ∃ (k : Nat) (U : List (SecD × Value × Value)) (oa : Option Addr) (oc : Nat), k ≤ n1 ∧ i = .int .i64 k ∧ U.length ≤ k ∧ M ≤ wr.heap.size ∧ Hid (U = keepL (KS.take k) (ls.take k)) ∧ Hid (∀ x ∈ keepL (KS.take k) (o.secs.take k), secGood (symK o list) x = true) ∧ Hid (OwnSecs wr B (.slice pa n1 pc) ls) ∧ Hid (wr.ownsRow M 69 6 (.slice oa U.length oc) U.length (U.flatMap secL)) ∧ Hid (wr.ownsRow B 3 1 (.slice (some ⟨z, 0, none⟩) n1 n1) n1 (ivs (numL KS n1 k))) ∧ Hid (OwnSyms wr B (.slice qa n2 qc) o.syms) ∧ Hid (Blk wr X #[.slice none 0 0, .slice none 0 0] 26) ∧ Hid (Blk wr q #[.slice oa U.length oc, .slice qa n2 qc] 26) ∧ Hid (Blk wr w.heap.size #[.slice sa n1 sc, .slice ya n2 yc] 26) ∧ Hid (Blk wr (w.heap.size + 1) #[.slice za n3 zc] 52) ∧ Hid (Blk wr D #[.func (.func 97) #[] #[.pointer (some ⟨w.heap.size + 1, 0, none⟩)]] 94) ∧ Hid (From w.heap.size w wr)) (fun i _ => n1 - (intOf i).toNat)
    case atStart => exact ⟨0, [], none, 0, Nat.zero_le _, rfl, Nat.zero_le _, hMw5, (by show _ = _; simp [keepL]), (by intro x hx; simp [keepL] at hx), HS5, World.ownsRow_nil _ _ _ _, HZ5, HY5, HR5, HQ5, HA5, HK5, HD5, HF5⟩
    case round =>
      clear HS5 HZ5 HY5 HR5 HQ5 HA5 HK5 HD5 HF5 hMw5
      obtain ⟨k, U, oa, oc, hk, rfl, hUl, hMw, HU, HG, HS, HO, HZ, HY, HR, HQ, HA, HK, HD, HF⟩ := hrel
      have cQ := HQ.out.cell
      have fQ := HQ.out.frozen
      have zQ := HQ.out.lt
      by_cases hlt : k < n1
      · have i1 : (k : Int) < (n1 : Int) := by omega
        have i3 : (0 : Int) ≤ (k : Int) := by omega
        have hltL : k < o.secs.length := by rw [HN1.out]; exact hlt
        have hltS : k < ls.length := by rw [HLS.out]; exact hlt
        have hxo : ls[k].1 = o.secs[k] := by have e := HSE.out; simp only [e, List.getElem_map]
        have HGx := Lib.hid (objB_sec HV.out (List.getElem_mem hltL))
        have HNU := Lib.hid (keepL_next (K := KS) (l := ls) (by rw [HKSl.out, HLS.out]) (List.getElem?_eq_getElem hltS) (HKSg.out k hlt))
        have HNG := Lib.hid (keepL_next (K := KS) (l := o.secs) (by rw [HKSl.out, HN1.out]) (List.getElem?_eq_getElem hltL) (HKSg.out k hlt))
        have HBAD : Hid (inI list k = true → secGood (symK o list) o.secs[k] = false → goodB o list = false) := fun h1 h2 => by
          unfold goodB
          rw [List.all_eq_false]
          refine ⟨o.secs[k], ?_, by rw [h2]; simp⟩
          have h3 := keepL_get KS o.secs k (by rw [HKSg.out k hlt, h1])
          rw [HKSe.out]
          exact List.mem_of_getElem? (h3.trans (List.getElem?_eq_getElem hltL))
        rw [← hxo] at HGx HNG HBAD
        have hm := HS.out.each ls[k] (List.getElem_mem hltS)
        have hget : ls[k]? = some ls[k] := List.getElem?_eq_getElem hltS
        obtain ⟨y, hy⟩ : ∃ y, ls[k] = y := ⟨_, rfl⟩
        rw [hy] at HGx HNU HNG HBAD hm hget
        clear hxo hy
        obtain ⟨x, vb, vf⟩ := y
        simp only at HGx HNG HBAD hm
        obtain ⟨ba, bc, rfl⟩ : ∃ ba bc, vb = .slice ba x.bytes.length bc := owns_form hm.1
        obtain ⟨fa, fc, rfl⟩ : ∃ fa fc, vf = .slice fa x.fix.length fc := owns_form hm.2
        obtain ⟨pg, pg2, hpv⟩ := row_some HS.out.row (by intro e; simp only [Value.slice.injEq] at e; omega)
        simp only [Value.slice.injEq] at hpv
        obtain ⟨rfl, -, rfl⟩ := hpv
        have hcell : ∀ j u', (secL (x, Value.slice ba x.bytes.length bc, Value.slice fa x.fix.length fc))[j]? = some u' → wr.cell? ⟨pg, k * 6 + j, none⟩ = some u' := fun j u' hj => by
          have hj6 : j < 6 := by have := (List.getElem?_eq_some_iff.1 hj).1; rw [secL_length] at this; exact this
          have hr6 := HS.out.row
          rw [HLS.out] at hr6
          rw [World.ownsRow.cellAt hr6 (k * 6 + j) (by omega), rows_at secL 6 secL_length hget j hj6, hj]
        have q0 := hcell 0 (.string x.name) rfl
        have q1 := hcell 1 (.int .i64 x.kind) rfl
        have q2 := hcell 2 (.int .i64 x.align) rfl
        have q3 := hcell 3 (.slice ba x.bytes.length bc) rfl
        have q4 := hcell 4 (.int .i64 x.size) rfl
        have q5 := hcell 5 (.slice fa x.fix.length fc) rfl
        rw [Nat.add_zero] at q0
        have HFA : Hid (FixAt wr (.slice fa x.fix.length fc) x.fix) := OwnF.reads hm.2
        obtain ⟨nb, hnb⟩ : ∃ nb, x.bytes.length = nb := ⟨_, rfl⟩
        obtain ⟨nf, hnf⟩ : ∃ nf, x.fix.length = nf := ⟨_, rfl⟩
        rw [hnb] at q3 HNU
        rw [hnf] at q5 HNU HFA
        obtain ⟨uz, hcz⟩ : ∃ uz, wr.cell? ⟨z, k, none⟩ = some uz := ⟨_, (HZ.out.cellAt k (by omega)).trans (List.getElem?_eq_getElem (by rw [HZ.out.1]; omega))⟩
        have fz := HZ.out.frozenAt k
        have hzl := (World.ownsRow.lt HZ.out z rfl).2
        have hzq : z ≠ q := fun e => blk_apart HQ.out HZ.out (by decide) (by rw [e]; rfl)
        have hzD : z ≠ D := fun e => blk_apart HD.out HZ.out (by decide) (by rw [e]; rfl)
        have hst := World.ownsRow.stored HZ.out k (.int .i64 (U.length : Int))
        have hUk : U.length = keptN KS k := by rw [HU.out]; exact keepL_len KS ls (by rw [HKSl.out, HLS.out]) k
        have hmem := List.mem_of_getElem? hget
        rw [hnb, hnf] at hmem
        have HMEM := Lib.hid hmem
        have cK := HK.out.cell
        have zK := HK.out.lt
        clear hm hget hcell hnb hmem
        have HNF := Lib.hid hnf
        clear hnf
        have hz1 : (wr.setCell ⟨z, k, none⟩ (.int .i64 (U.length : Int))).heap.size = wr.heap.size := by simp [World.setCell]
        have HZa : Hid (((wr.setCell ⟨z, k, none⟩ (.int .i64 (U.length : Int))).alloc (.cells #[.string x.name, .int .i64 x.kind, .int .i64 x.align, .slice ba nb bc, .int .i64 x.size, .slice fa nf fc] 69)).ownsRow B 3 1 (.slice (some ⟨z, 0, none⟩) n1 n1) n1 (ivs (numL KS n1 (k + 1)))) := by
          show World.ownsRow _ _ _ _ _ _ _
          rw [numL_step KS n1 k hlt, ivs_set, ← hUk]
          exact World.ownsRow.alloc hst.1 _
        have HSa := Lib.hid ((OwnSecs.keptNe HS.out HZ.out (by decide) (by decide) (by decide) hst.2).alloc (.cells #[.string x.name, .int .i64 x.kind, .int .i64 x.align, .slice ba nb bc, .int .i64 x.size, .slice fa nf fc] 69))
        have HOa : Hid (((wr.setCell ⟨z, k, none⟩ (.int .i64 (U.length : Int))).alloc (.cells #[.string x.name, .int .i64 x.kind, .int .i64 x.align, .slice ba nb bc, .int .i64 x.size, .slice fa nf fc] 69)).ownsRow M 69 6 (.slice oa U.length oc) U.length (U.flatMap secL)) := World.ownsRow.alloc (owns_keptNe HO.out HZ.out (by decide) hst.2) _
        have HYa : Hid (OwnSyms ((wr.setCell ⟨z, k, none⟩ (.int .i64 (U.length : Int))).alloc (.cells #[.string x.name, .int .i64 x.kind, .int .i64 x.align, .slice ba nb bc, .int .i64 x.size, .slice fa nf fc] 69)) B (.slice qa n2 qc) o.syms) := World.ownsRow.alloc (owns_keptNe HY.out HZ.out (by decide) hst.2) _
        have HRa := Lib.hid ((HR.out.other (p := ⟨z, k, none⟩) (by show z ≠ _; omega) (.int .i64 (U.length : Int))).alloc (.cells #[.string x.name, .int .i64 x.kind, .int .i64 x.align, .slice ba nb bc, .int .i64 x.size, .slice fa nf fc] 69))
        have HQa := Lib.hid ((HQ.out.other (p := ⟨z, k, none⟩) hzq (.int .i64 (U.length : Int))).alloc (.cells #[.string x.name, .int .i64 x.kind, .int .i64 x.align, .slice ba nb bc, .int .i64 x.size, .slice fa nf fc] 69))
        have HAa := Lib.hid ((HA.out.other (p := ⟨z, k, none⟩) (by show z ≠ _; omega) (.int .i64 (U.length : Int))).alloc (.cells #[.string x.name, .int .i64 x.kind, .int .i64 x.align, .slice ba nb bc, .int .i64 x.size, .slice fa nf fc] 69))
        have HKa := Lib.hid ((HK.out.other (p := ⟨z, k, none⟩) (by show z ≠ _; omega) (.int .i64 (U.length : Int))).alloc (.cells #[.string x.name, .int .i64 x.kind, .int .i64 x.align, .slice ba nb bc, .int .i64 x.size, .slice fa nf fc] 69))
        have HDa := Lib.hid ((HD.out.other (p := ⟨z, k, none⟩) hzD (.int .i64 (U.length : Int))).alloc (.cells #[.string x.name, .int .i64 x.kind, .int .i64 x.align, .slice ba nb bc, .int .i64 x.size, .slice fa nf fc] 69))
        have HFa := Lib.hid ((HF.out.setCell (p := ⟨z, k, none⟩) (by show _ ≤ z; omega) (.int .i64 (U.length : Int))).alloc (.cells #[.string x.name, .int .i64 x.kind, .int .i64 x.align, .slice ba nb bc, .int .i64 x.size, .slice fa nf fc] 69))
        have HXa := Lib.hid (Blk.new (wr.setCell ⟨z, k, none⟩ (.int .i64 (U.length : Int))) #[.string x.name, .int .i64 x.kind, .int .i64 x.align, .slice ba nb bc, .int .i64 x.size, .slice fa nf fc] 69)
        rw [hz1] at HXa
        have hMa : M ≤ ((wr.setCell ⟨z, k, none⟩ (.int .i64 (U.length : Int))).alloc (.cells #[.string x.name, .int .i64 x.kind, .int .i64 x.align, .slice ba nb bc, .int .i64 x.size, .slice fa nf fc] 69)).heap.size := by simp [World.setCell]; omega
        clear hst hUk hz1 HFA
        go_wp2_with fail
        generalize hwa : (wr.setCell ⟨z, k, none⟩ (.int .i64 (U.length : Int))).alloc (.cells #[.string x.name, .int .i64 x.kind, .int .i64 x.align, .slice ba nb bc, .int .i64 x.size, .slice fa nf fc] 69) = wa at *
        clear hwa
        generalize hX1 : wr.heap.size = X1 at *
        clear cQ fQ zQ cK zK q0 q1 q2 q3 q4 q5 hcz fz hzl hX1 HS HO HZ HY HR HQ HA HK HD HF
        refine (containsInt_any wa _ list (k : Int) (HL.out.below (Nat.le_refl _) HFa.out.below)).mono ?_
        rintro e w6 ⟨rfl, k6⟩
        have hM6 : M ≤ w6.heap.size := Nat.le_trans hMa k6.size
        have HZ6 : Hid (w6.ownsRow B 3 1 (.slice (some ⟨z, 0, none⟩) n1 n1) n1 (ivs (numL KS n1 (k + 1)))) := owns_call HZa.out k6
        have HS6 := Lib.hid (HSa.out.call k6)
        have HO6 : Hid (w6.ownsRow M 69 6 (.slice oa U.length oc) U.length (U.flatMap secL)) := owns_call HOa.out k6
        have HY6 : Hid (OwnSyms w6 B (.slice qa n2 qc) o.syms) := owns_call HYa.out k6
        have HR6 := Lib.hid (HRa.out.call k6)
        have HQ6 := Lib.hid (HQa.out.call k6)
        have HA6 := Lib.hid (HAa.out.call k6)
        have HK6 := Lib.hid (HKa.out.call k6)
        have HD6 := Lib.hid (HDa.out.call k6)
        have HF6 := Lib.hid (HFa.out.call k6)
        have HX6 := Lib.hid (HXa.out.call k6)
        clear k6 HZa HSa HOa HYa HRa HQa HAa HKa HDa HFa HXa hMa
        cases hin : inI list k
        · have HU2 : Hid (U = keepL (KS.take (k + 1)) (ls.take (k + 1))) := by show _ = _; rw [HNU.out, hin, HU.out]; simp
          have HG2 : Hid (∀ x ∈ keepL (KS.take (k + 1)) (o.secs.take (k + 1)), secGood (symK o list) x = true) := fun y hy => HG.out y (by rw [HNG.out, hin] at hy; simpa using hy)
          clear hin HNU HNG HBAD
          go_wp2_with fail
          go_roundw
          case rel => exact ⟨k + 1, U, oa, oc, by omega, by go_num, by omega, hM6, HU2, HG2, HS6, HO6, HZ6, HY6, HR6, HQ6, HA6, HK6, HD6, HF6⟩
          case measure => simp [intOf]; try omega
        have HBAD2 := Lib.hid (HBAD.out hin)
        have HU2 : Hid (U ++ [(x, Value.slice ba nb bc, Value.slice fa nf fc)] = keepL (KS.take (k + 1)) (ls.take (k + 1))) := by show _ = _; rw [HNU.out, hin, HU.out]; simp
        have HNG2 : Hid (keepL (KS.take (k + 1)) (o.secs.take (k + 1)) = keepL (KS.take k) (o.secs.take k) ++ [x]) := by show _ = _; rw [HNG.out, hin]; simp
        have HFX6 : Hid (FixAt w6 (.slice fa nf fc) x.fix) := OwnF.reads (HS6.out.each _ HMEM.out).2
        clear hin HNU HNG HBAD
        have cX := HX6.out.cell
        have zX := HX6.out.lt
        go_wp2_with fail
        have HCF := Lib.hid (containsFuncFix_any 101 #[.pointer (some ⟨D, 0, none⟩), .pointer (some ⟨w.heap.size, 0, none⟩)] (fun f => !fixGood (symK o list) f) (fun args u => enter_fn Try.func101 (by kernel_rfl) rfl args u) w6 _ x.fix HFX6.out (fun y hy u' hu => by
          have hL' := HL.out.below (Nat.le_refl _) (HF6.out.below.trans (hu.mono HF6.out.le))
          have hK' := HK6.out.call hu
          have hA' := HA6.out.call hu
          have hy' := HYo.out.below (Nat.le_refl _) (HF6.out.below.trans (hu.mono HF6.out.le))
          rw [← HN3.out] at hL' hK'
          rw [← HN2.out] at hA' hy'
          exact kept2 u' y (w.heap.size + 1) D w.heap.size za zc list hL' hK' _ (HD6.out.call hu) o _ ya yc hy' hA' (HGx.out.fix y hy).to))
        refine HCF.out.mono ?_
        rintro e w7 ⟨rfl, k7⟩
        have hM7 : M ≤ w7.heap.size := Nat.le_trans hM6 k7.size
        have HZ7 : Hid (w7.ownsRow B 3 1 (.slice (some ⟨z, 0, none⟩) n1 n1) n1 (ivs (numL KS n1 (k + 1)))) := owns_call HZ6.out k7
        have HS7 := Lib.hid (HS6.out.call k7)
        have HO7 : Hid (w7.ownsRow M 69 6 (.slice oa U.length oc) U.length (U.flatMap secL)) := owns_call HO6.out k7
        have HY7 : Hid (OwnSyms w7 B (.slice qa n2 qc) o.syms) := owns_call HY6.out k7
        have HR7 := Lib.hid (HR6.out.call k7)
        have HQ7 := Lib.hid (HQ6.out.call k7)
        have HA7 := Lib.hid (HA6.out.call k7)
        have HK7 := Lib.hid (HK6.out.call k7)
        have HD7 := Lib.hid (HD6.out.call k7)
        have HF7 := Lib.hid (HF6.out.call k7)
        have HX7 := Lib.hid (HX6.out.call k7)
        clear k7 HZ6 HS6 HO6 HY6 HR6 HQ6 HA6 HK6 HD6 HF6 HX6 hM6 HCF HFX6 cX zX
        cases hany : x.fix.any (fun f => !fixGood (symK o list) f)
        case true =>
          have hbad : secGood (symK o list) x = false := by
            unfold secGood
            rw [List.all_eq_false]
            obtain ⟨f, hf, hb⟩ := List.any_eq_true.1 hany
            exact ⟨f, hf, by simpa using hb⟩
          have E1 : keepSB o list = false := by rw [ESB.out]; exact HBAD2.out hbad
          have E2 : keepSO o list = ⟨[], []⟩ := by unfold keepSO; rw [E1]; rfl
          have HE1 := Lib.hid E1
          have HE2 := Lib.hid E2
          clear hany hbad E1 E2
          have cR := HR7.out.cell
          have fR := HR7.out.frozen
          have zR := HR7.out.lt
          go_wp2_with fail
          refine bodyPost_ret (v := .tuple #[.agg #[.slice none 0 0, .slice none 0 0], .bool false]) (by simp [results, Try.results43, go_sem, cR, zR]) rfl ⟨_, by rw [HE1.out], by rw [HE2.out]; exact ownObj_nil _ _, ?_⟩
          exact ((HF7.out.setCell (p := ⟨X, 0, none⟩) (by show _ ≤ X; omega) (.slice none 0 0)).setCell (p := ⟨X, 1, none⟩) (by show _ ≤ X; omega) (.slice none 0 0)).below
        have hgood : secGood (symK o list) x = true := by
          unfold secGood
          rw [List.all_eq_true]
          intro f hf
          have := (List.any_eq_false.1 hany) f hf
          simpa using this
        have HG2 : Hid (∀ x ∈ keepL (KS.take (k + 1)) (o.secs.take (k + 1)), secGood (symK o list) x = true) := fun y hy => by
          rw [HNG2.out] at hy
          rcases List.mem_append.1 hy with hy | hy
          · exact HG.out y hy
          · obtain rfl := List.mem_singleton.1 hy; exact hgood
        clear hany hgood HBAD2 HNG2 HG HU
        have cQ := HQ7.out.cell
        have fQ := HQ7.out.frozen
        have zQ := HQ7.out.lt
        have cX := HX7.out.cell
        have zX := HX7.out.lt
        go_wp2_with (at_builtin; refine wpList_append_own rfl (.tmp 51) (.tmp 53) 23 23 rfl M 69 j0 _ 6 88 Try.underlying23 hj0 ja0 ja1 ja2 rfl (by decide) _ _ _ rfl (World.ownsRow.alloc HO7.out _) _ 1 [_, _, _, _, _, _] rfl (src_new Try.underlying23 _ [_, _, _, _, _, _] 6 1 1 _ rfl ?c0) ?c1 ?c2 ?c3 ?_)
        case c0 =>
          intro u hu
          simp only [List.mem_cons, List.not_mem_nil, or_false] at hu
          rcases hu with rfl | rfl | rfl | rfl | rfl | rfl <;> rfl
        case c1 => unfold maxLen; omega
        case c2 => omega
        case c3 => first | omega | (simp; omega)
        intro v' w8 hown hgr hpl
        have hown2 : w8.ownsRow M 69 6 v' (U ++ [(x, Value.slice ba nb bc, Value.slice fa nf fc)]).length ((U ++ [(x, Value.slice ba nb bc, Value.slice fa nf fc)]).flatMap secL) := by
          rw [List.length_append, List.flatMap_append]
          simpa using hown
        obtain ⟨oa2, oc2, rfl⟩ := owns_form hown2
        obtain ⟨U2, hU2⟩ : ∃ U2, U ++ [(x, Value.slice ba nb bc, Value.slice fa nf fc)] = U2 := ⟨_, rfl⟩
        have hl2 : U2.length ≤ k + 1 := by rw [← hU2, List.length_append]; simp; omega
        rw [hU2] at hown2 HU2
        rw [hU2]
        have hOr : (w7.alloc (.cells #[.string x.name, .int .i64 x.kind, .int .i64 x.align, .slice ba nb bc, .int .i64 x.size, .slice fa nf fc] 69)).ownsRow M 69 6 (.slice oa U.length oc) U.length (U.flatMap secL) := World.ownsRow.alloc HO7.out _
        have hrw : ∀ k', (Value.slice oa U.length oc).ownBlock = some k' → M ≤ k' := fun k' hk' => (World.ownsRow.lt HO7.out k' hk').1
        have hZ8 : w8.ownsRow B 3 1 (.slice (some ⟨z, 0, none⟩) n1 n1) n1 (ivs (numL KS n1 (k + 1))) := owns_keptNe (World.ownsRow.alloc HZ7.out _) hOr (by decide) hgr
        have hS8 : OwnSecs w8 B (.slice (some ⟨pg, 0, none⟩) n1 pc) ls := (HS7.out.alloc _).keptOld (fun k' hk' => (HSlt.out k' hk').2) hgr hrw
        have hY8 : OwnSyms w8 B (.slice qa n2 qc) o.syms := owns_keptNe (World.ownsRow.alloc HY7.out _) hOr (by decide) hgr
        have hQ8 : Blk w8 q #[.slice oa U.length oc, .slice qa n2 qc] 26 := Blk.grown (HQ7.out.alloc _) hgr (fun e => blk_apart (HQ7.out.alloc _) hOr (by decide) e)
        have hR8 := Blk.grown (HR7.out.alloc (.cells #[.string x.name, .int .i64 x.kind, .int .i64 x.align, .slice ba nb bc, .int .i64 x.size, .slice fa nf fc] 69)) hgr (fun e => blk_apart (HR7.out.alloc _) hOr (by decide) e)
        have hA8 := Blk.grown (HA7.out.alloc (.cells #[.string x.name, .int .i64 x.kind, .int .i64 x.align, .slice ba nb bc, .int .i64 x.size, .slice fa nf fc] 69)) hgr (fun e => blk_apart (HA7.out.alloc _) hOr (by decide) e)
        have hK8 := Blk.grown (HK7.out.alloc (.cells #[.string x.name, .int .i64 x.kind, .int .i64 x.align, .slice ba nb bc, .int .i64 x.size, .slice fa nf fc] 69)) hgr (fun e => blk_apart (HK7.out.alloc _) hOr (by decide) e)
        have hD8 := Blk.grown (HD7.out.alloc (.cells #[.string x.name, .int .i64 x.kind, .int .i64 x.align, .slice ba nb bc, .int .i64 x.size, .slice fa nf fc] 69)) hgr (fun e => blk_apart (HD7.out.alloc _) hOr (by decide) e)
        have hF8 := From.grown (HF7.out.alloc (.cells #[.string x.name, .int .i64 x.kind, .int .i64 x.align, .slice ba nb bc, .int .i64 x.size, .slice fa nf fc] 69)) hgr (fun k' hk' => by have := hrw k' hk'; omega)
        have hM8 : M ≤ (w8.setCell ⟨q, 0, none⟩ (.slice oa2 U2.length oc2)).heap.size := by have := hgr.size; simp [World.setCell] at this ⊢; omega
        have hqw : w.heap.size + 1 < q := by omega
        have nqD : q ≠ D := fun e => by
          have h7 := hQ8; have h9 := hD8
          rw [e] at h7
          unfold Blk at h7 h9
          rw [h7] at h9
          simp at h9
        have HZ9 := Lib.hid (row_storeB hZ8 hQ8 (by decide) 0 (.slice oa2 U2.length oc2))
        have HS9 := Lib.hid (hS8.storeB hQ8 (by decide) (by decide) (by decide) 0 (.slice oa2 U2.length oc2))
        have HO9 := Lib.hid (row_storeB hown2 hQ8 (by decide) 0 (.slice oa2 U2.length oc2))
        have HY9 : Hid (OwnSyms (w8.setCell ⟨q, 0, none⟩ (.slice oa2 U2.length oc2)) B (.slice qa n2 qc) o.syms) := row_storeB hY8 hQ8 (by decide) 0 (.slice oa2 U2.length oc2)
        have HR9 := Lib.hid (hR8.other (p := ⟨q, 0, none⟩) (by show q ≠ _; omega) (.slice oa2 U2.length oc2))
        have HA9 := Lib.hid (hA8.other (p := ⟨q, 0, none⟩) (by show q ≠ _; omega) (.slice oa2 U2.length oc2))
        have HK9 := Lib.hid (hK8.other (p := ⟨q, 0, none⟩) (by show q ≠ _; omega) (.slice oa2 U2.length oc2))
        have HD9 := Lib.hid (hD8.other (p := ⟨q, 0, none⟩) nqD (.slice oa2 U2.length oc2))
        have HF9 := Lib.hid (hF8.setCell (p := ⟨q, 0, none⟩) (by show _ ≤ q; omega) (.slice oa2 U2.length oc2))
        have HQ9 : Hid (Blk (w8.setCell ⟨q, 0, none⟩ (.slice oa2 U2.length oc2)) q #[.slice oa2 U2.length oc2, .slice qa n2 qc] 26) := by
          show Blk _ _ _ _
          have := hQ8.set (o := 0) (.slice oa2 U2.length oc2)
          simpa using this
        have cQ8 := hQ8.cell
        have fQ8 := hQ8.frozen
        have zQ8 := hQ8.lt
        clear hown hown2 hgr hpl hU2 hOr hrw hZ8 hS8 hY8 hQ8 hR8 hA8 hK8 hD8 hF8 HZ7 HS7 HO7 HY7 HR7 HQ7 HA7 HK7 HD7 HF7 HX7 cQ fQ zQ cX zX nqD
        go_wp2_with fail
        go_roundw
        case rel => exact ⟨k + 1, U2, oa2, oc2, by omega, by go_num, hl2, hM8, HU2, HG2, HS9, HO9, HZ9, HY9, HR9, HQ9, HA9, HK9, HD9, HF9⟩
        case measure => simp [intOf]; try omega
      · obtain rfl : n1 = k := by omega
        have hUf : U = keepL KS ls := by
          have := HU.out
          rw [← HLS.out, List.take_length, HLS.out, ← HKSl.out, List.take_length] at this
          exact this
        have hgood : goodB o list = true := by
          unfold goodB
          rw [HKSe.out, List.all_eq_true]
          intro y hy
          refine HG.out y ?_
          rw [← HKSl.out, List.take_length, HKSl.out, ← HN1.out, List.take_length]
          exact hy
        have HGB := Lib.hid hgood
        have hUs : U.Sublist ls := by rw [hUf]; exact keepL_sub _ _
        have hUm : U.map (·.1) = keepL KS o.secs := by rw [hUf, keepL_map, ← HSE.out]
        have HUM := Lib.hid hUm
        have HSU := Lib.hid (HS.out.pickS hUs HO.out hBM)
        have hfx : ∀ s ∈ (⟨U.map (·.1), o.syms⟩ : ObjD).secs, ∀ f ∈ s.fix, 0 ≤ f.2.2.1 ∧ f.2.2.1 < (⟨U.map (·.1), o.syms⟩ : ObjD).syms.length := fun s hs f hf => by
          have hs' : s ∈ keepL KS o.secs := by rw [← hUm]; exact hs
          exact ((objB_sec HV.out ((keepL_sub _ _).subset hs')).fix f hf).to
        have HFX := Lib.hid hfx
        have hfew : FewObj (⟨U.map (·.1), o.syms⟩ : ObjD) := by
          refine ⟨by rw [List.length_map]; omega, by show o.syms.length ≤ _; rw [HN2.out]; omega, fun s hs => ?_⟩
          have hs' : s ∈ keepL KS o.secs := by rw [← hUm]; exact hs
          exact HFew.out.2.2 s ((keepL_sub _ _).subset hs')
        have HFEW := Lib.hid hfew
        have HOu : Hid (ObjAt wr (.agg #[.slice oa U.length oc, .slice qa n2 qc]) (⟨U.map (·.1), o.syms⟩ : ObjD)) := by
          refine ⟨_, _, rfl, ⟨U, rfl, HSU.out.reads⟩, ?_⟩
          have h5 := HY.out
          rw [← HN5.out] at h5 ⊢
          exact OwnSyms.reads h5
        have ESO : Hid (keepSO o list = ⟨(U.map (·.1)).map (secTo (symK o list)), (keepL (symK o list) o.syms).map (whrTo KS)⟩) := by
          show _ = _
          unfold keepSO
          rw [ESB.out, hgood, if_pos rfl]
          unfold keepSec
          rw [HKSe.out, hUm, ← keepL_map (secTo (symK o list)) KS o.secs]
        have EM : Hid (keepO (⟨U.map (·.1), o.syms⟩ : ObjD) (maskL (fun (_ : Nat) s => keptS list s) o.syms) = ⟨(U.map (·.1)).map (secTo (symK o list)), keepL (symK o list) o.syms⟩) := by
          show _ = _
          have e : maskL (fun (_ : Nat) s => keptS list s) o.syms = symK o list := by
            unfold maskL symK
            refine List.ext_getElem (by simp) fun i h1 h2 => by simp
          rw [e]; rfl
        clear hUf hgood hUs hUm hfx hfew HG HU HS HO HY HSlt
        go_wp2_with fail
        refine (i_keepSymbols 102 #[.pointer (some ⟨D, 0, none⟩)] (fun (_ : Nat) s => keptS list s) (fun args u => enter_fn Try.func102 (by kernel_rfl) rfl args u) wr _ (⟨U.map (·.1), o.syms⟩ : ObjD) HOu.out HFEW.out HFX.out
          (fun k hk u hu => by
            have hL' := HL.out.below (Nat.le_refl _) (HF.out.below.trans (hu.mono HF.out.le))
            have hK' := HK.out.call hu
            rw [← HN3.out] at hL' hK'
            exact kept3 u k _ (w.heap.size + 1) D za zc list hL' hK' _ (HD.out.call hu))).mono ?_
        rw [show maskL (fun (_ : Nat) s => keptS list s) (⟨U.map (·.1), o.syms⟩ : ObjD).syms = maskL (fun (_ : Nat) s => keptS list s) o.syms from rfl, EM.out]
        rintro e w6 ⟨r, rfl, ⟨vs, vy, l6, rfl, hse6, hS6, hY6, hd6⟩, k6⟩
        obtain ⟨p6, p7, rfl⟩ := owns_form hS6.row
        obtain ⟨y6, y7, rfl⟩ := owns_form hY6
        obtain ⟨Y, hYe⟩ : ∃ Y, keepL (symK o list) o.syms = Y := ⟨_, rfl⟩
        have hYm : ∀ s ∈ Y, s ∈ o.syms ∧ keptS list s = true := fun s hs => by
          rw [← hYe] at hs
          obtain ⟨i, h1, h2⟩ := keepL_mem hs
          unfold symK at h2
          rw [List.getElem?_map, h1] at h2
          exact ⟨(keepL_sub _ _).subset hs, by simpa using h2⟩
        have hYl : Y.length ≤ n2 := by rw [← hYe, ← HN2.out]; exact (keepL_sub _ _).length_le
        simp only [hYe] at hY6 hd6 ⊢
        have HYM := Lib.hid hYm
        have HYE := Lib.hid hYe
        obtain ⟨nY, hnY⟩ : ∃ nY, Y.length = nY := ⟨_, rfl⟩
        obtain ⟨m6, hm6⟩ : ∃ m6, l6.length = m6 := ⟨_, rfl⟩
        simp only [hnY] at hY6 hd6 hYl ⊢
        simp only [hm6] at hS6 hd6 ⊢
        have HNY := Lib.hid hnY
        have HM6 := Lib.hid hm6
        have HSE6 := Lib.hid hse6
        have HR6 := Lib.hid (HR.out.call k6)
        have HQ6 := Lib.hid (HQ.out.call k6)
        have HZ6 : Hid (w6.ownsRow B 3 1 (.slice (some ⟨z, 0, none⟩) n1 n1) n1 (ivs (numL KS n1 n1))) := owns_call HZ.out k6
        have HF6 := Lib.hid (HF.out.call k6)
        have hXr : X < wr.heap.size := HR.out.lt
        have hqr : q < wr.heap.size := HQ.out.lt
        have hzr : z < wr.heap.size := (World.ownsRow.lt HZ.out z rfl).2
        have cQ := HQ6.out.cell
        have fQ := HQ6.out.frozen
        have zQ := HQ6.out.lt
        have hqX : X < q := by omega
        have hY0 : w6.ownsRow wr.heap.size 78 4 (.slice y6 nY y7) nY (Y.flatMap symL) := by have := hY6; unfold OwnSyms at this; rw [hnY] at this; exact this
        have hQ7 : Blk ((w6.setCell ⟨q, 0, none⟩ (.slice p6 m6 p7)).setCell ⟨q, 1, none⟩ (.slice y6 nY y7)) q #[.slice p6 m6 p7, .slice y6 nY y7] 26 := by
          have := (HQ6.out.set (o := 0) (.slice p6 m6 p7)).set (o := 1) (.slice y6 nY y7)
          simpa using this
        have HQ7 := Lib.hid hQ7
        have HS7 := Lib.hid ((hS6.setBelow (a := ⟨q, 0, none⟩) hqr (.slice p6 m6 p7)).setBelow (a := ⟨q, 1, none⟩) hqr (.slice y6 nY y7))
        have HY7 : Hid (((w6.setCell ⟨q, 0, none⟩ (.slice p6 m6 p7)).setCell ⟨q, 1, none⟩ (.slice y6 nY y7)).ownsRow wr.heap.size 78 4 (.slice y6 nY y7) nY ((mapK (whrTo KS) Y 0).flatMap symL)) := by
          show World.ownsRow _ _ _ _ _ _ _
          rw [mapK_zero]
          exact ownsRow_setCell_below (ownsRow_setCell_below hY0 (a := ⟨q, 0, none⟩) hqr (.slice p6 m6 p7)) (a := ⟨q, 1, none⟩) hqr (.slice y6 nY y7)
        have HZ7 := Lib.hid (row_storeB (row_storeB HZ6.out HQ6.out (by decide) 0 (.slice p6 m6 p7)) (HQ6.out.set (o := 0) (.slice p6 m6 p7)) (by decide) 1 (.slice y6 nY y7))
        have HR7 := Lib.hid ((HR6.out.other (p := ⟨q, 0, none⟩) (by show q ≠ _; omega) (.slice p6 m6 p7)).other (p := ⟨q, 1, none⟩) (by show q ≠ _; omega) (.slice y6 nY y7))
        have HF7 := Lib.hid ((HF6.out.setCell (p := ⟨q, 0, none⟩) (by show _ ≤ q; omega) (.slice p6 m6 p7)).setCell (p := ⟨q, 1, none⟩) (by show _ ≤ q; omega) (.slice y6 nY y7))
        have HDJ := Lib.hid hd6
        generalize hE0 : wr.heap.size = E0 at *
        clear hE0 hQ7 hY0 hY6 hS6 hd6 hse6 k6 hYm hYe hnY hm6 HQ6 HR6 HZ6 HF6 HOu HFX HFEW HSU HR HQ HZ HA HK HD HF
        go_wp2_with fail
        generalize hw7 : (w6.setCell ⟨q, 0, none⟩ (.slice p6 m6 p7)).setCell ⟨q, 1, none⟩ (.slice y6 nY y7) = w7 at *
        clear hw7 cQ fQ zQ
        go_loopw [63] (fun i wr => ∃ (k : Nat), k ≤ nY ∧ i = .int .i64 k ∧ Hid (OwnSecs wr E0 (.slice p6 m6 p7) l6) ∧ Hid (wr.ownsRow E0 78 4 (.slice y6 nY y7) nY ((mapK (whrTo KS) Y k).flatMap symL)) ∧ Hid (wr.ownsRow B 3 1 (.slice (some ⟨z, 0, none⟩) n1 n1) n1 (ivs (numL KS n1 n1))) ∧ Hid (Blk wr X #[.slice none 0 0, .slice none 0 0] 26) ∧ Hid (Blk wr q #[.slice p6 m6 p7, .slice y6 nY y7] 26) ∧ Hid (From w.heap.size w wr)) (fun i _ => nY - (intOf i).toNat)
        case atStart => exact ⟨0, Nat.zero_le _, rfl, HS7, HY7, HZ7, HR7, HQ7, HF7⟩
        case round =>
          clear HS7 HY7 HZ7 HR7 HQ7 HF7
          obtain ⟨k, hk, rfl, HS, HY, HZ, HR, HQ, HF⟩ := hrel
          have cQ := HQ.out.cell
          have zQ := HQ.out.lt
          by_cases hlt : k < nY
          · have i1 : (k : Int) < (nY : Int) := by omega
            have i3 : (0 : Int) ≤ (k : Int) := by omega
            have hltY : k < Y.length := by rw [HNY.out]; exact hlt
            have hmem := HYM.out Y[k] (List.getElem_mem hltY)
            have hwr := (objB_sym HV.out hmem.1).whr
            rw [HN1.out] at hwr
            have HG := Lib.hid (mapK_get (whrTo KS) Y k hltY)
            have HT := Lib.hid (mapK_step (whrTo KS) Y k hltY)
            have HKl : Hid ((mapK (whrTo KS) Y k).length = nY) := by show _ = _; rw [mapK_length, HNY.out]
            clear hmem
            generalize Y[k] = x at *
            obtain ⟨nm, bd, wh, vl⟩ := x
            simp only at hwr
            obtain ⟨S, hS⟩ : ∃ S, mapK (whrTo KS) Y k = S := ⟨_, rfl⟩
            rw [hS] at HG HT HKl HY
            clear hS
            obtain ⟨g, gc, hv⟩ := row_some HY.out (by intro e; simp only [Value.slice.injEq] at e; omega)
            simp only [Value.slice.injEq] at hv
            obtain ⟨rfl, -, rfl⟩ := hv
            obtain ⟨g0, g1, g2, g3⟩ := syms_cells HY.out HKl.out HG.out
            dsimp only at g0 g1 g2 g3
            have HSa := Lib.hid (HS.out.alloc (.cells #[.string nm, .int .i64 bd, .int .i64 wh, .int .i64 vl] 78))
            have HYa : Hid ((wr.alloc (.cells #[.string nm, .int .i64 bd, .int .i64 wh, .int .i64 vl] 78)).ownsRow E0 78 4 (.slice (some ⟨g, 0, none⟩) nY y7) nY (S.flatMap symL)) := World.ownsRow.alloc HY.out _
            have HZa : Hid ((wr.alloc (.cells #[.string nm, .int .i64 bd, .int .i64 wh, .int .i64 vl] 78)).ownsRow B 3 1 (.slice (some ⟨z, 0, none⟩) n1 n1) n1 (ivs (numL KS n1 n1))) := World.ownsRow.alloc HZ.out _
            have HRa := Lib.hid (HR.out.alloc (.cells #[.string nm, .int .i64 bd, .int .i64 wh, .int .i64 vl] 78))
            have HQa := Lib.hid (HQ.out.alloc (.cells #[.string nm, .int .i64 bd, .int .i64 wh, .int .i64 vl] 78))
            have HFa := Lib.hid (HF.out.alloc (.cells #[.string nm, .int .i64 bd, .int .i64 wh, .int .i64 vl] 78))
            by_cases hw : 0 ≤ wh
            case neg =>
              have hw2 : wh < 0 := by omega
              have HE2 : Hid (whrTo KS ⟨nm, bd, wh, vl⟩ = ⟨nm, bd, wh, vl⟩) := by show _ = _; unfold whrTo; rw [if_neg hw]
              clear hw
              go_wp2_with fail
              go_roundw
              case rel => exact ⟨k + 1, by omega, by go_num, HSa, (by show World.ownsRow _ _ _ _ _ _ _; rw [HT.out, HE2.out, set_same HG.out]; exact HYa.out), HZa, HRa, HQa, HFa⟩
              case measure => simp [intOf]; try omega
            obtain ⟨J, rfl⟩ := Int.eq_ofNat_of_zero_le hw
            have hJ : J < n1 := by omega
            have j1 : (J : Int) < (n1 : Int) := by omega
            have j3 : (0 : Int) ≤ (J : Int) := by omega
            have HE2 : Hid (whrTo KS ⟨nm, bd, (J : Int), vl⟩ = ⟨nm, bd, ((keptN KS J : Nat) : Int), vl⟩) := by show _ = _; unfold whrTo; rw [if_pos hw, Int.toNat_natCast]
            obtain ⟨T, hT⟩ : ∃ T : Int, ((keptN KS J : Nat) : Int) = T := ⟨_, rfl⟩
            have hnum : (wr.alloc (.cells #[.string nm, .int .i64 bd, .int .i64 (J : Int), .int .i64 vl] 78)).cell? ⟨z, J, none⟩ = some (.int .i64 T) := by
              rw [World.ownsRow.cellAt HZa.out J (by omega), ivs_get (numL_get KS n1 J hJ), hT]
            rw [hT] at HE2
            have HXa := Lib.hid (Blk.new wr #[.string nm, .int .i64 bd, .int .i64 (J : Int), .int .i64 vl] 78)
            have hgB := (World.ownsRow.lt HYa.out g rfl).1
            have hgl := (World.ownsRow.lt HY.out g rfl).2
            have ff := World.ownsRow.frozenAt HYa.out (k * 4 + 2)
            have d2 : (wr.alloc (.cells #[.string nm, .int .i64 bd, .int .i64 (J : Int), .int .i64 vl] 78)).cell? ⟨g, k * 4 + 2, none⟩ = some (.int .i64 (J : Int)) := (syms_cells HYa.out HKl.out HG.out).2.2.1
            have hst := World.ownsRow.stored HYa.out (k * 4 + 2) (.int .i64 T)
            have nR : g ≠ X := fun e => blk_apart HRa.out HYa.out (by decide) (by rw [e]; rfl)
            have nQ : g ≠ q := fun e => blk_apart HQa.out HYa.out (by decide) (by rw [e]; rfl)
            have HY9 : Hid (((wr.alloc (.cells #[.string nm, .int .i64 bd, .int .i64 (J : Int), .int .i64 vl] 78)).setCell ⟨g, k * 4 + 2, none⟩ (.int .i64 T)).ownsRow E0 78 4 (.slice (some ⟨g, 0, none⟩) nY y7) nY ((mapK (whrTo KS) Y (k + 1)).flatMap symL)) := by
              show World.ownsRow _ _ _ _ _ _ _
              have h1 := hst.1
              rw [syms_set HG.out (x' := ⟨nm, bd, T, vl⟩) 2 (.int .i64 T) (by decide) rfl] at h1
              rw [HT.out, HE2.out]
              exact h1
            have HS9 := Lib.hid (OwnSecs.keptNe HSa.out HYa.out (by decide) (by decide) (by decide) hst.2)
            have HZ9 : Hid (((wr.alloc (.cells #[.string nm, .int .i64 bd, .int .i64 (J : Int), .int .i64 vl] 78)).setCell ⟨g, k * 4 + 2, none⟩ (.int .i64 T)).ownsRow B 3 1 (.slice (some ⟨z, 0, none⟩) n1 n1) n1 (ivs (numL KS n1 n1))) := owns_keptNe HZa.out HYa.out (by decide) hst.2
            have HR9 := Lib.hid (HRa.out.other (p := ⟨g, k * 4 + 2, none⟩) nR (.int .i64 T))
            have HQ9 := Lib.hid (HQa.out.other (p := ⟨g, k * 4 + 2, none⟩) nQ (.int .i64 T))
            have HF9 := Lib.hid (HFa.out.setCell (p := ⟨g, k * 4 + 2, none⟩) (by show _ ≤ g; omega) (.int .i64 T))
            have cQa := HQa.out.cell
            have zQa := HQa.out.lt
            have cXa := HXa.out.cell
            have zXa := HXa.out.lt
            clear hst hT nR nQ HSa HYa HZa HRa HQa HFa HXa HS HY HZ HR HQ HF
            go_wp2_with fail
            generalize hwa : wr.alloc (.cells #[.string nm, .int .i64 bd, .int .i64 (J : Int), .int .i64 vl] 78) = wa at *
            clear hwa g0 g1 g2 g3 cQ zQ
            go_still_tail 10, (by kernel_rfl)
            change wpList _ _ _ _ _ wa.drew
            have hd9 : Below (wa.setCell ⟨g, k * 4 + 2, none⟩ (.int .i64 T)).heap.size (wa.setCell ⟨g, k * 4 + 2, none⟩ (.int .i64 T)) ((wa.setCell ⟨g, k * 4 + 2, none⟩ (.int .i64 T)).drew) := (From.start _).drew.below
            have HS8 := Lib.hid (HS9.out.call hd9)
            have HY8 : Hid (((wa.setCell ⟨g, k * 4 + 2, none⟩ (.int .i64 T)).drew).ownsRow E0 78 4 (.slice (some ⟨g, 0, none⟩) nY y7) nY ((mapK (whrTo KS) Y (k + 1)).flatMap symL)) := owns_call HY9.out hd9
            have HZ8 : Hid (((wa.setCell ⟨g, k * 4 + 2, none⟩ (.int .i64 T)).drew).ownsRow B 3 1 (.slice (some ⟨z, 0, none⟩) n1 n1) n1 (ivs (numL KS n1 n1))) := owns_call HZ9.out hd9
            have HR8 := Lib.hid (HR9.out.call hd9)
            have HQ8 := Lib.hid (HQ9.out.call hd9)
            have HF8 := Lib.hid (HF9.out.call hd9)
            have d3 : wa.drew.cell? ⟨g, k * 4 + 2, none⟩ = some (.int .i64 (J : Int)) := d2
            have ff3 : wa.drew.frozen? ⟨g, k * 4 + 2, none⟩ = false := ff
            clear hd9 HS9 HY9 HZ9 HR9 HQ9 HF9 d2 ff cQa zQa cXa zXa hnum
            go_wp2_with fail
            go_roundw
            case rel => exact ⟨k + 1, by omega, by go_num, HS8, HY8, HZ8, HR8, HQ8, HF8⟩
            case measure => simp [intOf]; try omega
          · obtain rfl : nY = k := by omega
            have cR := HR.out.cell
            have fR := HR.out.frozen
            have zR := HR.out.lt
            have hne : q ≠ X := by omega
            go_wp2_with fail
            refine bodyPost_ret (v := .tuple #[.agg #[.slice p6 m6 p7, .slice y6 nY y7], .bool true]) (by simp [results, Try.results43, go_sem, cR, zR]) rfl ⟨_, by rw [ESB.out, HGB.out], ?_, ?_⟩
            · rw [ESO.out]
              have hS9 := (HS.out.setBelow (a := ⟨X, 0, none⟩) hXr (.slice p6 m6 p7)).setBelow (a := ⟨X, 1, none⟩) hXr (.slice y6 nY y7)
              have hY9 := ownsRow_setCell_below (ownsRow_setCell_below HY.out (a := ⟨X, 0, none⟩) hXr (.slice p6 m6 p7)) (a := ⟨X, 1, none⟩) hXr (.slice y6 nY y7)
              refine ⟨_, _, l6, rfl, HSE6.out, hS9.mono (show w.heap.size ≤ E0 by omega), ?_, secs_row_ne hS9 hY9 (by decide) (by decide) (by decide)⟩
              have e := mapK_full (whrTo KS) Y
              rw [HNY.out] at e
              rw [e] at hY9
              have hl : ((keepL (symK o list) o.syms).map (whrTo KS)).length = nY := by rw [List.length_map, HYE.out, HNY.out]
              unfold OwnSyms
              rw [hl, HYE.out]
              exact owns_mono hY9 (show w.heap.size ≤ E0 by omega)
            · exact ((HF.out.setCell (p := ⟨X, 0, none⟩) (by show _ ≤ X; omega) (.slice p6 m6 p7)).setCell (p := ⟨X, 1, none⟩) (by show _ ≤ X; omega) (.slice y6 nY y7)).below
/-! KeepSecS -/
open Go.ChangeShapes Go.WideShapes Go.ChangeAt Go.RowKit Go.Joins
set_option linter.unusedSimpArgs false
set_option linter.unusedVariables false
set_option maxRecDepth 100000
theorem secK_zero (list : List Int) (n : Nat) : secK (list.take 0) n = List.replicate n false := by
  refine List.ext_getElem (by simp [secK]) fun i h1 h2 => by simp [secK, inI]
theorem inI_step (list : List Int) (k : Nat) (hk : k < list.length) (n : Int) : inI (list.take (k + 1)) n = (inI (list.take k) n || decide (list[k] = n)) := by
  unfold inI
  rw [List.take_succ_eq_append_getElem hk, List.any_append]
  simp
theorem secK_out (list : List Int) (n k : Nat) (hk : k < list.length) (h : ¬ (0 ≤ list[k] ∧ list[k] ≤ (n : Int) - 1)) : secK (list.take (k + 1)) n = secK (list.take k) n := by
  refine List.ext_getElem (by simp [secK]) fun i h1 h2 => ?_
  have hi : i < n := by simpa [secK] using h1
  rw [secK_get _ _ _ hi, secK_get _ _ _ hi, inI_step list k hk]
  have : decide (list[k] = (i : Int)) = false := by simp; omega
  rw [this, Bool.or_false]
theorem secK_in (list : List Int) (n k J : Nat) (hk : k < list.length) (h : list[k] = (J : Int)) (hJ : J < n) : secK (list.take (k + 1)) n = (secK (list.take k) n).set J true := by
  refine List.ext_getElem (by simp [secK]) fun i h1 h2 => ?_
  have hi : i < n := by simpa [secK] using h1
  rw [secK_get _ _ _ hi, inI_step list k hk, h, List.getElem_set]
  by_cases he : J = i
  · subst he; simp
  · rw [if_neg he, secK_get _ _ _ hi]
    have : decide ((J : Int) = (i : Int)) = false := by simp; omega
    rw [this, Bool.or_false]
theorem symK_step (list : List Int) (l : List SymD) (k : Nat) (hk : k < l.length) : (l.take (k + 1)).map (keptS list) = (l.take k).map (keptS list) ++ [keptS list l[k]] := by
  rw [List.take_succ_eq_append_getElem hk, List.map_append]; rfl
set_option maxHeartbeats 16000000 in
theorem s_KeepSections (w : World) (v v2 : Value) (o : ObjD) (list : List Int) (h : ObjAt w v o) (hL : IntsAt w v2 list) (hw : FewObj o) (hs : (∀ s ∈ o.secs, s.name.size ≤ maxLen) ∧ ∀ s ∈ o.syms, s.name.size ≤ maxLen) :
    Calls Try.prog 52 #[v, v2] w (RetOB w (keepSO o list) (keepSB o list)) := by
  obtain ⟨i0, hi0, ia0, ia1, ia2⟩ := info_parts info_int
  obtain ⟨j0, hj0, ja0, ja1, ja2⟩ := info_parts info_sec
  obtain ⟨l0, hl0, la0, la1, la2⟩ := info_parts info_bool
  have HOB := Lib.hid h
  have HN0 := Lib.hid hs
  have HFw := Lib.hid hw
  obtain ⟨sa, sc, ya, yc, rfl⟩ := h.agg
  obtain ⟨za, zc, rfl, hcapL, hmaxL, -, hcellL⟩ := hL.form
  have HE := Lib.hid hcellL
  clear h hs hL hcellL hw
  unfold maxLen at hmaxL
  obtain ⟨n1, hn1⟩ : ∃ n1, o.secs.length = n1 := ⟨_, rfl⟩
  obtain ⟨n2, hn2⟩ : ∃ n2, o.syms.length = n2 := ⟨_, rfl⟩
  obtain ⟨n3, hn3⟩ : ∃ n3, list.length = n3 := ⟨_, rfl⟩
  have HN1 := Lib.hid hn1
  have HN2 := Lib.hid hn2
  have HN3 := Lib.hid hn3
  rw [hn1, hn2] at HOB ⊢
  rw [hn3] at hcapL ⊢
  clear hn1 hn2 hn3
  have HF0 := Lib.hid (((From.start w).alloc (.cells #[.slice sa n1 sc, .slice ya n2 yc] 26)).alloc (.cells #[.slice none 0 0, .slice none 0 0] 26))
  have HB0 := Lib.hid ((Blk.new w #[.slice sa n1 sc, .slice ya n2 yc] 26).alloc (.cells #[.slice none 0 0, .slice none 0 0] 26))
  have hr0 : Blk ((w.alloc (.cells #[.slice sa n1 sc, .slice ya n2 yc] 26)).alloc (.cells #[.slice none 0 0, .slice none 0 0] 26)) (w.heap.size + 1) #[.slice none 0 0, .slice none 0 0] 26 := Blk.newAt _ _ _ _ (by simp)
  have HR0 := Lib.hid hr0
  clear hr0
  cases hq : objB o
  · have E1 : keepSB o list = false := by unfold keepSB; rw [hq]; rfl
    have E2 : keepSO o list = ⟨[], []⟩ := by unfold keepSO; rw [E1]; rfl
    rw [E1, E2]
    go_enter Try.func52, Try.ntmps52
    go_wp2_with fail
    generalize hw1 : (w.alloc (.cells #[.slice sa n1 sc, .slice ya n2 yc] 26)).alloc (.cells #[.slice none 0 0, .slice none 0 0] 26) = W at *
    clear hw1
    refine (s_l1OwnObject W _ o (HOB.out.below (Nat.le_refl _) HF0.out.below) HFw.out).mono ?_
    rintro e w1 ⟨r, rfl, ho, k1⟩
    have hrd := ho.reads
    obtain ⟨ra, rc, rb, rd, rfl⟩ := hrd.agg
    rw [HN1.out, HN2.out] at ho hrd ⊢
    have HF1 := Lib.hid (HF0.out.call k1)
    have HB1 := Lib.hid (HB0.out.call k1)
    have HR1 := Lib.hid (HR0.out.call k1)
    have HO1 := Lib.hid ho
    have hwW : w.heap.size < W.heap.size := by have := HB0.out.lt; exact this
    have HO3 := Lib.hid ((HO1.out.setBelow (a := ⟨w.heap.size, 0, none⟩) hwW (.slice ra n1 rc)).setBelow (a := ⟨w.heap.size, 1, none⟩) hwW (.slice rb n2 rd))
    have cb := HB1.out.cell
    have fb := HB1.out.frozen
    have zb := HB1.out.lt
    clear ho hrd k1 HF0 HB0 HR0
    have hb2 : Blk ((w1.setCell ⟨w.heap.size, 0, none⟩ (.slice ra n1 rc)).setCell ⟨w.heap.size, 1, none⟩ (.slice rb n2 rd)) w.heap.size #[.slice ra n1 rc, .slice rb n2 rd] 26 := by
      have := (HB1.out.set (o := 0) (.slice ra n1 rc)).set (o := 1) (.slice rb n2 rd)
      simpa using this
    have HB2 := Lib.hid hb2
    have HF2 := Lib.hid ((HF1.out.setCell (p := ⟨w.heap.size, 0, none⟩) (Nat.le_refl _) (.slice ra n1 rc)).setCell (p := ⟨w.heap.size, 1, none⟩) (Nat.le_refl _) (.slice rb n2 rd))
    have HR2 := Lib.hid ((HR1.out.other (p := ⟨w.heap.size, 0, none⟩) (by show w.heap.size ≠ _; omega) (.slice ra n1 rc)).other (p := ⟨w.heap.size, 1, none⟩) (by show w.heap.size ≠ _; omega) (.slice rb n2 rd))
    have HO2 := Lib.hid HO3.out.reads
    clear hb2 HB1 HF1 HR1 HO1 HO3
    go_wp2_with fail
    generalize hw2 : (w1.setCell ⟨w.heap.size, 0, none⟩ (.slice ra n1 rc)).setCell ⟨w.heap.size, 1, none⟩ (.slice rb n2 rd) = w2 at *
    clear hw2 cb fb zb
    refine (s_ObjectValid _ _ o HO2.out HN0.out).mono ?_
    rw [hq]
    rintro e w3 ⟨rfl, k3⟩
    have HF3 := Lib.hid (HF2.out.call k3)
    have HR3 := Lib.hid (HR2.out.call k3)
    have cR := HR3.out.cell
    have fR := HR3.out.frozen
    have zR := HR3.out.lt
    clear k3 hq
    go_wp2_with fail
    refine bodyPost_ret (v := .tuple #[.agg #[.slice none 0 0, .slice none 0 0], .bool false]) (by simp [results, Try.results52, go_sem, cR, zR]) rfl ⟨_, rfl, ownObj_nil _ _, ?_⟩
    exact ((HF3.out.setCell (p := ⟨w.heap.size + 1, 0, none⟩) (Nat.le_succ _) (.slice none 0 0)).setCell (p := ⟨w.heap.size + 1, 1, none⟩) (Nat.le_succ _) (.slice none 0 0)).below
  have HV := Lib.hid hq
  have HFew := Lib.hid (objB_fewO hq)
  have hf1 := (objB_few hq).1
  have hf2 := (objB_few hq).2
  rw [HN1.out] at hf1
  rw [HN2.out] at hf2
  have HFX : Hid (∀ s ∈ o.secs, ∀ f ∈ s.fix, 0 ≤ f.2.2.1 ∧ f.2.2.1 < o.syms.length) := fun s hs f hf => ((objB_sec hq hs).fix f hf).to
  have ESB : Hid (keepSB o list = goodB o list) := by show _ = _; unfold keepSB; rw [hq, Bool.true_and]
  go_enter Try.func52, Try.ntmps52
  go_wp2_with fail
  generalize hw1 : (w.alloc (.cells #[.slice sa n1 sc, .slice ya n2 yc] 26)).alloc (.cells #[.slice none 0 0, .slice none 0 0] 26) = W at *
  clear hw1
  refine (s_l1OwnObject W _ o (HOB.out.below (Nat.le_refl _) HF0.out.below) HFw.out).mono ?_
  rintro e w1 ⟨r, rfl, ho, k1⟩
  have hrd := ho.reads
  obtain ⟨ra, rc, rb, rd, rfl⟩ := hrd.agg
  rw [HN1.out, HN2.out] at ho hrd ⊢
  have HF1 := Lib.hid (HF0.out.call k1)
  have HB1 := Lib.hid (HB0.out.call k1)
  have HR1 := Lib.hid (HR0.out.call k1)
  have HO1 := Lib.hid ho
  have hwW : w.heap.size < W.heap.size := by have := HB0.out.lt; exact this
  have HO3 := Lib.hid ((HO1.out.setBelow (a := ⟨w.heap.size, 0, none⟩) hwW (.slice ra n1 rc)).setBelow (a := ⟨w.heap.size, 1, none⟩) hwW (.slice rb n2 rd))
  have cb := HB1.out.cell
  have fb := HB1.out.frozen
  have zb := HB1.out.lt
  clear ho hrd k1 HF0 HB0 HR0
  have hb2 : Blk ((w1.setCell ⟨w.heap.size, 0, none⟩ (.slice ra n1 rc)).setCell ⟨w.heap.size, 1, none⟩ (.slice rb n2 rd)) w.heap.size #[.slice ra n1 rc, .slice rb n2 rd] 26 := by
    have := (HB1.out.set (o := 0) (.slice ra n1 rc)).set (o := 1) (.slice rb n2 rd)
    simpa using this
  have HB2 := Lib.hid hb2
  have HF2 := Lib.hid ((HF1.out.setCell (p := ⟨w.heap.size, 0, none⟩) (Nat.le_refl _) (.slice ra n1 rc)).setCell (p := ⟨w.heap.size, 1, none⟩) (Nat.le_refl _) (.slice rb n2 rd))
  have HR2 := Lib.hid ((HR1.out.other (p := ⟨w.heap.size, 0, none⟩) (by show w.heap.size ≠ _; omega) (.slice ra n1 rc)).other (p := ⟨w.heap.size, 1, none⟩) (by show w.heap.size ≠ _; omega) (.slice rb n2 rd))
  have HO2 := Lib.hid HO3.out.reads
  clear hb2 HB1 HF1 HR1 HO1 HO3
  go_wp2_with fail
  generalize hw2 : (w1.setCell ⟨w.heap.size, 0, none⟩ (.slice ra n1 rc)).setCell ⟨w.heap.size, 1, none⟩ (.slice rb n2 rd) = w2 at *
  clear hw2 cb fb zb
  refine (s_ObjectValid _ _ o HO2.out HN0.out).mono ?_
  rw [hq]
  rintro e w3 ⟨rfl, k3⟩
  have HF3 := Lib.hid (HF2.out.call k3)
  have HR3 := Lib.hid (HR2.out.call k3)
  have HB3 := Lib.hid (HB2.out.call k3)
  have HO3 := Lib.hid (HO2.out.below (Nat.le_refl _) k3)
  clear k3 hq HF2 HR2 HB2 HO2
  have cB := HB3.out.cell
  have zB := HB3.out.lt
  obtain ⟨M, hM⟩ : ∃ M, w3.heap.size = M := ⟨_, rfl⟩
  have hBM : w.heap.size < M := by have := HB3.out.lt; omega
  have hRM : w.heap.size + 1 < M := by have := HR3.out.lt; omega
  have HMe := Lib.hid hM
  clear hM
  go_wp2_with (at_make; refine wpList_make_full _ rfl _ _ 99 rfl M 4 l0 (.bool false) 1 Try.underlying99 hl0 la0 la1 _ _ _ _ n1 rfl rfl rfl rfl ?c1 ?c2 ?c3 ?_)
  case c1 => rw [la2]; omega
  case c2 => unfold maxLen; omega
  case c3 => exact Nat.le_of_eq HMe.out.symm
  intro w4 hown hgr
  have HX4 := Lib.hid ((show From M w3 w3 from ⟨Below.refl _ _, Nat.le_of_eq HMe.out.symm⟩).grown hgr (fun k h => by cases h))
  have HB4 := Lib.hid (HB3.out.grown hgr (fun e => by cases e))
  have HR4 := Lib.hid (HR3.out.grown hgr (fun e => by cases e))
  obtain ⟨T, hT⟩ : ∃ T, w3.heap.size = T := ⟨_, rfl⟩
  rw [hT] at hown
  have HT4 : Hid (w4.ownsRow M 4 1 (.slice (some ⟨T, 0, none⟩) n1 n1) n1 (bbs (secK (list.take 0) n1))) := by
    show World.ownsRow _ _ _ _ _ _ _
    rw [secK_zero]
    have e : bbs (List.replicate n1 false) = List.replicate n1 (.bool false) := by unfold bbs; simp
    rw [e]
    simpa [toList_madeCells_one] using hown
  try simp only [hT]
  clear hown hgr hT cB zB HR3 HB3
  have cB := HB4.out.cell
  have zB := HB4.out.lt
  go_wp2_with fail
  obtain ⟨M2', hM2'⟩ : ∃ M2', T = M2' := ⟨_, rfl⟩
  clear hM2' M2'
  have hTM : M ≤ T := (World.ownsRow.lt HT4.out T rfl).1
  have hwM : w.heap.size ≤ M := by omega
  go_loopw [7] (fun i wr => ∃ (k : Nat), k ≤ n3 ∧ i = .int .i64 k ∧ Hid (wr.ownsRow M 4 1 (.slice (some ⟨T, 0, none⟩) n1 n1) n1 (bbs (secK (list.take k) n1))) ∧ Hid (Blk wr w.heap.size #[.slice ra n1 rc, .slice rb n2 rd] 26) ∧ Hid (Blk wr (w.heap.size + 1) #[.slice none 0 0, .slice none 0 0] 26) ∧ Hid (From M w3 wr)) (fun i _ => n3 - (intOf i).toNat)
  case atStart => exact ⟨0, Nat.zero_le _, rfl, HT4, HB4, HR4, HX4⟩
  case round =>
    clear HT4 HB4 HR4 HX4 cB zB
    obtain ⟨k, hk, rfl, HT, HB, HR, HX⟩ := hrel
    have cB := HB.out.cell
    have zB := HB.out.lt
    by_cases hlt : k < n3
    · have i1 : (k : Int) < (n3 : Int) := by omega
      have i3 : (0 : Int) ≤ (k : Int) := by omega
      have hltL : k < list.length := by rw [HN3.out]; exact hlt
      obtain ⟨b, off, rfl, hc⟩ := HE.out (by have := HN3.out; omega)
      have c0 := hc k hltL
      have hbl : b < w.heap.size := World.block_lt_of_cell? w _ c0
      have hFr := HF3.out.trans (HX.out.below.mono hwM)
      have g0 := (hFr.below.cell (p := ⟨b, off + k, none⟩) hbl).trans c0
      have HOUT := Lib.hid (secK_out list n1 k hltL)
      have HIN := Lib.hid (fun J => secK_in list n1 k J hltL)
      clear hc c0 hFr
      generalize list[k] = m at *
      have hwr : IntKind.i64.wrap ((n1 : Int) - 1) = (n1 : Int) - 1 := IntWalk.i64_in _ (by omega)
      have hlin : ∀ bb, withinB m 0 ((n1 : Int) - 1) = bb → ∀ u, Calls Try.prog 114 #[.int .i64 m, .int .i64 0, .int .i64 ((n1 : Int) - 1)] u fun e w' => e = .returned (.bool bb) ∧ w' = u := fun bb h u => (l1In_any m 0 ((n1 : Int) - 1) u).mono fun e w' ⟨h1, h2⟩ => ⟨by rw [h1, h], h2.symm⟩
      by_cases hin : 0 ≤ m ∧ m ≤ (n1 : Int) - 1
      · have HLI := Lib.hid (hlin true ((withinB_iff _ _ _).2 hin))
        obtain ⟨J, rfl⟩ := Int.eq_ofNat_of_zero_le hin.1
        have hJ : J < n1 := by omega
        have j1 : (J : Int) < (n1 : Int) := by omega
        have j3 : (0 : Int) ≤ (J : Int) := by omega
        have HS := Lib.hid (HIN.out J rfl hJ)
        obtain ⟨uj, hcj⟩ : ∃ uj, wr.cell? ⟨T, J, none⟩ = some uj := ⟨_, (HT.out.cellAt J (by omega)).trans (List.getElem?_eq_getElem (by rw [HT.out.1]; omega))⟩
        have HCJ := Lib.hid hcj
        have HFJ := Lib.hid (HT.out.frozenAt J)
        have hst := World.ownsRow.stored HT.out J (.bool true)
        have HT9 : Hid ((wr.setCell ⟨T, J, none⟩ (.bool true)).ownsRow M 4 1 (.slice (some ⟨T, 0, none⟩) n1 n1) n1 (bbs (secK (list.take (k + 1)) n1))) := by
          show World.ownsRow _ _ _ _ _ _ _
          rw [HS.out, bbs_set]
          exact hst.1
        have HB9 := Lib.hid (HB.out.other (p := ⟨T, J, none⟩) (by show T ≠ _; omega) (.bool true))
        have HR9 := Lib.hid (HR.out.other (p := ⟨T, J, none⟩) (by show T ≠ _; omega) (.bool true))
        have HX9 := Lib.hid (HX.out.setCell (p := ⟨T, J, none⟩) (by show _ ≤ T; omega) (.bool true))
        clear hin hlin HOUT HIN hcj hst
        go_wp2_with fail
        go_quiet ((go_at_call 114; exact Calls.quiet_of_same (HLI.out _)))
        have hdn : Below (wr.setCell ⟨T, J, none⟩ (.bool true)).heap.size (wr.setCell ⟨T, J, none⟩ (.bool true)) ((wr.setCell ⟨T, J, none⟩ (.bool true)).drewN nq) := ((From.start _).drewN nq).below
        have HT8 : Hid (((wr.setCell ⟨T, J, none⟩ (.bool true)).drewN nq).ownsRow M 4 1 (.slice (some ⟨T, 0, none⟩) n1 n1) n1 (bbs (secK (list.take (k + 1)) n1))) := owns_call HT9.out hdn
        have HB8 := Lib.hid (HB9.out.call hdn)
        have HR8 := Lib.hid (HR9.out.call hdn)
        have HX8 := Lib.hid (HX9.out.call hdn)
        have hcj2 : (wr.drewN nq).cell? ⟨T, J, none⟩ = some uj := HCJ.out
        have hfj2 : (wr.drewN nq).frozen? ⟨T, J, none⟩ = false := HFJ.out
        have g02 : (wr.drewN nq).cell? ⟨b, off + k, none⟩ = some (.int .i64 (J : Int)) := g0
        clear hwr g0 cB zB HT HB HR HX HT9 HB9 HR9 HX9 hdn
        go_wp2_with fail
        go_roundw
        case rel => exact ⟨k + 1, by omega, by go_num, HT8, HB8, HR8, HX8⟩
        case measure => simp [intOf]; try omega
      · have HLI := Lib.hid (hlin false ((withinB_not _ _ _).2 hin))
        have HS := Lib.hid (HOUT.out hin)
        clear hin hlin HOUT HIN
        go_wp2_with fail
        go_quiet ((go_at_call 114; exact Calls.quiet_of_same (HLI.out _)))
        have hdn : Below wr.heap.size wr (wr.drewN nq) := ((From.start _).drewN nq).below
        have HT8 : Hid ((wr.drewN nq).ownsRow M 4 1 (.slice (some ⟨T, 0, none⟩) n1 n1) n1 (bbs (secK (list.take (k + 1)) n1))) := by show World.ownsRow _ _ _ _ _ _ _; rw [HS.out]; exact owns_call HT.out hdn
        have HB8 := Lib.hid (HB.out.call hdn)
        have HR8 := Lib.hid (HR.out.call hdn)
        have HX8 := Lib.hid (HX.out.call hdn)
        clear hwr g0 cB zB HT HB HR HX hdn
        go_wp2_with fail
        go_roundw
        case rel => exact ⟨k + 1, by omega, by go_num, HT8, HB8, HR8, HX8⟩
        case measure => simp [intOf]; try omega
    · obtain rfl : n3 = k := by omega
      obtain ⟨KS, hKS⟩ : ∃ KS, secK list n1 = KS := ⟨_, rfl⟩
      have HKSe : Hid (secK list o.secs.length = KS) := by show _ = _; rw [HN1.out]; exact hKS
      have HKSl : Hid (KS.length = n1) := by show _ = _; rw [← hKS, secK_length]
      have HKSg : Hid (∀ k, k < n1 → KS[k]? = some (inI list k)) := fun k hk => by rw [← hKS]; exact secK_get? list n1 k hk
      have HT5 : Hid (wr.ownsRow M 4 1 (.slice (some ⟨T, 0, none⟩) n1 n1) n1 (bbs KS)) := by show World.ownsRow _ _ _ _ _ _ _; have := HT.out; rw [← HN3.out, List.take_length, hKS] at this; exact this
      clear hKS HT
      obtain ⟨M2, hM2⟩ : ∃ M2, wr.heap.size = M2 := ⟨_, rfl⟩
      have hTM2 : T < M2 := by rw [← hM2]; exact (World.ownsRow.lt HT5.out T rfl).2
      have hMM2 : M ≤ M2 := by omega
      have hk5 := World.ownsRow_lit wr #[] (e := 4) (size := 1) (base := M2) 0 (Nat.le_of_eq hM2.symm) (Nat.zero_le _) rfl
      rw [hM2] at hk5
      have HK5 : Hid ((wr.alloc (.cells #[] 4)).ownsRow M2 4 1 (.slice (some ⟨M2, 0, none⟩) 0 0) 0 (bbs ((o.syms.take 0).map (keptS list)))) := by show World.ownsRow _ _ _ _ _ _ _; simpa [bbs] using hk5
      have HT6 : Hid ((wr.alloc (.cells #[] 4)).ownsRow M 4 1 (.slice (some ⟨T, 0, none⟩) n1 n1) n1 (bbs KS)) := World.ownsRow.alloc HT5.out _
      have HB6 := Lib.hid (HB.out.alloc (.cells #[] 4))
      have HR6 := Lib.hid (HR.out.alloc (.cells #[] 4))
      have HX6 := Lib.hid (HX.out.alloc (.cells #[] 4))
      have hz6 : M2 < (wr.alloc (.cells #[] 4)).heap.size := by simp; omega
      obtain ⟨vs', vy', hv', hsx, hyx⟩ := HO3.out
      simp only [Value.agg.injEq, Array.mk.injEq, List.cons.injEq, and_true] at hv'
      obtain ⟨rfl, rfl⟩ := hv'
      obtain ⟨ra', rc', hv', -, hmS, -, hcS⟩ := hsx.form
      simp only [Value.slice.injEq] at hv'
      obtain ⟨rfl, -, rfl⟩ := hv'
      obtain ⟨ra', rc', hv', -, hmY, -, hcY⟩ := hyx.form
      simp only [Value.slice.injEq] at hv'
      obtain ⟨rfl, -, rfl⟩ := hv'
      have HCS := Lib.hid hcS
      have HCY := Lib.hid hcY
      clear hk5 hsx hyx hcS hcY HT5 HB HR HX cB zB hlt hk
      unfold maxLen at hmS hmY
      go_wp2_with fail
      try simp only [hM2]
      generalize hw6 : wr.alloc (.cells #[] 4) = w6 at *
      clear hw6 hM2
      go_loopw [8, 9] (fun kp i wr => ∃ (k : Nat) (ka : Option Addr) (kc : Nat), k ≤ n2 ∧ i = .int .i64 k ∧ kp = .slice ka k kc ∧ M2 < wr.heap.size ∧ Hid (wr.ownsRow M2 4 1 (.slice ka k kc) k (bbs ((o.syms.take k).map (keptS list)))) ∧ Hid (wr.ownsRow M 4 1 (.slice (some ⟨T, 0, none⟩) n1 n1) n1 (bbs KS)) ∧ Hid (Blk wr w.heap.size #[.slice ra n1 rc, .slice rb n2 rd] 26) ∧ Hid (Blk wr (w.heap.size + 1) #[.slice none 0 0, .slice none 0 0] 26) ∧ Hid (From M w3 wr)) (fun _ i _ => n2 - (intOf i).toNat)
      case atStart => exact ⟨0, _, _, Nat.zero_le _, rfl, rfl, hz6, HK5, HT6, HB6, HR6, HX6⟩
      case round =>
        clear HK5 HT6 HB6 HR6 HX6 hz6
        obtain ⟨k, ka, kc, hk, rfl, rfl, hM2w, HK, HT, HB, HR, HX⟩ := hrel
        have cB := HB.out.cell
        have zB := HB.out.lt
        by_cases hlt : k < n2
        · have i1 : (k : Int) < (n2 : Int) := by omega
          have i3 : (0 : Int) ≤ (k : Int) := by omega
          have hltL : k < o.syms.length := by rw [HN2.out]; exact hlt
          obtain ⟨b, off, rfl, hc⟩ := HCY.out (by have := HN2.out; omega)
          have c0 := (hc k hltL).2.2.1
          have hbl : b < w3.heap.size := World.block_lt_of_cell? w3 _ c0
          rw [HMe.out] at hbl
          have p0 := (HX.out.below.cell (p := ⟨b, off + k * 4 + 2, none⟩) hbl).trans c0
          have HST := Lib.hid (symK_step list o.syms k hltL)
          have hwr := (objB_sym HV.out (List.getElem_mem hltL)).whr
          rw [HN1.out] at hwr
          clear hc c0
          generalize o.syms[k] = x at *
          obtain ⟨nm, bd, wh, vl⟩ := x
          simp only at hwr p0
          obtain ⟨bq, hbq⟩ : ∃ bq, keptS list ⟨nm, bd, wh, vl⟩ = bq := ⟨_, rfl⟩
          rw [hbq] at HST
          by_cases hw : 0 ≤ wh
          · obtain ⟨J, rfl⟩ := Int.eq_ofNat_of_zero_le hw
            have hJ : J < n1 := by omega
            have j1 : (J : Int) < (n1 : Int) := by omega
            have j2 : ¬ (J : Int) < 0 := by omega
            have hcT : wr.cell? ⟨T, J, none⟩ = some (.bool bq) := by
              have hg := HKSg.out J hJ
              have hJ2 : J < KS.length := by rw [HKSl.out]; exact hJ
              rw [HT.out.cellAt J (by omega), bbs_get _ _ hJ2, List.getD_eq_getElem?_getD, hg]
              rw [← hbq]
              simp [keptS, j2]
            clear hbq
            go_wp2_with (at_builtin; refine wpList_append_src rfl (.tmp 56) (.tmp 75) 99 99 rfl M2 4 l0 _ 1 1 Try.underlying99 hl0 la0 la1 la2 rfl (by decide) _ _ _ rfl (World.ownsRow.alloc HK.out _) _ 1 [_] rfl (src_new Try.underlying99 _ [_] 1 1 1 _ rfl ?c0) ?c1 ?c2 ?c3 ?_)
            case c0 => first | rfl | (intro u hu; obtain rfl := List.mem_singleton.1 hu; rfl)
            case c1 => unfold maxLen; omega
            case c2 => omega
            case c3 => first | omega | (simp; omega)
            intro v' w7 hown hgr
            have hK7 : w7.ownsRow M2 4 1 v' (k + 1) (bbs ((o.syms.take (k + 1)).map (keptS list))) := by rw [HST.out, bbs_append]; first | exact hown | (simp only [List.map_take]; exact hown) | (rw [List.map_take]; simpa using hown)
            obtain ⟨va, vc, rfl⟩ := owns_form hK7
            have HK9 := Lib.hid hK7
            have hrw : ∀ k', (Value.slice ka k kc).ownBlock = some k' → M2 ≤ k' := fun k' hk' => (World.ownsRow.lt HK.out k' hk').1
            have HT9 : Hid (w7.ownsRow M 4 1 (.slice (some ⟨T, 0, none⟩) n1 n1) n1 (bbs KS)) := World.ownsRow.kept (World.ownsRow.alloc HT.out _) hgr (.inr fun e => by have := hrw T e.symm; omega)
            have HB9 := Lib.hid (Blk.grown (HB.out.alloc (.cells #[.bool bq] 4)) hgr (fun e => by have := hrw _ e.symm; omega))
            have HR9 := Lib.hid (Blk.grown (HR.out.alloc (.cells #[.bool bq] 4)) hgr (fun e => by have := hrw _ e.symm; omega))
            have HX9 := Lib.hid (From.grown (HX.out.alloc (.cells #[.bool bq] 4)) hgr (fun k' hk' => by have := hrw k' hk'; omega))
            have hM9 : M2 < w7.heap.size := by have := hgr.size; simp at this; omega
            clear hown hgr hK7 hrw HK HT HB HR HX cB zB
            go_wp2_with fail
            go_roundw
            case rel => exact ⟨k + 1, va, vc, by omega, by go_num, rfl, hM9, HK9, HT9, HB9, HR9, HX9⟩
            case measure => simp [intOf]; try omega
          · have hw2 : wh < 0 := by omega
            have E : Hid (bq = true) := by show _ = _; rw [← hbq]; unfold keptS; simp [hw2]
            clear hbq hw
            obtain rfl := E.out
            go_wp2_with (at_builtin; refine wpList_append_src rfl (.tmp 56) (.tmp 75) 99 99 rfl M2 4 l0 _ 1 1 Try.underlying99 hl0 la0 la1 la2 rfl (by decide) _ _ _ rfl (World.ownsRow.alloc HK.out _) _ 1 [_] rfl (src_new Try.underlying99 _ [_] 1 1 1 _ rfl ?c0) ?c1 ?c2 ?c3 ?_)
            case c0 => first | rfl | (intro u hu; obtain rfl := List.mem_singleton.1 hu; rfl)
            case c1 => unfold maxLen; omega
            case c2 => omega
            case c3 => first | omega | (simp; omega)
            intro v' w7 hown hgr
            have hK7 : w7.ownsRow M2 4 1 v' (k + 1) (bbs ((o.syms.take (k + 1)).map (keptS list))) := by rw [HST.out, bbs_append]; first | exact hown | (simp only [List.map_take]; exact hown) | (rw [List.map_take]; simpa using hown)
            obtain ⟨va, vc, rfl⟩ := owns_form hK7
            have HK9 := Lib.hid hK7
            have hrw : ∀ k', (Value.slice ka k kc).ownBlock = some k' → M2 ≤ k' := fun k' hk' => (World.ownsRow.lt HK.out k' hk').1
            have HT9 : Hid (w7.ownsRow M 4 1 (.slice (some ⟨T, 0, none⟩) n1 n1) n1 (bbs KS)) := World.ownsRow.kept (World.ownsRow.alloc HT.out _) hgr (.inr fun e => by have := hrw T e.symm; omega)
            have HB9 := Lib.hid (Blk.grown (HB.out.alloc (.cells #[.bool true] 4)) hgr (fun e => by have := hrw _ e.symm; omega))
            have HR9 := Lib.hid (Blk.grown (HR.out.alloc (.cells #[.bool true] 4)) hgr (fun e => by have := hrw _ e.symm; omega))
            have HX9 := Lib.hid (From.grown (HX.out.alloc (.cells #[.bool true] 4)) hgr (fun k' hk' => by have := hrw k' hk'; omega))
            have hM9 : M2 < w7.heap.size := by have := hgr.size; simp at this; omega
            clear hown hgr hK7 hrw HK HT HB HR HX cB zB
            go_wp2_with fail
            go_roundw
            case rel => exact ⟨k + 1, va, vc, by omega, by go_num, rfl, hM9, HK9, HT9, HB9, HR9, HX9⟩
            case measure => simp [intOf]; try omega
        · obtain rfl : n2 = k := by omega
          have HK2 : Hid (wr.ownsRow M2 4 1 (.slice ka n2 kc) n2 (bbs (symK o list))) := by
            show World.ownsRow _ _ _ _ _ _ _
            have := HK.out
            rw [← HN2.out, List.take_length] at this
            rw [← HN2.out]
            exact this
          obtain ⟨K, hKe⟩ : ∃ K, symK o list = K := ⟨_, rfl⟩
          have HKe := Lib.hid hKe
          have HKl : Hid (K.length = n2) := by show _ = _; rw [← hKe, symK_length, HN2.out]
          rw [hKe] at HK2
          clear hKe HK hlt hk
          have hm3 : M ≤ M2 := by omega
          go_wp2_with fail
          go_loop [10] (fun i => ∃ k : Nat, k ≤ n1 ∧ i = .int .i64 k ∧ Hid (∀ x ∈ keepL (KS.take k) (o.secs.take k), secGood K x = true)) (fun i => n1 - (intOf i).toNat)
          case atStart => exact ⟨0, Nat.zero_le _, rfl, by intro x hx; simp [keepL] at hx⟩
          case round =>
            obtain ⟨k, hk, rfl, HG⟩ := hrel
            by_cases hlt : k < n1
            · have i1 : (k : Int) < (n1 : Int) := by omega
              have i3 : (0 : Int) ≤ (k : Int) := by omega
              have hltL : k < o.secs.length := by rw [HN1.out]; exact hlt
              obtain ⟨b, off, rfl, hc⟩ := HCS.out (by have := HN1.out; omega)
              obtain ⟨vb, vf, hb, hf, c0, c1, c2, c3, c4, c5⟩ := hc k (by rw [HN1.out]; exact hlt)
              obtain ⟨fa, fc, rfl, hfc, hfm, -, hfcell⟩ := hf.form
              have hbl : b < w3.heap.size := World.block_lt_of_cell? w3 _ c0
              rw [HMe.out] at hbl
              have g5 := (HX.out.below.cell (p := ⟨b, off + k * 6 + 5, none⟩) hbl).trans c5
              have hkT : wr.cell? ⟨T, k, none⟩ = some (.bool (inI list k)) := by
                have hg := HKSg.out k hlt
                have hJ2 : k < KS.length := by rw [HKSl.out]; exact hlt
                rw [HT.out.cellAt k (by omega), bbs_get _ _ hJ2, List.getD_eq_getElem?_getD, hg]
                rfl
              have HNG := Lib.hid (keepL_next (K := KS) (l := o.secs) (by rw [HKSl.out, HN1.out]) (List.getElem?_eq_getElem hltL) (HKSg.out k hlt))
              have HBAD : Hid (inI list k = true → secGood K o.secs[k] = false → goodB o list = false) := fun h1 h2 => by
                unfold goodB
                rw [List.all_eq_false]
                refine ⟨o.secs[k], ?_, by rw [HKe.out, h2]; simp⟩
                have h3 := keepL_get KS o.secs k (by rw [HKSg.out k hlt, h1])
                rw [HKSe.out]
                exact List.mem_of_getElem? (h3.trans (List.getElem?_eq_getElem hltL))
              have HTO := Lib.hid (HFX.out o.secs[k] (List.getElem_mem hltL))
              have HFC := Lib.hid hfcell
              clear hc c0 c1 c2 c3 c4 c5 hb hf hfcell
              generalize o.secs[k] = x at *
              obtain ⟨nf, hnf⟩ : ∃ nf, x.fix.length = nf := ⟨_, rfl⟩
              have HNF := Lib.hid hnf
              rw [hnf] at g5 hfc
              unfold maxLen at hfm
              clear hnf
              cases hin : inI list k
              · rw [hin] at hkT
                have HG2 : Hid (∀ x ∈ keepL (KS.take (k + 1)) (o.secs.take (k + 1)), secGood K x = true) := fun y hy => HG.out y (by rw [HNG.out, hin] at hy; simpa using hy)
                clear hin HNG HBAD
                go_wp2_with fail
                go_loop [11] (fun i => i = .int .i64 (0 : Nat)) (fun i => 0)
                case atStart => rfl
                case round =>
                  obtain rfl := hrel
                  by_cases hz : 0 < nf
                  · have z1 : (0 : Int) < (nf : Int) := by omega
                    go_wp2_with fail
                    go_round
                    case rel => exact ⟨k + 1, by omega, by go_num, HG2⟩
                    case measure => simp [intOf]; try omega
                  · obtain rfl : nf = 0 := by omega
                    go_wp2_with fail
                    go_round
                    case rel => exact ⟨k + 1, by omega, by go_num, HG2⟩
                    case measure => simp [intOf]; try omega
              rw [hin] at hkT
              have HBAD2 := Lib.hid (HBAD.out hin)
              have HNG2 : Hid (keepL (KS.take (k + 1)) (o.secs.take (k + 1)) = keepL (KS.take k) (o.secs.take k) ++ [x]) := by show _ = _; rw [HNG.out, hin]; simp
              clear hin HNG HBAD
              go_wp2_with fail
              go_loop [11] (fun i => ∃ j : Nat, j ≤ nf ∧ i = .int .i64 j ∧ Hid (∀ f ∈ x.fix.take j, fixGood K f = true)) (fun i => nf - (intOf i).toNat)
              case atStart => exact ⟨0, Nat.zero_le _, rfl, by intro f hf; simp at hf⟩
              case round =>
                obtain ⟨j, hj, rfl, HV⟩ := hrel
                by_cases hltj : j < nf
                · have j1 : (j : Int) < (nf : Int) := by omega
                  have j3 : (0 : Int) ≤ (j : Int) := by omega
                  obtain ⟨b2, off2, rfl, hc2⟩ := HFC.out (by have := HNF.out; omega)
                  obtain ⟨d0, d1, d2, d3⟩ := hc2 j (by rw [HNF.out]; exact hltj)
                  have hbl2 : b2 < w3.heap.size := World.block_lt_of_cell? w3 _ d0
                  rw [HMe.out] at hbl2
                  have q2 := (HX.out.below.cell (p := ⟨b2, off2 + j * 4 + 2, none⟩) hbl2).trans d2
                  have hjL : j < x.fix.length := by rw [HNF.out]; exact hltj
                  have hto := HTO.out x.fix[j] (List.getElem_mem hjL)
                  rw [HN2.out] at hto
                  have HNY : Hid (x.fix.take (j + 1) = x.fix.take j ++ [x.fix[j]]) := List.take_succ_eq_append_getElem hjL
                  have HIN : Hid (fixGood K x.fix[j] = false → secGood K x = false) := fun h => by unfold secGood; rw [List.all_eq_false]; exact ⟨_, List.getElem_mem hjL, by rw [h]; simp⟩
                  clear hc2 d0 d1 d2 d3
                  generalize x.fix[j] = y at *
                  obtain ⟨y0, y1, y2, y3⟩ := y
                  simp only at hto q2
                  obtain ⟨J, rfl⟩ := Int.eq_ofNat_of_zero_le hto.1
                  have hJ : J < n2 := by omega
                  have m1 : (J : Int) < (n2 : Int) := by omega
                  have m3 : (0 : Int) ≤ (J : Int) := by omega
                  obtain ⟨ga, gc, hgv⟩ := row_some HK2.out (by intro e; simp only [Value.slice.injEq] at e; omega)
                  simp only [Value.slice.injEq] at hgv
                  obtain ⟨rfl, -, rfl⟩ := hgv
                  have hKJ : J < K.length := by rw [HKl.out]; exact hJ
                  have hkc : wr.cell? ⟨ga, J, none⟩ = some (.bool (K.getD J false)) := by rw [HK2.out.cellAt J (by omega), bbs_get _ _ hKJ]
                  have EG : Hid (fixGood K (y0, y1, (J : Int), y3) = K.getD J false) := by show _ = _; unfold fixGood; simp
                  generalize K.getD J false = bg at *
                  clear hto
                  cases bg
                  · have E1 : keepSB o list = false := by rw [ESB.out]; exact HBAD2.out (HIN.out EG.out)
                    have E2 : keepSO o list = ⟨[], []⟩ := by unfold keepSO; rw [E1]; rfl
                    have HE1 := Lib.hid E1
                    have HE2 := Lib.hid E2
                    clear E1 E2
                    have cR := HR.out.cell
                    have fR := HR.out.frozen
                    have zR := HR.out.lt
                    go_wp2_with fail
                    refine bodyPost_ret (v := .tuple #[.agg #[.slice none 0 0, .slice none 0 0], .bool false]) (by simp [results, Try.results52, go_sem, cR, zR]) rfl ⟨_, by rw [HE1.out], by rw [HE2.out]; exact ownObj_nil _ _, ?_⟩
                    exact ((((HF3.out.trans (HX.out.below.mono hwM))).setCell (p := ⟨w.heap.size + 1, 0, none⟩) (Nat.le_succ _) (.slice none 0 0)).setCell (p := ⟨w.heap.size + 1, 1, none⟩) (Nat.le_succ _) (.slice none 0 0)).below
                  · have HV2 : Hid (∀ f ∈ x.fix.take (j + 1), fixGood K f = true) := fun f hf => by
                      rw [HNY.out] at hf
                      rcases List.mem_append.1 hf with hf | hf
                      · exact HV.out f hf
                      · obtain rfl := List.mem_singleton.1 hf; exact EG.out
                    go_wp2_with fail
                    go_round
                    case rel => exact ⟨j + 1, by omega, by go_num, HV2⟩
                    case measure => simp [intOf]; try omega
                · obtain rfl : nf = j := by omega
                  have hgood : secGood K x = true := by
                    unfold secGood
                    rw [List.all_eq_true]
                    have := HV.out
                    rw [← HNF.out, List.take_length] at this
                    exact this
                  have HG2 : Hid (∀ x ∈ keepL (KS.take (k + 1)) (o.secs.take (k + 1)), secGood K x = true) := fun y hy => by
                    rw [HNG2.out] at hy
                    rcases List.mem_append.1 hy with hy | hy
                    · exact HG.out y hy
                    · obtain rfl := List.mem_singleton.1 hy; exact hgood
                  clear hgood
                  go_wp2_with fail
                  go_round
                  case rel => exact ⟨k + 1, by omega, by go_num, HG2⟩
                  case measure => simp [intOf]; try omega
            · obtain rfl : n1 = k := by omega
              have hgood : goodB o list = true := by
                unfold goodB
                rw [HKSe.out, HKe.out, List.all_eq_true]
                intro y hy
                refine HG.out y ?_
                rw [← HKSl.out, List.take_length, HKSl.out, ← HN1.out, List.take_length]
                exact hy
              have HGB := Lib.hid hgood
              clear hgood HG hlt hk
              go_wp2_with fail
              have HOW : Hid (ObjAt wr (.agg #[.slice ra n1 rc, .slice rb n2 rd]) o) := HO3.out.below (Nat.le_refl _) (by rw [HMe.out]; exact HX.out.below)
              have hrk : Reads wr 1 (.slice ka n2 kc) K.length (bbs K) := by rw [HKl.out]; exact reads_of_owns HK2.out
              have hFw : From w.heap.size w wr := HF3.out.trans (HX.out.below.mono hwM)
              refine (s_l9Keep wr _ _ o K HOW.out hrk (by rw [HKl.out, HN2.out]) HFew.out HFX.out).mono ?_
              rintro e w4 ⟨r, rfl, ⟨vs, vy, ls, rfl, hse, hS1, hY1, hd1⟩, k4⟩
              have EB : Hid (wr.heap.size ≤ w4.heap.size) := k4.size
              obtain ⟨B, hB⟩ : ∃ B, wr.heap.size = B := ⟨_, rfl⟩
              have hTB : T < B := by rw [← hB]; exact (World.ownsRow.lt HT.out T rfl).2
              have hRB : w.heap.size + 1 < B := by rw [← hB]; exact HR.out.lt
              have HR4 := Lib.hid (HR.out.call k4)
              have HT4 : Hid (w4.ownsRow M 4 1 (.slice (some ⟨T, 0, none⟩) n1 n1) n1 (bbs KS)) := owns_call HT.out k4
              have HF4 := Lib.hid (hFw.call k4)
              have hse2 : o.secs.map (secTo K) = ls.map (·.1) := hse
              have hls : ls.length = n1 := by have := congrArg List.length hse2; simp only [List.length_map] at this; rw [HN1.out] at this; exact this.symm
              have hrow := hS1.row
              rw [hls] at hrow
              obtain ⟨pa, pc, rfl⟩ := owns_form hrow
              obtain ⟨Y, hYe⟩ : ∃ Y, keepL K o.syms = Y := ⟨_, rfl⟩
              have hYm : ∀ s ∈ Y, s ∈ o.syms := fun s hs => by rw [← hYe] at hs; exact (keepL_sub _ _).subset hs
              have hYl : Y.length ≤ n2 := by rw [← hYe, ← HN2.out]; exact (keepL_sub _ _).length_le
              have hY2 : OwnSyms w4 wr.heap.size vy Y := by rw [← hYe]; exact hY1
              obtain ⟨qa, qc, rfl⟩ := owns_form hY2
              have HYM := Lib.hid hYm
              have HYE := Lib.hid hYe
              obtain ⟨nY, hnY⟩ : ∃ nY, Y.length = nY := ⟨_, rfl⟩
              unfold OwnSyms at hY2
              rw [hnY] at hY2 hYl
              have HNY := Lib.hid hnY
              rw [hB] at hY2 hS1
              have HSlt := Lib.hid hS1.lt
              have HLS := Lib.hid hls
              have HSE := Lib.hid hse2
              rw [hB] at EB
              have hw9 : w.heap.size ≤ B := by omega
              simp only [show (keepO o K).secs.length = n1 from by show (o.secs.map _).length = n1; rw [List.length_map, HN1.out], show (keepO o K).syms.length = nY from by show (keepL K o.syms).length = nY; rw [HYE.out, HNY.out]]
              clear hd1 hrow hse hse2 hls hY1 hYm hYe k4 hrk hFw HOW HR HT HX HB cB zB HK2 hB hnY
              try rw [HYE.out]
              try rw [HNY.out]
              go_wp2_with fail
              obtain ⟨q, hq⟩ : ∃ q, w4.heap.size = q := ⟨_, rfl⟩
              rw [hq] at EB HSlt
              have hBq := EB.out
              have hz1 : (w4.alloc (.cells #[.slice pa n1 pc, .slice qa nY qc] 26)).heap.size = q + 1 := by simp [hq]
              have hz2 : ((w4.alloc (.cells #[.slice pa n1 pc, .slice qa nY qc] 26)).alloc (.cells #[.slice none 0 0, .slice qa nY qc] 26)).heap.size = q + 1 + 1 := by simp [hq]
              have HQ7 := Lib.hid (((show Blk (w4.alloc (.cells #[.slice pa n1 pc, .slice qa nY qc] 26)) q #[.slice pa n1 pc, .slice qa nY qc] 26 from Blk.newAt _ _ _ _ hq.symm).alloc (.cells #[.slice none 0 0, .slice qa nY qc] 26)).alloc (.cells #[] 3))
              have HU7 := Lib.hid ((show Blk ((w4.alloc (.cells #[.slice pa n1 pc, .slice qa nY qc] 26)).alloc (.cells #[.slice none 0 0, .slice qa nY qc] 26)) (q + 1) #[.slice none 0 0, .slice qa nY qc] 26 from Blk.newAt _ _ _ _ hz1.symm).alloc (.cells #[] 3))
              have hi7 : (((w4.alloc (.cells #[.slice pa n1 pc, .slice qa nY qc] 26)).alloc (.cells #[.slice none 0 0, .slice qa nY qc] 26)).alloc (.cells #[] 3)).ownsRow q 3 1 (.slice (some ⟨q + 1 + 1, 0, none⟩) 0 0) 0 (ivs (numU KS 0)) := by
                have := World.ownsRow_lit ((w4.alloc (.cells #[.slice pa n1 pc, .slice qa nY qc] 26)).alloc (.cells #[.slice none 0 0, .slice qa nY qc] 26)) #[] (e := 3) (size := 1) (base := q) 0 (by rw [hz2]; omega) (Nat.zero_le _) rfl
                rw [hz2] at this
                exact this
              have HI7 := Lib.hid hi7
              have HS7 := Lib.hid (((hS1.alloc (.cells #[.slice pa n1 pc, .slice qa nY qc] 26)).alloc (.cells #[.slice none 0 0, .slice qa nY qc] 26)).alloc (.cells #[] 3))
              have HY7 : Hid ((((w4.alloc (.cells #[.slice pa n1 pc, .slice qa nY qc] 26)).alloc (.cells #[.slice none 0 0, .slice qa nY qc] 26)).alloc (.cells #[] 3)).ownsRow B 78 4 (.slice qa nY qc) nY (Y.flatMap symL)) := World.ownsRow.alloc (World.ownsRow.alloc (World.ownsRow.alloc hY2 _) _) _
              have HT7 : Hid ((((w4.alloc (.cells #[.slice pa n1 pc, .slice qa nY qc] 26)).alloc (.cells #[.slice none 0 0, .slice qa nY qc] 26)).alloc (.cells #[] 3)).ownsRow M 4 1 (.slice (some ⟨T, 0, none⟩) n1 n1) n1 (bbs KS)) := World.ownsRow.alloc (World.ownsRow.alloc (World.ownsRow.alloc HT4.out _) _) _
              have HR7 := Lib.hid (((HR4.out.alloc (.cells #[.slice pa n1 pc, .slice qa nY qc] 26)).alloc (.cells #[.slice none 0 0, .slice qa nY qc] 26)).alloc (.cells #[] 3))
              have HF7 := Lib.hid (((HF4.out.alloc (.cells #[.slice pa n1 pc, .slice qa nY qc] 26)).alloc (.cells #[.slice none 0 0, .slice qa nY qc] 26)).alloc (.cells #[] 3))
              try simp only [hq]
              generalize hw7 : (((w4.alloc (.cells #[.slice pa n1 pc, .slice qa nY qc] 26)).alloc (.cells #[.slice none 0 0, .slice qa nY qc] 26)).alloc (.cells #[] 3)) = w7 at *
              clear hw7 hq hz1 hz2 hi7 hS1 hY2 HT4 HR4 HF4 EB
              go_loopw [14, 15] (fun tt i wr => ∃ (k : Nat) (U : List (SecD × Value × Value)) (oa : Option Addr) (oc : Nat) (ta : Option Addr) (tc : Nat), k ≤ n1 ∧ i = .int .i64 k ∧ tt = .slice ta k tc ∧ U.length ≤ k ∧ Hid (U = keepL (KS.take k) (ls.take k)) ∧ Hid (OwnSecs wr B (.slice pa n1 pc) ls) ∧ Hid (wr.ownsRow q 69 6 (.slice oa U.length oc) U.length (U.flatMap secL)) ∧ Hid (wr.ownsRow B 78 4 (.slice qa nY qc) nY (Y.flatMap symL)) ∧ Hid (wr.ownsRow q 3 1 (.slice ta k tc) k (ivs (numU KS k))) ∧ Hid (wr.ownsRow M 4 1 (.slice (some ⟨T, 0, none⟩) n1 n1) n1 (bbs KS)) ∧ Hid (Blk wr (w.heap.size + 1) #[.slice none 0 0, .slice none 0 0] 26) ∧ Hid (Blk wr q #[.slice pa n1 pc, .slice qa nY qc] 26) ∧ Hid (Blk wr (q + 1) #[.slice oa U.length oc, .slice qa nY qc] 26) ∧ Hid (From w.heap.size w wr)) (fun _ i _ => n1 - (intOf i).toNat)
              case atStart => exact ⟨0, [], none, 0, _, _, Nat.zero_le _, rfl, rfl, Nat.zero_le _, (by show _ = _; simp [keepL]), HS7, World.ownsRow_nil _ _ _ _, HY7, HI7, HT7, HR7, HQ7, HU7, HF7⟩
              case round =>
                clear HS7 HY7 HI7 HT7 HR7 HQ7 HU7 HF7
                obtain ⟨k, U, oa, oc, ta, tc, hk, rfl, rfl, hUl, HU, HS, HO, HY, HI, HT, HR, HQ, HX, HF⟩ := hrel
                have cQ := HQ.out.cell
                have zQ := HQ.out.lt
                have cX := HX.out.cell
                have zX := HX.out.lt
                by_cases hlt : k < n1
                · have i1 : (k : Int) < (n1 : Int) := by omega
                  have i3 : (0 : Int) ≤ (k : Int) := by omega
                  have hltS : k < ls.length := by rw [HLS.out]; exact hlt
                  have HNU := Lib.hid (keepL_next (K := KS) (l := ls) (by rw [HKSl.out, HLS.out]) (List.getElem?_eq_getElem hltS) (HKSg.out k hlt))
                  have hUn : U.length = keptN KS k := by rw [HU.out]; exact keepL_len KS ls (by rw [HKSl.out, HLS.out]) k
                  have HNT : Hid (numU KS (k + 1) = numU KS k ++ [(U.length : Int)]) := by show _ = _; rw [numU_step, hUn]
                  have hget : ls[k]? = some ls[k] := List.getElem?_eq_getElem hltS
                  obtain ⟨y, hy⟩ : ∃ y, ls[k] = y := ⟨_, rfl⟩
                  rw [hy] at HNU hget
                  clear hy hUn
                  go_wp2_with (at_builtin; refine wpList_append_own rfl (.tmp 130) (.tmp 134) 52 52 rfl q 3 i0 (.int .i64 0) 1 8 Try.underlying52 hi0 ia0 ia1 ia2 rfl (by decide) _ _ _ rfl (World.ownsRow.alloc HI.out _) _ 1 [_] rfl (src_new Try.underlying52 _ [_] 1 1 1 _ rfl ?c0) ?c1 ?c2 ?c3 ?_)
                  case c0 => first | rfl | (intro u hu; obtain rfl := List.mem_singleton.1 hu; rfl)
                  case c1 => unfold maxLen; omega
                  case c2 => omega
                  case c3 => first | omega | (simp; omega)
                  intro v' w5 hown hgr hpl
                  have hIr : (wr.alloc (.cells #[.int .i64 (U.length : Int)] 3)).ownsRow q 3 1 (.slice ta k tc) k (ivs (numU KS k)) := World.ownsRow.alloc HI.out _
                  have hI5 : w5.ownsRow q 3 1 v' (k + 1) (ivs (numU KS (k + 1))) := by
                    rw [HNT.out, ivs_append]
                    exact hown
                  obtain ⟨ta2, tc2, rfl⟩ := owns_form hI5
                  have HI5 := Lib.hid hI5
                  have HS5 : Hid (OwnSecs w5 B (.slice pa n1 pc) ls) := OwnSecs.keptNe (HS.out.alloc _) hIr (by decide) (by decide) (by decide) hgr
                  have HO5 : Hid (w5.ownsRow q 69 6 (.slice oa U.length oc) U.length (U.flatMap secL)) := owns_keptNe (World.ownsRow.alloc HO.out _) hIr (by decide) hgr
                  have HY5 : Hid (w5.ownsRow B 78 4 (.slice qa nY qc) nY (Y.flatMap symL)) := owns_keptNe (World.ownsRow.alloc HY.out _) hIr (by decide) hgr
                  have HT5 : Hid (w5.ownsRow M 4 1 (.slice (some ⟨T, 0, none⟩) n1 n1) n1 (bbs KS)) := owns_keptNe (World.ownsRow.alloc HT.out _) hIr (by decide) hgr
                  have HQ5 : Hid (Blk w5 q #[.slice pa n1 pc, .slice qa nY qc] 26) := Blk.grown (HQ.out.alloc _) hgr (fun e => blk_apart (HQ.out.alloc _) hIr (by decide) e)
                  have HX5 : Hid (Blk w5 (q + 1) #[.slice oa U.length oc, .slice qa nY qc] 26) := Blk.grown (HX.out.alloc _) hgr (fun e => blk_apart (HX.out.alloc _) hIr (by decide) e)
                  have HR5 : Hid (Blk w5 (w.heap.size + 1) #[.slice none 0 0, .slice none 0 0] 26) := Blk.grown (HR.out.alloc _) hgr (fun e => blk_apart (HR.out.alloc _) hIr (by decide) e)
                  have HF5 := Lib.hid (From.grown (HF.out.alloc (.cells #[.int .i64 (U.length : Int)] 3)) hgr (fun k' hk' => by have := (World.ownsRow.lt HI.out k' hk').1; omega))
                  have hkT : w5.cell? ⟨T, k, none⟩ = some (.bool (inI list k)) := by
                    have hg := HKSg.out k hlt
                    have hJ2 : k < KS.length := by rw [HKSl.out]; exact hlt
                    rw [HT5.out.cellAt k (by omega), bbs_get _ _ hJ2, List.getD_eq_getElem?_getD, hg]
                    rfl
                  clear hown hgr hpl hIr hI5 HNT HS HO HY HI HT HR HQ HX HF cQ zQ cX zX
                  cases hin : inI list k
                  · rw [hin] at hkT
                    have HU2 : Hid (U = keepL (KS.take (k + 1)) (ls.take (k + 1))) := by show _ = _; rw [HNU.out, hin, HU.out]; simp
                    clear hin HNU
                    go_wp2_with fail
                    go_roundw
                    case rel => exact ⟨k + 1, U, oa, oc, ta2, tc2, by omega, by go_num, rfl, by omega, HU2, HS5, HO5, HY5, HI5, HT5, HR5, HQ5, HX5, HF5⟩
                    case measure => simp [intOf]; try omega
                  rw [hin] at hkT
                  have HU2 : Hid (U ++ [y] = keepL (KS.take (k + 1)) (ls.take (k + 1))) := by show _ = _; rw [HNU.out, hin, HU.out]; simp
                  clear hin HNU HU
                  obtain ⟨x, vb, vf⟩ := y
                  have hm := HS5.out.each _ (List.mem_of_getElem? hget)
                  simp only at hm
                  obtain ⟨ba, bc, rfl⟩ : ∃ ba bc, vb = .slice ba x.bytes.length bc := owns_form hm.1
                  obtain ⟨fa, fc, rfl⟩ : ∃ fa fc, vf = .slice fa x.fix.length fc := owns_form hm.2
                  obtain ⟨pg, pg2, hpv⟩ := row_some HS5.out.row (by intro e; simp only [Value.slice.injEq] at e; omega)
                  simp only [Value.slice.injEq] at hpv
                  obtain ⟨rfl, -, rfl⟩ := hpv
                  have hcell : ∀ u : World, OwnSecs u B (.slice (some ⟨pg, 0, none⟩) n1 pc) ls → ∀ j u', (secL (x, Value.slice ba x.bytes.length bc, Value.slice fa x.fix.length fc))[j]? = some u' → u.cell? ⟨pg, k * 6 + j, none⟩ = some u' := fun u hSu j u' hj => by
                    have hj6 : j < 6 := by have := (List.getElem?_eq_some_iff.1 hj).1; rw [secL_length] at this; exact this
                    have hr6 := hSu.row
                    rw [HLS.out] at hr6
                    rw [World.ownsRow.cellAt hr6 (k * 6 + j) (by omega), rows_at secL 6 secL_length hget j hj6, hj]
                  obtain ⟨nb, hnb⟩ : ∃ nb, x.bytes.length = nb := ⟨_, rfl⟩
                  obtain ⟨nf, hnf⟩ : ∃ nf, x.fix.length = nf := ⟨_, rfl⟩
                  rw [hnb, hnf] at hcell HU2
                  clear hm hget hnb hnf
                  go_wp2_with fail
                  let f0 : Nat → Value := fun i => match i with
                    | 0 => .pointer (some ⟨q + 1, 0, none⟩)
                    | 1 => .slice oa U.length oc
                    | 2 => .pointer (some ⟨q, 0, none⟩)
                    | 3 => .slice (some ⟨pg, 0, none⟩) n1 pc
                    | 4 => .int .i64 (k : Int)
                    | 5 => .pointer (some ⟨pg, k * 6, none⟩)
                    | 6 => .agg #[.string x.name, .int .i64 x.kind, .int .i64 x.align, .slice ba nb bc, .int .i64 x.size, .slice fa nf fc]
                    | 9 => .pointer (some ⟨q + 1, 0, none⟩)
                    | _ => undef
                  let G : World → Prop := fun u => OwnSecs u B (.slice (some ⟨pg, 0, none⟩) n1 pc) ls ∧ u.ownsRow B 78 4 (.slice qa nY qc) nY (Y.flatMap symL) ∧ u.ownsRow q 3 1 (.slice ta2 (k + 1) tc2) (k + 1) (ivs (numU KS (k + 1))) ∧ u.ownsRow M 4 1 (.slice (some ⟨T, 0, none⟩) n1 n1) n1 (bbs KS) ∧ Blk u (w.heap.size + 1) #[.slice none 0 0, .slice none 0 0] 26 ∧ Blk u q #[.slice (some ⟨pg, 0, none⟩) n1 pc, .slice qa nY qc] 26 ∧ From w.heap.size w u
                  have hG : ∀ u u', Below u.heap.size u u' → G u → G u' := fun u u' hb h => ⟨h.1.call hb, owns_call h.2.1 hb, owns_call h.2.2.1 hb, owns_call h.2.2.2.1 hb, h.2.2.2.2.1.call hb, h.2.2.2.2.2.1.call hb, h.2.2.2.2.2.2.call hb⟩
                  refine wp_region_get (fun i v u => (i = 7 → ∃ z, v = .slice (some ⟨z, 0, none⟩) 1 1 ∧ Blk u z #[.string x.name, .int .i64 x.kind, .int .i64 x.align, .slice ba nb bc, .int .i64 x.size, .slice fa nf fc] 69) ∧ (i = 8 → u.ownsRow q 69 6 v (U ++ [(x, Value.slice ba nb bc, Value.slice fa nf fc)]).length ((U ++ [(x, Value.slice ba nb bc, Value.slice fa nf fc)]).flatMap secL)) ∧ (i ≠ 7 → i ≠ 8 → v = f0 i))
                    (fun _ f u => G u ∧ (f 10 = false → Blk u (q + 1) #[.slice oa U.length oc, .slice qa nY qc] 26) ∧ (f 8 = false → u.ownsRow q 69 6 (.slice oa U.length oc) U.length (U.flatMap secL)) ∧ (f 10 = true → ∃ yb2 yd2, Blk u (q + 1) #[.slice yb2 (U ++ [(x, Value.slice ba nb bc, Value.slice fa nf fc)]).length yd2, .slice qa nY qc] 26 ∧ u.ownsRow q 69 6 (.slice yb2 (U ++ [(x, Value.slice ba nb bc, Value.slice fa nf fc)]).length yd2) (U ++ [(x, Value.slice ba nb bc, Value.slice fa nf fc)]).length ((U ++ [(x, Value.slice ba nb bc, Value.slice fa nf fc)]).flatMap secL)))
                    [[], [0], [], [2], [], [3, 4], [5], [6], [1, 7], [], [8, 9]] [[], [0], [], [2], [], [2, 3, 4], [2, 3, 4, 5], [2, 3, 4, 5, 6], [0, 1, 2, 3, 4, 5, 6, 7], [0, 1, 2, 3, 4, 5, 6, 7, 8], [0, 1, 2, 3, 4, 5, 6, 7, 8, 9]] [] (by kernel_rfl) (by kernel_rfl) (by kernel_rfl) (by kernel_rfl) (by kernel_rfl)
                    ⟨hG _ _ ((From.start w5).drew.below) ⟨HS5.out, HY5.out, HI5.out, HT5.out, HR5.out, HQ5.out, HF5.out⟩, fun _ => HX5.out.drew, fun _ => World.ownsRow.drew HO5.out, fun h => by cases h⟩ ?ho ?hq
                  case ho =>
                    refine ⟨?_, ?_, ?_, ?_, ?_, ?_, ?_, ?_, ?_, ?_, ?_, trivial⟩
                    · intro n f A u K' hfr hn hl hS hv hK'
                      have eA9 : A.tmps.getD 13 undef = .pointer (some ⟨q + 1, 0, none⟩) := hfr 13 (no_dst (by kernel_rfl))
                      have eB9 : (A.tmps[13]?).getD undef = .pointer (some ⟨q + 1, 0, none⟩) := by simpa using eA9
                      refine owe_run rfl (wp_val (v := .pointer (some ⟨q + 1, 0, none⟩)) ?_ (hK' _ _ ⟨hS.1, fun h => hS.2.1 (setl_off h), fun h => hS.2.2.1 (setl_off h), fun h => hS.2.2.2 (by rwa [setl_ne (by decide)] at h)⟩ (fun _ _ _ h => h) (fun _ => ⟨fun e => absurd e (by decide), fun e => absurd e (by decide), fun _ _ => rfl⟩)))
                      first
                        | (go_simp; done)
                        | (go_simp; rfl)
                    · intro n f A u K' hfr hn hl hS hv hK'
                      have eA0 : A.tmps.getD 140 undef = .pointer (some ⟨q + 1, 0, none⟩) := hv.1.2.2 (by decide) (by decide)
                      have eB0 : (A.tmps[140]?).getD undef = .pointer (some ⟨q + 1, 0, none⟩) := by simpa using eA0
                      have cu := (hS.2.1 (hl.2.2 10 (by decide))).cell
                      refine owe_run rfl (wp_val (v := .slice oa U.length oc) ?_ (hK' _ _ ⟨hS.1, fun h => hS.2.1 (setl_off h), fun h => hS.2.2.1 (setl_off h), fun h => hS.2.2.2 (by rwa [setl_ne (by decide)] at h)⟩ (fun _ _ _ h => h) (fun _ => ⟨fun e => absurd e (by decide), fun e => absurd e (by decide), fun _ _ => rfl⟩)))
                      first
                        | (go_simp; done)
                        | (go_simp; rfl)
                    · intro n f A u K' hfr hn hl hS hv hK'
                      have eA9 : A.tmps.getD 12 undef = .pointer (some ⟨q, 0, none⟩) := hfr 12 (no_dst (by kernel_rfl))
                      have eB9 : (A.tmps[12]?).getD undef = .pointer (some ⟨q, 0, none⟩) := by simpa using eA9
                      refine owe_run rfl (wp_val (v := .pointer (some ⟨q, 0, none⟩)) ?_ (hK' _ _ ⟨hS.1, fun h => hS.2.1 (setl_off h), fun h => hS.2.2.1 (setl_off h), fun h => hS.2.2.2 (by rwa [setl_ne (by decide)] at h)⟩ (fun _ _ _ h => h) (fun _ => ⟨fun e => absurd e (by decide), fun e => absurd e (by decide), fun _ _ => rfl⟩)))
                      first
                        | (go_simp; done)
                        | (go_simp; rfl)
                    · intro n f A u K' hfr hn hl hS hv hK'
                      have eA0 : A.tmps.getD 142 undef = .pointer (some ⟨q, 0, none⟩) := hv.1.2.2 (by decide) (by decide)
                      have eB0 : (A.tmps[142]?).getD undef = .pointer (some ⟨q, 0, none⟩) := by simpa using eA0
                      have cu := hS.1.2.2.2.2.2.1.cell
                      refine owe_run rfl (wp_val (v := .slice (some ⟨pg, 0, none⟩) n1 pc) ?_ (hK' _ _ ⟨hS.1, fun h => hS.2.1 (setl_off h), fun h => hS.2.2.1 (setl_off h), fun h => hS.2.2.2 (by rwa [setl_ne (by decide)] at h)⟩ (fun _ _ _ h => h) (fun _ => ⟨fun e => absurd e (by decide), fun e => absurd e (by decide), fun _ _ => rfl⟩)))
                      first
                        | (go_simp; done)
                        | (go_simp; rfl)
                    · intro n f A u K' hfr hn hl hS hv hK'
                      have eA9 : A.tmps.getD 15 undef = .int .i64 (k : Int) := hfr 15 (no_dst (by kernel_rfl))
                      have eB9 : (A.tmps[15]?).getD undef = .int .i64 (k : Int) := by simpa using eA9
                      refine owe_run rfl (wp_val (v := .int .i64 (k : Int)) ?_ (hK' _ _ ⟨hS.1, fun h => hS.2.1 (setl_off h), fun h => hS.2.2.1 (setl_off h), fun h => hS.2.2.2 (by rwa [setl_ne (by decide)] at h)⟩ (fun _ _ _ h => h) (fun _ => ⟨fun e => absurd e (by decide), fun e => absurd e (by decide), fun _ _ => rfl⟩)))
                      first
                        | (go_simp; done)
                        | (go_simp; rfl)
                    · intro n f A u K' hfr hn hl hS hv hK'
                      have eA0 : A.tmps.getD 143 undef = .slice (some ⟨pg, 0, none⟩) n1 pc := hv.1.2.2 (by decide) (by decide)
                      have eB0 : (A.tmps[143]?).getD undef = .slice (some ⟨pg, 0, none⟩) n1 pc := by simpa using eA0
                      have eA1 : A.tmps.getD 144 undef = .int .i64 (k : Int) := hv.2.1.2.2 (by decide) (by decide)
                      have eB1 : (A.tmps[144]?).getD undef = .int .i64 (k : Int) := by simpa using eA1
                      refine owe_run rfl (wp_val (v := .pointer (some ⟨pg, k * 6, none⟩)) ?_ (hK' _ _ ⟨hS.1, fun h => hS.2.1 (setl_off h), fun h => hS.2.2.1 (setl_off h), fun h => hS.2.2.2 (by rwa [setl_ne (by decide)] at h)⟩ (fun _ _ _ h => h) (fun _ => ⟨fun e => absurd e (by decide), fun e => absurd e (by decide), fun _ _ => rfl⟩)))
                      first
                        | (go_simp; done)
                        | (go_simp; rfl)
                    · intro n f A u K' hfr hn hl hS hv hK'
                      have eA0 : A.tmps.getD 145 undef = .pointer (some ⟨pg, k * 6, none⟩) := hv.1.2.2 (by decide) (by decide)
                      have eB0 : (A.tmps[145]?).getD undef = .pointer (some ⟨pg, k * 6, none⟩) := by simpa using eA0
                      have hSu := hcell u hS.1.1
                      have q0 := hSu 0 (.string x.name) rfl
                      have q1 := hSu 1 (.int .i64 x.kind) rfl
                      have q2 := hSu 2 (.int .i64 x.align) rfl
                      have q3 := hSu 3 (.slice ba nb bc) rfl
                      have q4 := hSu 4 (.int .i64 x.size) rfl
                      have q5 := hSu 5 (.slice fa nf fc) rfl
                      rw [Nat.add_zero] at q0
                      clear hSu
                      refine owe_run rfl (wp_val (v := .agg #[.string x.name, .int .i64 x.kind, .int .i64 x.align, .slice ba nb bc, .int .i64 x.size, .slice fa nf fc]) ?_ (hK' _ _ ⟨hS.1, fun h => hS.2.1 (setl_off h), fun h => hS.2.2.1 (setl_off h), fun h => hS.2.2.2 (by rwa [setl_ne (by decide)] at h)⟩ (fun _ _ _ h => h) (fun _ => ⟨fun e => absurd e (by decide), fun e => absurd e (by decide), fun _ _ => rfl⟩)))
                      first
                        | (go_simp; done)
                        | (go_simp; rfl)
                    · intro n f A u K' hfr hn hl hS hv hK'
                      have eA0 : A.tmps.getD 146 undef = .agg #[.string x.name, .int .i64 x.kind, .int .i64 x.align, .slice ba nb bc, .int .i64 x.size, .slice fa nf fc] := hv.1.2.2 (by decide) (by decide)
                      have eB0 : (A.tmps[146]?).getD undef = .agg #[.string x.name, .int .i64 x.kind, .int .i64 x.align, .slice ba nb bc, .int .i64 x.size, .slice fa nf fc] := by simpa using eA0
                      have k1 : Below u.heap.size u (u.alloc (.cells #[.string x.name, .int .i64 x.kind, .int .i64 x.align, .slice ba nb bc, .int .i64 x.size, .slice fa nf fc] 69)) := ((From.start u).alloc _).below
                      refine owe_run rfl (wp_val (v := .slice (some ⟨u.heap.size, 0, none⟩) 1 1) (w' := u.alloc (.cells #[.string x.name, .int .i64 x.kind, .int .i64 x.align, .slice ba nb bc, .int .i64 x.size, .slice fa nf fc] 69)) ?_ (hK' _ _ ⟨hG _ _ k1 hS.1, fun h => (hS.2.1 (setl_off h)).call k1, fun h => owns_call (hS.2.2.1 (setl_off h)) k1, fun h => (by rw [setl_ne (by decide), hl.2.2 10 (by decide)] at h; cases h)⟩ (fun j y _ h => ⟨fun e => (have ⟨z, e1, e2⟩ := h.1 e; ⟨z, e1, e2.call k1⟩), fun e => owns_call (h.2.1 e) k1, h.2.2⟩) (fun _ => ⟨fun _ => ⟨_, rfl, Blk.new u _ _⟩, fun e => absurd e (by decide), fun e _ => absurd rfl e⟩)))
                      first
                        | (go_simp; done)
                        | (go_simp; rfl)
                    · intro n f A u K' hfr hn hl hS hv hK'
                      have eA0 : A.tmps.getD 141 undef = .slice oa U.length oc := hv.1.2.2 (by decide) (by decide)
                      obtain ⟨z, e8, hz8⟩ := hv.2.1.1 rfl
                      have hown := hS.2.2.1 hl.1
                      have hQo := hS.2.1 (hl.2.2 10 (by decide))
                      refine step_append_src rfl (.tmp 141) (.tmp 147) 23 23 rfl q 69 j0 _ 6 88 Try.underlying23 hj0 ja0 ja1 ja2 rfl (by decide) _ _ _ eA0 hown _ 1 (secL (x, Value.slice ba nb bc, Value.slice fa nf fc)) e8 (src_blk Try.underlying23 u z (secL (x, Value.slice ba nb bc, Value.slice fa nf fc)) 6 1 1 69 hz8 rfl (by intro u hu; simp only [secL, List.mem_cons, List.not_mem_nil, or_false] at hu; rcases hu with rfl | rfl | rfl | rfl | rfl | rfl <;> rfl)) (by unfold maxLen; omega) (by omega) (by have := hQo.lt; omega) ?_
                      intro v' w1 hown1 hgr1
                      have hrw : ∀ k', (Value.slice oa U.length oc).ownBlock = some k' → q ≤ k' := fun k' hk' => (World.ownsRow.lt hown k' hk').1
                      have hY7 : w1.ownsRow q 69 6 v' (U ++ [(x, Value.slice ba nb bc, Value.slice fa nf fc)]).length ((U ++ [(x, Value.slice ba nb bc, Value.slice fa nf fc)]).flatMap secL) := by
                        have h2 : w1.ownsRow q 69 6 v' (U.length + 1) (U.flatMap secL ++ secL (x, Value.slice ba nb bc, Value.slice fa nf fc)) := hown1
                        rw [List.length_append, List.flatMap_append]
                        simpa using h2
                      exact hK' _ _ ⟨⟨hS.1.1.keptOld (fun k' hk' => (HSlt.out k' hk').2) hgr1 hrw, owns_keptNe hS.1.2.1 hown (by decide) hgr1, owns_keptNe hS.1.2.2.1 hown (by decide) hgr1, owns_keptNe hS.1.2.2.2.1 hown (by decide) hgr1, Blk.grown hS.1.2.2.2.2.1 hgr1 (fun e => blk_apart hS.1.2.2.2.2.1 hown (by decide) e), Blk.grown hS.1.2.2.2.2.2.1 hgr1 (fun e => blk_apart hS.1.2.2.2.2.2.1 hown (by decide) e), From.grown hS.1.2.2.2.2.2.2 hgr1 (fun k' hk' => by have := hrw k' hk'; omega)⟩, fun h => Blk.grown hQo hgr1 (fun e => blk_apart hQo hown (by decide) e), fun h => (by rw [setl_at] at h; cases h), fun h => (by rw [setl_ne (by decide), hl.2.2 10 (by decide)] at h; cases h)⟩ (fun j y hj h => ⟨fun e => by subst e; exact absurd hj (by decide), fun e => by subst e; exact absurd hj (by decide), h.2.2⟩) (fun _ => ⟨fun e => absurd e (by decide), fun _ => hY7, fun _ e => absurd rfl e⟩)
                    · intro n f A u K' hfr hn hl hS hv hK'
                      have eA9 : A.tmps.getD 13 undef = .pointer (some ⟨q + 1, 0, none⟩) := hfr 13 (no_dst (by kernel_rfl))
                      have eB9 : (A.tmps[13]?).getD undef = .pointer (some ⟨q + 1, 0, none⟩) := by simpa using eA9
                      refine owe_run rfl (wp_val (v := .pointer (some ⟨q + 1, 0, none⟩)) ?_ (hK' _ _ ⟨hS.1, fun h => hS.2.1 (setl_off h), fun h => hS.2.2.1 (setl_off h), fun h => hS.2.2.2 (by rwa [setl_ne (by decide)] at h)⟩ (fun _ _ _ h => h) (fun _ => ⟨fun e => absurd e (by decide), fun e => absurd e (by decide), fun _ _ => rfl⟩)))
                      first
                        | (go_simp; done)
                        | (go_simp; rfl)
                    · intro n f A u K' hfr hn hl hS hv hK'
                      have hY8 := hv.1.2.1 rfl
                      have eA1 : A.tmps.getD 149 undef = .pointer (some ⟨q + 1, 0, none⟩) := hv.2.1.2.2 (by decide) (by decide)
                      have eB1 : (A.tmps[149]?).getD undef = .pointer (some ⟨q + 1, 0, none⟩) := by simpa using eA1
                      obtain ⟨yb2, yd2, e8⟩ := owns_form hY8
                      rw [e8] at hY8
                      have e9 : (A.tmps[148]?).getD undef = .slice yb2 (U ++ [(x, Value.slice ba nb bc, Value.slice fa nf fc)]).length yd2 := by simpa using e8
                      have hQo := hS.2.1 hl.1
                      have cq := hQo.cell
                      have fq := hQo.frozen
                      have hQn : Blk (u.setCell ⟨q + 1, 0, none⟩ (.slice yb2 (U ++ [(x, Value.slice ba nb bc, Value.slice fa nf fc)]).length yd2)) (q + 1) #[.slice yb2 (U ++ [(x, Value.slice ba nb bc, Value.slice fa nf fc)]).length yd2, .slice qa nY qc] 26 := by
                        have := hQo.set (o := 0) (.slice yb2 (U ++ [(x, Value.slice ba nb bc, Value.slice fa nf fc)]).length yd2)
                        simpa using this
                      refine owe_run rfl (wp_skp (w' := u.setCell ⟨q + 1, 0, none⟩ (.slice yb2 (U ++ [(x, Value.slice ba nb bc, Value.slice fa nf fc)]).length yd2)) ?_ (hK' undef _ ⟨⟨hS.1.1.storeB hQo (by decide) (by decide) (by decide) 0 _, row_storeB hS.1.2.1 hQo (by decide) 0 _, row_storeB hS.1.2.2.1 hQo (by decide) 0 _, row_storeB hS.1.2.2.2.1 hQo (by decide) 0 _, hS.1.2.2.2.2.1.other (p := ⟨q + 1, 0, none⟩) (by show q + 1 ≠ _; omega) _, hS.1.2.2.2.2.2.1.other (p := ⟨q + 1, 0, none⟩) (by show q + 1 ≠ _; omega) _, hS.1.2.2.2.2.2.2.setCell (p := ⟨q + 1, 0, none⟩) (by show _ ≤ q + 1; omega) _⟩, fun h => (by rw [setl_at] at h; cases h), fun h => (by rw [setl_ne (by decide), hl.2.1 8 (by decide)] at h; cases h), fun _ => ⟨yb2, yd2, hQn, row_storeB hY8 hQo (by decide) 0 _⟩⟩ (fun j y hj h => ⟨fun e => by subst e; exact absurd hj (by decide), fun e => by subst e; exact absurd hj (by decide), h.2.2⟩) (fun h => absurd rfl h)))
                      first
                        | (go_simp; done)
                        | (go_simp; rfl)
                  case hq =>
                    intro gg u hS hv
                    clear hv f0
                    obtain ⟨yb2, yd2, hQ9, hY9⟩ := hS.2.2.2 (by decide)
                    have hG9 : G u := hS.1
                    have HS9 := Lib.hid hG9.1
                    have HY9 := Lib.hid hG9.2.1
                    have HI9 := Lib.hid hG9.2.2.1
                    have HT9 := Lib.hid hG9.2.2.2.1
                    have HR9 := Lib.hid hG9.2.2.2.2.1
                    have HQ9 := Lib.hid hG9.2.2.2.2.2.1
                    have HF9 := Lib.hid hG9.2.2.2.2.2.2
                    have HX9 := Lib.hid hQ9
                    have HO9 := Lib.hid hY9
                    have hl2 : (U ++ [(x, Value.slice ba nb bc, Value.slice fa nf fc)]).length ≤ k + 1 := by rw [List.length_append]; simp; omega
                    obtain ⟨U2, hU2⟩ : ∃ U2, U ++ [(x, Value.slice ba nb bc, Value.slice fa nf fc)] = U2 := ⟨_, rfl⟩
                    rw [hU2] at HX9 HO9 HU2 hl2
                    clear hS hG9 hQ9 hY9 hG G hU2 HS5 HI5 HR5 HT5 HF5 HQ5 HY5 HX5 HO5 hkT hcell
                    simp only [List.map, putG, List.setIfInBounds_toArray, List.set_cons_succ, List.set_cons_zero]
                    go_wp2_with fail
                    go_roundw
                    case rel => exact ⟨k + 1, U2, yb2, yd2, ta2, tc2, by omega, by go_num, rfl, hl2, HU2, HS9, HO9, HY9, HI9, HT9, HR9, HQ9, HX9, HF9⟩
                    case measure => simp [intOf]; try omega
                · obtain rfl : n1 = k := by omega
                  have hUf : U = keepL KS ls := by
                    have := HU.out
                    rw [← HLS.out, List.take_length, HLS.out, ← HKSl.out, List.take_length] at this
                    exact this
                  have hUs : U.Sublist ls := by rw [hUf]; exact keepL_sub _ _
                  have hUm : U.map (·.1) = keepL KS (o.secs.map (secTo K)) := by rw [hUf, keepL_map, ← HSE.out]
                  have ESO : Hid (keepSO o list = ⟨U.map (·.1), Y.map (whrTo KS)⟩) := by
                    show _ = _
                    unfold keepSO
                    rw [ESB.out, HGB.out, if_pos rfl]
                    unfold keepSec
                    rw [HKSe.out, HKe.out, HYE.out, hUm]
                  have HP := Lib.hid (HS.out.pickS hUs HO.out hBq)
                  have HY0 : Hid (wr.ownsRow B 78 4 (.slice qa nY qc) nY ((mapK (whrTo KS) Y 0).flatMap symL)) := by
                    show World.ownsRow _ _ _ _ _ _ _
                    rw [mapK_zero]
                    exact HY.out
                  clear hUf hUs hUm HU HSlt HLS HSE HY HS HO HT HQ hlt hk hUl
                  go_wp2_with fail
                  generalize hnU : U.length = nU at *
                  clear hnU cX zX cQ zQ
                  go_loopw [16] (fun i wr => ∃ (k : Nat), k ≤ nY ∧ i = .int .i64 k ∧ Hid (OwnSecs wr B (.slice oa nU oc) U) ∧ Hid (wr.ownsRow B 78 4 (.slice qa nY qc) nY ((mapK (whrTo KS) Y k).flatMap symL)) ∧ Hid (wr.ownsRow q 3 1 (.slice ta n1 tc) n1 (ivs (numU KS n1))) ∧ Hid (Blk wr (w.heap.size + 1) #[.slice none 0 0, .slice none 0 0] 26) ∧ Hid (Blk wr (q + 1) #[.slice oa nU oc, .slice qa nY qc] 26) ∧ Hid (From w.heap.size w wr)) (fun i _ => nY - (intOf i).toNat)
                  case atStart => exact ⟨0, Nat.zero_le _, rfl, HP, HY0, HI, HR, HX, HF⟩
                  case round =>
                    clear HP HY0 HI HR HX HF
                    obtain ⟨k, hk, rfl, HS, HY, HI, HR, HX, HF⟩ := hrel
                    have cX := HX.out.cell
                    have zX := HX.out.lt
                    by_cases hlt : k < nY
                    · have i1 : (k : Int) < (nY : Int) := by omega
                      have i3 : (0 : Int) ≤ (k : Int) := by omega
                      have hltY : k < Y.length := by rw [HNY.out]; exact hlt
                      have hmem := HYM.out Y[k] (List.getElem_mem hltY)
                      have hwr := (objB_sym HV.out hmem).whr
                      rw [HN1.out] at hwr
                      have HG := Lib.hid (mapK_get (whrTo KS) Y k hltY)
                      have HM := Lib.hid (mapK_step (whrTo KS) Y k hltY)
                      have HKl2 : Hid ((mapK (whrTo KS) Y k).length = nY) := by show _ = _; rw [mapK_length, HNY.out]
                      clear hmem
                      generalize Y[k] = x at *
                      obtain ⟨nm, bd, wh, vl⟩ := x
                      simp only at hwr
                      obtain ⟨S, hS⟩ : ∃ S, mapK (whrTo KS) Y k = S := ⟨_, rfl⟩
                      rw [hS] at HG HM HKl2 HY
                      clear hS
                      obtain ⟨g, gc, hv⟩ := row_some HY.out (by intro e; simp only [Value.slice.injEq] at e; omega)
                      simp only [Value.slice.injEq] at hv
                      obtain ⟨rfl, -, rfl⟩ := hv
                      have g2 := (syms_cells HY.out HKl2.out HG.out).2.2.1
                      dsimp only at g2
                      by_cases hw : 0 ≤ wh
                      case neg =>
                        have hw2 : wh < 0 := by omega
                        have HE2 : Hid (whrTo KS ⟨nm, bd, wh, vl⟩ = ⟨nm, bd, wh, vl⟩) := by show _ = _; unfold whrTo; rw [if_neg hw]
                        have HY9 : Hid (wr.ownsRow B 78 4 (.slice (some ⟨g, 0, none⟩) nY qc) nY ((mapK (whrTo KS) Y (k + 1)).flatMap symL)) := by show World.ownsRow _ _ _ _ _ _ _; rw [HM.out, HE2.out, set_same HG.out]; exact HY.out
                        clear hw
                        go_wp2_with fail
                        go_roundw
                        case rel => exact ⟨k + 1, by omega, by go_num, HS, HY9, HI, HR, HX, HF⟩
                        case measure => simp [intOf]; try omega
                      obtain ⟨J, rfl⟩ := Int.eq_ofNat_of_zero_le hw
                      have hJ : J < n1 := by omega
                      have j1 : (J : Int) < (n1 : Int) := by omega
                      have j3 : (0 : Int) ≤ (J : Int) := by omega
                      have HE2 : Hid (whrTo KS ⟨nm, bd, (J : Int), vl⟩ = ⟨nm, bd, ((keptN KS J : Nat) : Int), vl⟩) := by show _ = _; unfold whrTo; rw [if_pos hw, Int.toNat_natCast]
                      obtain ⟨tb, tb2, htv⟩ := row_some HI.out (by intro e; simp only [Value.slice.injEq] at e; omega)
                      simp only [Value.slice.injEq] at htv
                      obtain ⟨rfl, -, rfl⟩ := htv
                      obtain ⟨Z, hZ⟩ : ∃ Z : Int, ((keptN KS J : Nat) : Int) = Z := ⟨_, rfl⟩
                      have hnum : wr.cell? ⟨tb, J, none⟩ = some (.int .i64 Z) := by
                        rw [World.ownsRow.cellAt HI.out J (by omega), ivs_get (numU_get KS n1 J hJ), hZ]
                      rw [hZ] at HE2
                      have hgB := (World.ownsRow.lt HY.out g rfl).1
                      have hgl := (World.ownsRow.lt HY.out g rfl).2
                      have ff := World.ownsRow.frozenAt HY.out (k * 4 + 2)
                      have hst := World.ownsRow.stored HY.out (k * 4 + 2) (.int .i64 Z)
                      have nR : g ≠ w.heap.size + 1 := fun e => blk_apart HR.out HY.out (by decide) (by rw [e]; rfl)
                      have nQ : g ≠ q + 1 := fun e => blk_apart HX.out HY.out (by decide) (by rw [e]; rfl)
                      have HY9 : Hid ((wr.setCell ⟨g, k * 4 + 2, none⟩ (.int .i64 Z)).ownsRow B 78 4 (.slice (some ⟨g, 0, none⟩) nY qc) nY ((mapK (whrTo KS) Y (k + 1)).flatMap symL)) := by
                        show World.ownsRow _ _ _ _ _ _ _
                        have h1 := hst.1
                        rw [syms_set HG.out (x' := ⟨nm, bd, Z, vl⟩) 2 (.int .i64 Z) (by decide) rfl] at h1
                        rw [HM.out, HE2.out]
                        exact h1
                      have HS9 := Lib.hid (OwnSecs.keptNe HS.out HY.out (by decide) (by decide) (by decide) hst.2)
                      have HI9 : Hid ((wr.setCell ⟨g, k * 4 + 2, none⟩ (.int .i64 Z)).ownsRow q 3 1 (.slice (some ⟨tb, 0, none⟩) n1 tc) n1 (ivs (numU KS n1))) := owns_keptNe HI.out HY.out (by decide) hst.2
                      have HR9 := Lib.hid (HR.out.other (p := ⟨g, k * 4 + 2, none⟩) nR (.int .i64 Z))
                      have HX9 := Lib.hid (HX.out.other (p := ⟨g, k * 4 + 2, none⟩) nQ (.int .i64 Z))
                      have HF9 := Lib.hid (HF.out.setCell (p := ⟨g, k * 4 + 2, none⟩) (by show _ ≤ g; omega) (.int .i64 Z))
                      clear hst hZ nR nQ HS HY HI HR HX HF
                      go_wp2_with fail
                      go_still_tail 14, (by kernel_rfl)
                      change wpList _ _ _ _ _ wr.drew
                      have hd9 : Below (wr.setCell ⟨g, k * 4 + 2, none⟩ (.int .i64 Z)).heap.size (wr.setCell ⟨g, k * 4 + 2, none⟩ (.int .i64 Z)) ((wr.setCell ⟨g, k * 4 + 2, none⟩ (.int .i64 Z)).drew) := (From.start _).drew.below
                      have HS8 := Lib.hid (HS9.out.call hd9)
                      have HY8 : Hid (((wr.setCell ⟨g, k * 4 + 2, none⟩ (.int .i64 Z)).drew).ownsRow B 78 4 (.slice (some ⟨g, 0, none⟩) nY qc) nY ((mapK (whrTo KS) Y (k + 1)).flatMap symL)) := owns_call HY9.out hd9
                      have HI8 : Hid (((wr.setCell ⟨g, k * 4 + 2, none⟩ (.int .i64 Z)).drew).ownsRow q 3 1 (.slice (some ⟨tb, 0, none⟩) n1 tc) n1 (ivs (numU KS n1))) := owns_call HI9.out hd9
                      have HR8 := Lib.hid (HR9.out.call hd9)
                      have HX8 := Lib.hid (HX9.out.call hd9)
                      have HF8 := Lib.hid (HF9.out.call hd9)
                      have d3 : wr.drew.cell? ⟨g, k * 4 + 2, none⟩ = some (.int .i64 (J : Int)) := g2
                      have ff3 : wr.drew.frozen? ⟨g, k * 4 + 2, none⟩ = false := ff
                      clear hd9 HS9 HY9 HI9 HR9 HX9 HF9 g2 ff hnum cX zX
                      go_wp2_with fail
                      go_roundw
                      case rel => exact ⟨k + 1, by omega, by go_num, HS8, HY8, HI8, HR8, HX8, HF8⟩
                      case measure => simp [intOf]; try omega
                    · obtain rfl : nY = k := by omega
                      have cR := HR.out.cell
                      have fR := HR.out.frozen
                      have zR := HR.out.lt
                      have hne : q + 1 ≠ w.heap.size + 1 := by omega
                      go_wp2_with fail
                      refine bodyPost_ret (v := .tuple #[.agg #[.slice oa nU oc, .slice qa nY qc], .bool true]) (by simp [results, Try.results52, go_sem, cR, zR]) rfl ⟨_, by rw [ESB.out, HGB.out], ?_, ?_⟩
                      · rw [ESO.out]
                        have hS9 := (HS.out.setBelow (a := ⟨w.heap.size + 1, 0, none⟩) hRB (.slice oa nU oc)).setBelow (a := ⟨w.heap.size + 1, 1, none⟩) hRB (.slice qa nY qc)
                        have hY9 := ownsRow_setCell_below (ownsRow_setCell_below HY.out (a := ⟨w.heap.size + 1, 0, none⟩) hRB (.slice oa nU oc)) (a := ⟨w.heap.size + 1, 1, none⟩) hRB (.slice qa nY qc)
                        refine ⟨_, _, U, rfl, rfl, hS9.mono hw9, ?_, secs_row_ne hS9 hY9 (by decide) (by decide) (by decide)⟩
                        have e := mapK_full (whrTo KS) Y
                        rw [HNY.out] at e
                        rw [e] at hY9
                        have hl : (Y.map (whrTo KS)).length = nY := by rw [List.length_map, HNY.out]
                        unfold OwnSyms
                        rw [hl]
                        exact owns_mono hY9 hw9
                      · exact ((HF.out.setCell (p := ⟨w.heap.size + 1, 0, none⟩) (Nat.le_succ _) (.slice oa nU oc)).setCell (p := ⟨w.heap.size + 1, 1, none⟩) (Nat.le_succ _) (.slice qa nY qc)).below
end Go.Proofs.Ythccjimckjecjaa
