/- Symbols that fixups use; objects stripped: the program. -/
import Derived.Test.YthccjimckjecjaaKeepI
import Derived.Test.YthccjimckjecjaaObjValI
namespace Go.Proofs.Ythccjimckjecjaa
open Go.ChangeShapes Go.WideShapes Go.ChangeAt Go.RowKit Go.Joins
set_option linter.unusedSimpArgs false
set_option linter.unusedVariables false
set_option maxRecDepth 100000
theorem any_findI {α : Type} (p : α → Bool) (l : List α) : l.any p = decide (0 ≤ findI p l) := by
  by_cases h : 0 ≤ findI p l
  · rw [decide_eq_true h]; exact (findI_nonneg _ _).1 h
  · rw [decide_eq_false h]
    cases hq : l.any p with
    | false => rfl
    | true => exact absurd ((findI_nonneg _ _).2 hq) h
set_option maxHeartbeats 1000000 in
theorem indexFuncFix_any (g : FuncId) (lb : Array Value) (p : FixD → Bool) (eg : ∀ args u, (callFunc g args).run Try.prog u = .ok (.enter g args) u) (w : World) (v : Value) (l : List FixD) (h : FixAt w v l)
    (hp : ∀ x ∈ l, ∀ u, Below w.heap.size w u → Calls Try.prog g (#[fixV x] ++ lb) u fun e w' => e = .returned (.bool (p x)) ∧ Below u.heap.size u w') :
    Calls Try.prog 153 #[v, .func (.func g) #[] lb] w fun e w' => e = .returned (.int .i64 (findI p l)) ∧ Below w.heap.size w w' := by
  obtain ⟨a, cap, rfl, hcap, hmax, hnone, hcell⟩ := h.form
  have HC := Lib.hid hcell
  have HP := Lib.hid hp
  clear h hcell hnone hp
  unfold maxLen at hmax
  go_enter Try.func153, Try.ntmps153
  go_wp2_with fail
  go_loopw [8] (fun i wr => ∃ k : Nat, k ≤ l.length ∧ i = .int .i64 k ∧ Hid (∀ x ∈ l.take k, p x = false) ∧ Hid (From w.heap.size w wr)) (fun i _ => l.length - (intOf i).toNat)
  case atStart => exact ⟨0, Nat.zero_le _, rfl, (fun x hx => by simp at hx), From.start w⟩
  case round =>
    obtain ⟨k, hk, rfl, HB, HF⟩ := hrel
    by_cases hlt : k < l.length
    · obtain ⟨b, off, rfl, hc⟩ := HC.out (by omega)
      obtain ⟨c0, c1, c2, c3⟩ := hc k hlt
      have hbl : b < w.heap.size := World.block_lt_of_cell? w _ c0
      have g0 := (HF.out.below.cell (p := ⟨b, off + k * 4, none⟩) hbl).trans c0
      have g1 := (HF.out.below.cell (p := ⟨b, off + k * 4 + 1, none⟩) hbl).trans c1
      have g2 := (HF.out.below.cell (p := ⟨b, off + k * 4 + 2, none⟩) hbl).trans c2
      have g3 := (HF.out.below.cell (p := ⟨b, off + k * 4 + 3, none⟩) hbl).trans c3
      have i1 : (k : Int) < (l.length : Int) := by omega
      have i3 : (0 : Int) ≤ (k : Int) := by omega
      have hcl := HP.out l[k] (List.getElem_mem hlt) wr HF.out.below
      have HG := Lib.hid (take_bad hlt HB.out)
      have HH := Lib.hid (fun h => findI_hit hlt h HB.out : p l[k] = true → findI p l = k)
      clear hc c0 c1 c2 c3
      generalize l[k] = x at *
      cases hq : p x
      · rw [hq] at hcl
        have HQ := Lib.hid hq
        have HCL := Lib.hid hcl
        clear hq hcl
        go_wp2_with fail
        refine HCL.out.mono ?_
        rintro e w2 ⟨rfl, h2⟩
        have HF2 := Lib.hid (HF.out.call h2)
        clear h2 HF g0 g1 g2 g3
        go_wp2_with fail
        go_roundw
        case rel => exact ⟨k + 1, by omega, by go_num, HG.out HQ.out, HF2⟩
        case measure => simp [intOf]; try omega
      · rw [hq] at hcl
        have HQ := Lib.hid (HH.out hq)
        have HCL := Lib.hid hcl
        clear hq hcl
        go_wp2_with fail
        refine HCL.out.mono ?_
        rintro e w2 ⟨rfl, h2⟩
        have HF2 := Lib.hid (HF.out.call h2)
        clear h2 HF g0 g1 g2 g3
        go_wp2_with fail
        go_ret
        exact ⟨by rw [HQ.out]; try rfl, HF2.out.below⟩
    · obtain rfl : k = l.length := by omega
      have E : Hid (findI p l = -1) := findI_miss (by have := HB.out; rwa [List.take_length] at this)
      go_wp2_with fail
      go_ret
      exact ⟨by rw [E.out]; try rfl, HF.out.below⟩
set_option maxHeartbeats 1000000 in
theorem containsFuncFix_any (g : FuncId) (lb : Array Value) (p : FixD → Bool) (eg : ∀ args u, (callFunc g args).run Try.prog u = .ok (.enter g args) u) (w : World) (v : Value) (l : List FixD) (h : FixAt w v l)
    (hp : ∀ x ∈ l, ∀ u, Below w.heap.size w u → Calls Try.prog g (#[fixV x] ++ lb) u fun e w' => e = .returned (.bool (p x)) ∧ Below u.heap.size u w') :
    Calls Try.prog 100 #[v, .func (.func g) #[] lb] w fun e w' => e = .returned (.bool (l.any p)) ∧ Below w.heap.size w w' := by
  have E := Lib.hid (any_findI p l)
  obtain ⟨a, cap, rfl, -⟩ := h.form
  have H := Lib.hid h
  have HP := Lib.hid hp
  clear h hp
  go_enter Try.func100, Try.ntmps100
  go_wp2_with fail
  refine (indexFuncFix_any g lb p eg w _ l H.out HP.out).mono ?_
  rintro e w2 ⟨rfl, h2⟩
  have HF := Lib.hid ((From.start w).call h2)
  clear h2
  go_wp2_with fail
  go_ret
  exact ⟨by rw [E.out]; try rfl, HF.out.below⟩
set_option maxHeartbeats 1000000 in
theorem indexFuncSec_any (g : FuncId) (lb : Array Value) (p : SecD → Bool) (eg : ∀ args u, (callFunc g args).run Try.prog u = .ok (.enter g args) u) (w : World) (v : Value) (l : List SecD) (h : SecsAt w v l)
    (hp : ∀ x ∈ l, ∀ u vx, Below w.heap.size w u → SecAt u vx x → Calls Try.prog g (#[vx] ++ lb) u fun e w' => e = .returned (.bool (p x)) ∧ Below u.heap.size u w') :
    Calls Try.prog 174 #[v, .func (.func g) #[] lb] w fun e w' => e = .returned (.int .i64 (findI p l)) ∧ Below w.heap.size w w' := by
  obtain ⟨a, cap, rfl, hcap, hmax, hnone, hcell⟩ := h.form
  have HC := Lib.hid hcell
  have HP := Lib.hid hp
  clear h hcell hnone hp
  unfold maxLen at hmax
  go_enter Try.func174, Try.ntmps174
  go_wp2_with fail
  go_loopw [8] (fun i wr => ∃ k : Nat, k ≤ l.length ∧ i = .int .i64 k ∧ Hid (∀ x ∈ l.take k, p x = false) ∧ Hid (From w.heap.size w wr)) (fun i _ => l.length - (intOf i).toNat)
  case atStart => exact ⟨0, Nat.zero_le _, rfl, (fun x hx => by simp at hx), From.start w⟩
  case round =>
    obtain ⟨k, hk, rfl, HB, HF⟩ := hrel
    by_cases hlt : k < l.length
    · obtain ⟨b, off, rfl, hc⟩ := HC.out (by omega)
      obtain ⟨vb, vf, hb, hf, c0, c1, c2, c3, c4, c5⟩ := hc k hlt
      obtain ⟨ba, bc, rfl, -⟩ := hb.form
      obtain ⟨fa, fc, rfl, -⟩ := hf.form
      have hbl : b < w.heap.size := World.block_lt_of_cell? w _ c0
      have g0 := (HF.out.below.cell (p := ⟨b, off + k * 6, none⟩) hbl).trans c0
      have g1 := (HF.out.below.cell (p := ⟨b, off + k * 6 + 1, none⟩) hbl).trans c1
      have g2 := (HF.out.below.cell (p := ⟨b, off + k * 6 + 2, none⟩) hbl).trans c2
      have g3 := (HF.out.below.cell (p := ⟨b, off + k * 6 + 3, none⟩) hbl).trans c3
      have g4 := (HF.out.below.cell (p := ⟨b, off + k * 6 + 4, none⟩) hbl).trans c4
      have g5 := (HF.out.below.cell (p := ⟨b, off + k * 6 + 5, none⟩) hbl).trans c5
      have i1 : (k : Int) < (l.length : Int) := by omega
      have i3 : (0 : Int) ≤ (k : Int) := by omega
      have hcl := HP.out l[k] (List.getElem_mem hlt) wr (secV l[k] (.slice ba l[k].bytes.length bc) (.slice fa l[k].fix.length fc)) HF.out.below ⟨_, _, rfl, hb.below (Nat.le_refl _) HF.out.below, hf.below (Nat.le_refl _) HF.out.below⟩
      have HG := Lib.hid (take_bad hlt HB.out)
      have HH := Lib.hid (fun h => findI_hit hlt h HB.out : p l[k] = true → findI p l = k)
      clear hc c0 c1 c2 c3 c4 c5 hb hf
      generalize l[k] = x at *
      cases hq : p x
      · rw [hq] at hcl
        have HQ := Lib.hid hq
        have HCL := Lib.hid hcl
        clear hq hcl
        go_wp2_with fail
        refine HCL.out.mono ?_
        rintro e w2 ⟨rfl, h2⟩
        have HF2 := Lib.hid (HF.out.call h2)
        clear h2 HF g0 g1 g2 g3 g4 g5
        go_wp2_with fail
        go_roundw
        case rel => exact ⟨k + 1, by omega, by go_num, HG.out HQ.out, HF2⟩
        case measure => simp [intOf]; try omega
      · rw [hq] at hcl
        have HQ := Lib.hid (HH.out hq)
        have HCL := Lib.hid hcl
        clear hq hcl
        go_wp2_with fail
        refine HCL.out.mono ?_
        rintro e w2 ⟨rfl, h2⟩
        have HF2 := Lib.hid (HF.out.call h2)
        clear h2 HF g0 g1 g2 g3 g4 g5
        go_wp2_with fail
        go_ret
        exact ⟨by rw [HQ.out]; try rfl, HF2.out.below⟩
    · obtain rfl : k = l.length := by omega
      have E : Hid (findI p l = -1) := findI_miss (by have := HB.out; rwa [List.take_length] at this)
      go_wp2_with fail
      go_ret
      exact ⟨by rw [E.out]; try rfl, HF.out.below⟩
set_option maxHeartbeats 1000000 in
theorem containsFuncSec_any (g : FuncId) (lb : Array Value) (p : SecD → Bool) (eg : ∀ args u, (callFunc g args).run Try.prog u = .ok (.enter g args) u) (w : World) (v : Value) (l : List SecD) (h : SecsAt w v l)
    (hp : ∀ x ∈ l, ∀ u vx, Below w.heap.size w u → SecAt u vx x → Calls Try.prog g (#[vx] ++ lb) u fun e w' => e = .returned (.bool (p x)) ∧ Below u.heap.size u w') :
    Calls Try.prog 149 #[v, .func (.func g) #[] lb] w fun e w' => e = .returned (.bool (l.any p)) ∧ Below w.heap.size w w' := by
  have E := Lib.hid (any_findI p l)
  obtain ⟨a, cap, rfl, -⟩ := h.form
  have H := Lib.hid h
  have HP := Lib.hid hp
  clear h hp
  go_enter Try.func149, Try.ntmps149
  go_wp2_with fail
  refine (indexFuncSec_any g lb p eg w _ l H.out HP.out).mono ?_
  rintro e w2 ⟨rfl, h2⟩
  have HF := Lib.hid ((From.start w).call h2)
  clear h2
  go_wp2_with fail
  go_ret
  exact ⟨by rw [E.out]; try rfl, HF.out.below⟩
theorem uses11 (u : World) (x : FixD) (c : Addr) (j : Int) (hc : u.cell? c = some (.int .i64 j)) :
    Calls Try.prog 151 #[fixV x, .pointer (some c)] u fun e w' => e = .returned (.bool (usesF j x)) ∧ Below u.heap.size u w' := by
  obtain ⟨x0, x1, x2, x3⟩ := x
  have hcl : c.block < u.heap.size := World.block_lt_of_cell? u _ hc
  have hcx := (((From.start u).alloc (.cells #[.int .i64 x0, .int .i64 x1, .int .i64 x2, .int .i64 x3] 80)).below.cell (p := c) hcl).trans hc
  clear hc hcl
  have E : Hid ((x2 == j) = usesF j (x0, x1, x2, x3)) := by show _ = _; unfold usesF; by_cases h : x2 = j <;> simp [h]
  go_enter Try.func151, Try.ntmps151
  go_wp2_with fail
  go_ret
  exact ⟨by rw [← E.out]; try rfl, ((From.start u).alloc _).below⟩
theorem uses1 (u : World) (vx : Value) (x : SecD) (hx : SecAt u vx x) (c : Addr) (j : Int) (hc : u.cell? c = some (.int .i64 j)) :
    Calls Try.prog 150 #[vx, .pointer (some c)] u fun e w' => e = .returned (.bool (usesS j x)) ∧ Below u.heap.size u w' := by
  obtain ⟨vb, vf, rfl, hb, hf⟩ := hx
  obtain ⟨ba, bc, rfl, -⟩ := hb.form
  have HFX := Lib.hid hf
  obtain ⟨fa, fc, rfl, -⟩ := hf.form
  obtain ⟨nb, hnb⟩ : ∃ nb, x.bytes.length = nb := ⟨_, rfl⟩
  obtain ⟨nf, hnf⟩ : ∃ nf, x.fix.length = nf := ⟨_, rfl⟩
  have hcl : c.block < u.heap.size := World.block_lt_of_cell? u _ hc
  have HC : Hid (∀ u', Below u.heap.size u u' → u'.cell? c = some (.int .i64 j)) := fun u' hu => (hu.cell (p := c) hcl).trans hc
  clear hb hf hc hcl
  unfold secV
  rw [hnf] at HFX ⊢
  rw [hnb]
  clear hnb hnf
  go_enter Try.func150, Try.ntmps150
  go_wp2_with fail
  have F1 := Lib.hid ((From.start u).alloc (.cells #[.string x.name, .int .i64 x.kind, .int .i64 x.align, .slice ba nb bc, .int .i64 x.size, .slice fa nf fc] 69))
  refine (containsFuncFix_any 151 #[.pointer (some c)] (usesF j) (fun args u => enter_fn Try.func151 (by kernel_rfl) rfl args u) _ _ x.fix (HFX.out.below (Nat.le_refl _) F1.out.below) (fun y _ u' hu => uses11 u' y c j (HC.out u' (F1.out.below.trans (hu.mono F1.out.le))))).mono ?_
  rintro e w2 ⟨rfl, h2⟩
  have F2 := Lib.hid (F1.out.call h2)
  clear h2
  go_wp2_with fail
  go_ret
  exact ⟨rfl, F2.out.below⟩
theorem i_uses (w : World) (v : Value) (o : ObjD) (h : ObjAt w v o) (j : Int) :
    Calls Try.prog 94 #[v, .int .i64 j] w fun e w' => e = .returned (.bool (usedB o.secs j)) ∧ Below w.heap.size w w' := by
  obtain ⟨vs, vy, rfl, h1, h2⟩ := h
  have HS := Lib.hid h1
  obtain ⟨sa, sc, rfl, -⟩ := h1.form
  obtain ⟨ya, yc, rfl, -⟩ := h2.form
  clear h1 h2
  obtain ⟨n1, hn1⟩ : ∃ n1, o.secs.length = n1 := ⟨_, rfl⟩
  obtain ⟨n2, hn2⟩ : ∃ n2, o.syms.length = n2 := ⟨_, rfl⟩
  rw [hn1] at HS ⊢
  rw [hn2]
  clear hn1 hn2
  have F1 := Lib.hid (((From.start w).alloc (.cells #[.slice sa n1 sc, .slice ya n2 yc] 26)).alloc (.cells #[.int .i64 j] 3))
  have hB : Blk ((w.alloc (.cells #[.slice sa n1 sc, .slice ya n2 yc] 26)).alloc (.cells #[.int .i64 j] 3)) (w.heap.size + 1) #[.int .i64 j] 3 := Blk.newAt _ _ _ _ (by simp)
  have HB := Lib.hid hB
  clear hB
  go_enter Try.func94, Try.ntmps94
  go_wp2_with fail
  refine (containsFuncSec_any 150 #[.pointer (some ⟨w.heap.size + 1, 0, none⟩)] (usesS j) (fun args u => enter_fn Try.func150 (by kernel_rfl) rfl args u) _ _ o.secs (HS.out.below (Nat.le_refl _) F1.out.below) (fun y _ u' vx hu hx => uses1 u' vx y hx ⟨w.heap.size + 1, 0, none⟩ j (((HB.out.call hu).cell 0).trans rfl))).mono ?_
  rintro e w2 ⟨rfl, h2⟩
  have F2 := Lib.hid (F1.out.call h2)
  clear h2
  go_wp2_with fail
  go_ret
  exact ⟨rfl, F2.out.below⟩
theorem StripLocals1 (u : World) (k : Nat) (x : SymD) (c : Nat) (o : ObjD) (v : Value) (hv : ObjAt u v o) (sa : Option Addr) (sc n1 n2 : Nat) (ya : Option Addr) (yc : Nat) (ev : v = .agg #[.slice sa n1 sc, .slice ya n2 yc]) (hc : Blk u c #[.slice sa n1 sc, .slice ya n2 yc] 26) :
    Calls Try.prog 93 #[.int .i64 (k : Int), symV x, .pointer (some ⟨c, 0, none⟩)] u fun e w' => e = .returned (.bool (localK o.secs k x)) ∧ Below u.heap.size u w' := by
  subst ev
  have HV := Lib.hid hv
  have HB := Lib.hid (hc.alloc (.cells #[.string x.name, .int .i64 x.bind, .int .i64 x.whr, .int .i64 x.val] 78))
  have F1 := Lib.hid ((From.start u).alloc (.cells #[.string x.name, .int .i64 x.bind, .int .i64 x.whr, .int .i64 x.val] 78))
  have cb := HB.out.cell
  have zb : c < u.heap.size := hc.lt
  clear hv hc
  by_cases hb : x.bind = 0
  · have e0 : (x.bind != 0) = false := by simpa using hb
    have E : Hid (localK o.secs k x = usedB o.secs k) := by show _ = _; unfold localK; simp [hb]
    clear hb
    go_enter Try.func93, Try.ntmps93
    go_wp2_with fail
    refine (i_uses _ _ o (HV.out.below (Nat.le_refl _) F1.out.below) k).mono ?_
    rintro e w2 ⟨rfl, h2⟩
    have F2 := Lib.hid (F1.out.call h2)
    clear h2
    go_wp2_with fail
    go_ret
    exact ⟨by rw [E.out]; try rfl, F2.out.below⟩
  · have e0 : (x.bind != 0) = true := by simpa using hb
    have E : Hid (localK o.secs k x = true) := by show _ = _; unfold localK; simp [hb]
    clear hb
    go_enter Try.func93, Try.ntmps93
    go_wp2_with fail
    go_ret
    exact ⟨by rw [E.out]; try rfl, F1.out.below⟩
set_option maxHeartbeats 2000000 in
theorem i_StripLocals (w : World) (v : Value) (o : ObjD) (h : ObjAt w v o) (hs : (∀ s ∈ o.secs, s.name.size ≤ maxLen) ∧ ∀ s ∈ o.syms, s.name.size ≤ maxLen) :
    Calls Try.prog 36 #[v] w fun e w' => ∃ r, e = .returned r ∧ OwnObj w' w.heap.size r (stripO localK o) ∧ Below w.heap.size w w' := by
  have HOB := Lib.hid h
  have HN0 := Lib.hid hs
  obtain ⟨sa, sc, ya, yc, rfl⟩ := h.agg
  clear h hs
  obtain ⟨n1, hn1⟩ : ∃ n1, o.secs.length = n1 := ⟨_, rfl⟩
  obtain ⟨n2, hn2⟩ : ∃ n2, o.syms.length = n2 := ⟨_, rfl⟩
  rw [hn1, hn2] at HOB ⊢
  clear hn1 hn2
  have HF0 := Lib.hid (((From.start w).alloc (.cells #[.slice sa n1 sc, .slice ya n2 yc] 26)).alloc (.cells #[.slice none 0 0, .slice none 0 0] 26))
  have HB0 := Lib.hid ((Blk.new w #[.slice sa n1 sc, .slice ya n2 yc] 26).alloc (.cells #[.slice none 0 0, .slice none 0 0] 26))
  have hr0 : Blk ((w.alloc (.cells #[.slice sa n1 sc, .slice ya n2 yc] 26)).alloc (.cells #[.slice none 0 0, .slice none 0 0] 26)) (w.heap.size + 1) #[.slice none 0 0, .slice none 0 0] 26 := Blk.newAt _ _ _ _ (by simp)
  have HR0 := Lib.hid hr0
  clear hr0
  cases hq : objB o
  · have E : stripO localK o = ⟨[], []⟩ := by unfold stripO; rw [hq]; rfl
    rw [E]
    go_enter Try.func36, Try.ntmps36
    go_wp2_with fail
    refine (i_ObjectValid _ _ o (HOB.out.below (Nat.le_refl _) HF0.out.below) HN0.out).mono ?_
    rw [hq]
    rintro e w2 ⟨rfl, k2⟩
    have HF2 := Lib.hid (HF0.out.call k2)
    have HR2 := Lib.hid (HR0.out.call k2)
    have cR := HR2.out.cell
    have fR := HR2.out.frozen
    have zR := HR2.out.lt
    clear k2 hq
    go_wp2_with fail
    refine bodyPost_ret (v := .agg #[.slice none 0 0, .slice none 0 0]) (by simp [results, Try.results36, go_sem, cR, zR]) rfl ⟨_, rfl, ⟨_, _, [], rfl, rfl, ⟨World.ownsRow_nil _ _ _ _, (fun x hx => by cases hx), by simp [blksOf, Value.ownBlock]⟩, World.ownsRow_nil _ _ _ _, fun k hk => by cases hk⟩, ?_⟩
    exact ((HF2.out.setCell (p := ⟨w.heap.size + 1, 0, none⟩) (Nat.le_succ _) (.slice none 0 0)).setCell (p := ⟨w.heap.size + 1, 1, none⟩) (Nat.le_succ _) (.slice none 0 0)).below
  have HFew := Lib.hid (objB_fewO hq)
  have HFX : Hid (∀ s ∈ o.secs, ∀ f ∈ s.fix, 0 ≤ f.2.2.1 ∧ f.2.2.1 < o.syms.length) := fun s hs f hf => ((objB_sec hq hs).fix f hf).to
  have EI : Hid (stripO localK o = keepO o (maskL (localK o.secs) o.syms)) := by show _ = _; unfold stripO; rw [hq, if_pos rfl]
  go_enter Try.func36, Try.ntmps36
  go_wp2_with fail
  refine (i_ObjectValid _ _ o (HOB.out.below (Nat.le_refl _) HF0.out.below) HN0.out).mono ?_
  rw [hq]
  rintro e w2 ⟨rfl, k2⟩
  have HF2 := Lib.hid (HF0.out.call k2)
  have HR2 := Lib.hid (HR0.out.call k2)
  have HB2 := Lib.hid (HB0.out.call k2)
  have HO2 := Lib.hid (HOB.out.below (Nat.le_refl _) HF2.out.below)
  have cb := HB2.out.cell
  have zb := HB2.out.lt
  clear k2 hq HF0 HR0 HB0
  go_wp2_with fail
  refine (i_keepSymbols 93 #[.pointer (some ⟨w.heap.size, 0, none⟩)] (localK o.secs) (fun args u => enter_fn Try.func93 (by kernel_rfl) rfl args u) w2 _ o HO2.out HFew.out HFX.out
    (fun k hk u hu => StripLocals1 u k _ w.heap.size o _ (HO2.out.below (Nat.le_refl _) hu) sa sc n1 n2 ya yc rfl (HB2.out.call hu))).mono ?_
  rintro e w3 ⟨r, rfl, ⟨vs, vy, ls, rfl, hsecs, hS, hY, hd⟩, k3⟩
  obtain ⟨pa, pc, rfl⟩ := owns_form hS.row
  obtain ⟨qa, qc, rfl⟩ := owns_form hY
  have zR2 : w.heap.size + 1 < w2.heap.size := HR2.out.lt
  have HF3 := Lib.hid (HF2.out.call k3)
  have HR3 := Lib.hid (HR2.out.call k3)
  have HS3 := Lib.hid hS
  have HY3 := Lib.hid hY
  have HD3 := Lib.hid hd
  have HSE := Lib.hid hsecs
  have cR := HR3.out.cell
  have fR := HR3.out.frozen
  have zR := HR3.out.lt
  have z2 : w.heap.size ≤ w2.heap.size := HF2.out.le
  clear hS hY hd hsecs k3 cb zb HB2 HF2 HR2
  obtain ⟨m1, hm1⟩ : ∃ m1, ls.length = m1 := ⟨_, rfl⟩
  obtain ⟨m2, hm2⟩ : ∃ m2, (keepO o (maskL (localK o.secs) o.syms)).syms.length = m2 := ⟨_, rfl⟩
  have HM1 := Lib.hid hm1
  have HM2 := Lib.hid hm2
  rw [hm1] at HS3 HD3 ⊢
  rw [hm2] at HY3 HD3 ⊢
  clear hm1 hm2
  go_wp2_with fail
  refine bodyPost_ret (v := .agg #[.slice pa m1 pc, .slice qa m2 qc]) (by simp [results, Try.results36, go_sem, cR, zR]) rfl ⟨_, rfl, ?_, ?_⟩
  · rw [EI.out]
    refine ⟨_, _, ls, rfl, HSE.out, ?_, ?_, HD3.out⟩
    · exact ((HS3.out.setBelow (a := ⟨w.heap.size + 1, 0, none⟩) zR2 _).setBelow (a := ⟨w.heap.size + 1, 1, none⟩) zR2 _).mono z2
    · have h := ownsRow_setCell_below (ownsRow_setCell_below HY3.out (a := ⟨w.heap.size + 1, 0, none⟩) zR2 (.slice pa m1 pc)) (a := ⟨w.heap.size + 1, 1, none⟩) zR2 (.slice qa m2 qc)
      unfold OwnSyms
      rw [HM2.out]
      rw [HM2.out] at h
      exact owns_mono h z2
  · exact ((HF3.out.setCell (p := ⟨w.heap.size + 1, 0, none⟩) (Nat.le_succ _) (.slice pa m1 pc)).setCell (p := ⟨w.heap.size + 1, 1, none⟩) (Nat.le_succ _) (.slice qa m2 qc)).below
theorem StripWanted1 (u : World) (k : Nat) (x : SymD) (c : Nat) (o : ObjD) (v : Value) (hv : ObjAt u v o) (sa : Option Addr) (sc n1 n2 : Nat) (ya : Option Addr) (yc : Nat) (ev : v = .agg #[.slice sa n1 sc, .slice ya n2 yc]) (hc : Blk u c #[.slice sa n1 sc, .slice ya n2 yc] 26) :
    Calls Try.prog 95 #[.int .i64 (k : Int), symV x, .pointer (some ⟨c, 0, none⟩)] u fun e w' => e = .returned (.bool (wantK o.secs k x)) ∧ Below u.heap.size u w' := by
  subst ev
  have HV := Lib.hid hv
  have HB := Lib.hid (hc.alloc (.cells #[.string x.name, .int .i64 x.bind, .int .i64 x.whr, .int .i64 x.val] 78))
  have F1 := Lib.hid ((From.start u).alloc (.cells #[.string x.name, .int .i64 x.bind, .int .i64 x.whr, .int .i64 x.val] 78))
  have cb := HB.out.cell
  have zb : c < u.heap.size := hc.lt
  clear hv hc
  by_cases hb : x.whr = -1
  · have e0 : (x.whr != -1) = false := by simpa using hb
    have E : Hid (wantK o.secs k x = usedB o.secs k) := by show _ = _; unfold wantK; simp [hb]
    clear hb
    go_enter Try.func95, Try.ntmps95
    go_wp2_with fail
    refine (i_uses _ _ o (HV.out.below (Nat.le_refl _) F1.out.below) k).mono ?_
    rintro e w2 ⟨rfl, h2⟩
    have F2 := Lib.hid (F1.out.call h2)
    clear h2
    go_wp2_with fail
    go_ret
    exact ⟨by rw [E.out]; try rfl, F2.out.below⟩
  · have e0 : (x.whr != -1) = true := by simpa using hb
    have E : Hid (wantK o.secs k x = true) := by show _ = _; unfold wantK; simp [hb]
    clear hb
    go_enter Try.func95, Try.ntmps95
    go_wp2_with fail
    go_ret
    exact ⟨by rw [E.out]; try rfl, F1.out.below⟩
set_option maxHeartbeats 2000000 in
theorem i_StripWanted (w : World) (v : Value) (o : ObjD) (h : ObjAt w v o) (hs : (∀ s ∈ o.secs, s.name.size ≤ maxLen) ∧ ∀ s ∈ o.syms, s.name.size ≤ maxLen) :
    Calls Try.prog 38 #[v] w fun e w' => ∃ r, e = .returned r ∧ OwnObj w' w.heap.size r (stripO wantK o) ∧ Below w.heap.size w w' := by
  have HOB := Lib.hid h
  have HN0 := Lib.hid hs
  obtain ⟨sa, sc, ya, yc, rfl⟩ := h.agg
  clear h hs
  obtain ⟨n1, hn1⟩ : ∃ n1, o.secs.length = n1 := ⟨_, rfl⟩
  obtain ⟨n2, hn2⟩ : ∃ n2, o.syms.length = n2 := ⟨_, rfl⟩
  rw [hn1, hn2] at HOB ⊢
  clear hn1 hn2
  have HF0 := Lib.hid (((From.start w).alloc (.cells #[.slice sa n1 sc, .slice ya n2 yc] 26)).alloc (.cells #[.slice none 0 0, .slice none 0 0] 26))
  have HB0 := Lib.hid ((Blk.new w #[.slice sa n1 sc, .slice ya n2 yc] 26).alloc (.cells #[.slice none 0 0, .slice none 0 0] 26))
  have hr0 : Blk ((w.alloc (.cells #[.slice sa n1 sc, .slice ya n2 yc] 26)).alloc (.cells #[.slice none 0 0, .slice none 0 0] 26)) (w.heap.size + 1) #[.slice none 0 0, .slice none 0 0] 26 := Blk.newAt _ _ _ _ (by simp)
  have HR0 := Lib.hid hr0
  clear hr0
  cases hq : objB o
  · have E : stripO wantK o = ⟨[], []⟩ := by unfold stripO; rw [hq]; rfl
    rw [E]
    go_enter Try.func38, Try.ntmps38
    go_wp2_with fail
    refine (i_ObjectValid _ _ o (HOB.out.below (Nat.le_refl _) HF0.out.below) HN0.out).mono ?_
    rw [hq]
    rintro e w2 ⟨rfl, k2⟩
    have HF2 := Lib.hid (HF0.out.call k2)
    have HR2 := Lib.hid (HR0.out.call k2)
    have cR := HR2.out.cell
    have fR := HR2.out.frozen
    have zR := HR2.out.lt
    clear k2 hq
    go_wp2_with fail
    refine bodyPost_ret (v := .agg #[.slice none 0 0, .slice none 0 0]) (by simp [results, Try.results38, go_sem, cR, zR]) rfl ⟨_, rfl, ⟨_, _, [], rfl, rfl, ⟨World.ownsRow_nil _ _ _ _, (fun x hx => by cases hx), by simp [blksOf, Value.ownBlock]⟩, World.ownsRow_nil _ _ _ _, fun k hk => by cases hk⟩, ?_⟩
    exact ((HF2.out.setCell (p := ⟨w.heap.size + 1, 0, none⟩) (Nat.le_succ _) (.slice none 0 0)).setCell (p := ⟨w.heap.size + 1, 1, none⟩) (Nat.le_succ _) (.slice none 0 0)).below
  have HFew := Lib.hid (objB_fewO hq)
  have HFX : Hid (∀ s ∈ o.secs, ∀ f ∈ s.fix, 0 ≤ f.2.2.1 ∧ f.2.2.1 < o.syms.length) := fun s hs f hf => ((objB_sec hq hs).fix f hf).to
  have EI : Hid (stripO wantK o = keepO o (maskL (wantK o.secs) o.syms)) := by show _ = _; unfold stripO; rw [hq, if_pos rfl]
  go_enter Try.func38, Try.ntmps38
  go_wp2_with fail
  refine (i_ObjectValid _ _ o (HOB.out.below (Nat.le_refl _) HF0.out.below) HN0.out).mono ?_
  rw [hq]
  rintro e w2 ⟨rfl, k2⟩
  have HF2 := Lib.hid (HF0.out.call k2)
  have HR2 := Lib.hid (HR0.out.call k2)
  have HB2 := Lib.hid (HB0.out.call k2)
  have HO2 := Lib.hid (HOB.out.below (Nat.le_refl _) HF2.out.below)
  have cb := HB2.out.cell
  have zb := HB2.out.lt
  clear k2 hq HF0 HR0 HB0
  go_wp2_with fail
  refine (i_keepSymbols 95 #[.pointer (some ⟨w.heap.size, 0, none⟩)] (wantK o.secs) (fun args u => enter_fn Try.func95 (by kernel_rfl) rfl args u) w2 _ o HO2.out HFew.out HFX.out
    (fun k hk u hu => StripWanted1 u k _ w.heap.size o _ (HO2.out.below (Nat.le_refl _) hu) sa sc n1 n2 ya yc rfl (HB2.out.call hu))).mono ?_
  rintro e w3 ⟨r, rfl, ⟨vs, vy, ls, rfl, hsecs, hS, hY, hd⟩, k3⟩
  obtain ⟨pa, pc, rfl⟩ := owns_form hS.row
  obtain ⟨qa, qc, rfl⟩ := owns_form hY
  have zR2 : w.heap.size + 1 < w2.heap.size := HR2.out.lt
  have HF3 := Lib.hid (HF2.out.call k3)
  have HR3 := Lib.hid (HR2.out.call k3)
  have HS3 := Lib.hid hS
  have HY3 := Lib.hid hY
  have HD3 := Lib.hid hd
  have HSE := Lib.hid hsecs
  have cR := HR3.out.cell
  have fR := HR3.out.frozen
  have zR := HR3.out.lt
  have z2 : w.heap.size ≤ w2.heap.size := HF2.out.le
  clear hS hY hd hsecs k3 cb zb HB2 HF2 HR2
  obtain ⟨m1, hm1⟩ : ∃ m1, ls.length = m1 := ⟨_, rfl⟩
  obtain ⟨m2, hm2⟩ : ∃ m2, (keepO o (maskL (wantK o.secs) o.syms)).syms.length = m2 := ⟨_, rfl⟩
  have HM1 := Lib.hid hm1
  have HM2 := Lib.hid hm2
  rw [hm1] at HS3 HD3 ⊢
  rw [hm2] at HY3 HD3 ⊢
  clear hm1 hm2
  go_wp2_with fail
  refine bodyPost_ret (v := .agg #[.slice pa m1 pc, .slice qa m2 qc]) (by simp [results, Try.results38, go_sem, cR, zR]) rfl ⟨_, rfl, ?_, ?_⟩
  · rw [EI.out]
    refine ⟨_, _, ls, rfl, HSE.out, ?_, ?_, HD3.out⟩
    · exact ((HS3.out.setBelow (a := ⟨w.heap.size + 1, 0, none⟩) zR2 _).setBelow (a := ⟨w.heap.size + 1, 1, none⟩) zR2 _).mono z2
    · have h := ownsRow_setCell_below (ownsRow_setCell_below HY3.out (a := ⟨w.heap.size + 1, 0, none⟩) zR2 (.slice pa m1 pc)) (a := ⟨w.heap.size + 1, 1, none⟩) zR2 (.slice qa m2 qc)
      unfold OwnSyms
      rw [HM2.out]
      rw [HM2.out] at h
      exact owns_mono h z2
  · exact ((HF3.out.setCell (p := ⟨w.heap.size + 1, 0, none⟩) (Nat.le_succ _) (.slice pa m1 pc)).setCell (p := ⟨w.heap.size + 1, 1, none⟩) (Nat.le_succ _) (.slice qa m2 qc)).below
end Go.Proofs.Ythccjimckjecjaa
