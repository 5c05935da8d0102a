/- Objects with some of their symbols: the program. -/
import Derived.Test.YthccjimckjecjaaCopyO
import Derived.Test.YthccjimckjecjaaPlainK
import Derived.Test.YthccjimckjecjaaIdx
import Derived.Test.YthccjimckjecjaaLen
namespace Go.Proofs.Ythccjimckjecjaa
open Go.ChangeShapes Go.WideShapes Go.ChangeAt Go.RowKit Go.Joins
set_option linter.unusedSimpArgs false
set_option linter.unusedVariables false
set_option maxRecDepth 100000
theorem below_of_grown {w w' : World} (h : w.grownBy w' none) : Below w.heap.size w w' := ⟨h.os, h.tape, h.output, h.size, fun k hk => h.block k hk (by simp)⟩
theorem OwnObj.mono {w : World} {base base' : Nat} {v : Value} {o : ObjD} (h : OwnObj w base v o) (hb : base' ≤ base) : OwnObj w base' v o := by
  obtain ⟨vs, vy, ls, h1, h2, h3, h4, h5⟩ := h
  exact ⟨vs, vy, ls, h1, h2, h3.mono hb, owns_mono h4 hb, h5⟩
/-- A block of another type holds no part of sections. -/
theorem secs_apart {u : World} {T B : Nat} {c : Array Value} {t : TypeId} {v : Value} {ls : List (SecD × Value × Value)} (h : Blk u T c t) (ho : OwnSecs u B v ls) (h1 : 69 ≠ t) (h2 : 5 ≠ t) (h3 : 80 ≠ t) : ∀ k ∈ v.ownBlock.toList ++ blksOf ls, k ≠ T := by
  rintro k hk rfl
  rcases List.mem_append.1 hk with hk | hk
  · exact blk_apart h ho.row h1 (show v.ownBlock = some k from by simpa using hk).symm
  · obtain ⟨x, hx, hk⟩ := List.mem_flatMap.1 hk
    rcases List.mem_append.1 hk with hk | hk
    · exact blk_apart h (ho.each x hx).1 h2 (show x.2.1.ownBlock = some k from by simpa using hk).symm
    · exact blk_apart h (ho.each x hx).2 h3 (show x.2.2.ownBlock = some k from by simpa using hk).symm
theorem row_apart {u : World} {T B : Nat} {c : Array Value} {t e : TypeId} {size : Nat} {v : Value} {n : Nat} {xs : List Value} (h : Blk u T c t) (ho : u.ownsRow B e size v n xs) (hne : e ≠ t) : ∀ k ∈ v.ownBlock.toList, k ≠ T := by
  rintro k hk rfl
  exact blk_apart h ho hne (show v.ownBlock = some k from by simpa using hk).symm
theorem OwnSecs.storeB {u : World} {T B : Nat} {c : Array Value} {t : TypeId} {v : Value} {ls : List (SecD × Value × Value)} (ho : OwnSecs u B v ls) (h : Blk u T c t) (h1 : 69 ≠ t) (h2 : 5 ≠ t) (h3 : 80 ≠ t) (j : Nat) (x : Value) : OwnSecs (u.setCell ⟨T, j, none⟩ x) B v ls :=
  ho.other (Other.setCell (bs := [T]) (p := ⟨T, j, none⟩) (by simp) x) fun k hk hm => secs_apart h ho h1 h2 h3 k hk (by simpa using hm)
theorem row_storeB {u : World} {T B : Nat} {c : Array Value} {t e : TypeId} {size : Nat} {v : Value} {n : Nat} {xs : List Value} (ho : u.ownsRow B e size v n xs) (h : Blk u T c t) (hne : e ≠ t) (j : Nat) (x : Value) : (u.setCell ⟨T, j, none⟩ x).ownsRow B e size v n xs :=
  owns_other ho (Other.setCell (bs := [T]) (p := ⟨T, j, none⟩) (by simp) x) fun k hk hm => row_apart h ho hne k (by simpa using hk) (by simpa using hm)
/-- Sections lie apart from a row of another type. -/
theorem secs_row_ne {u : World} {B B' size n : Nat} {e : TypeId} {v v' : Value} {xs : List Value} {ls : List (SecD × Value × Value)} (ho : OwnSecs u B v ls) (hr : u.ownsRow B' e size v' n xs) (h1 : 69 ≠ e) (h2 : 5 ≠ e) (h3 : 80 ≠ e) : ∀ k, v'.ownBlock = some k → k ∉ v.ownBlock.toList ++ blksOf ls := by
  intro k hk hm
  rcases List.mem_append.1 hm with hm | hm
  · exact owns_ne ho.row hr h1 k (by simpa using hm) hk
  · obtain ⟨x, hx, hm⟩ := List.mem_flatMap.1 hm
    rcases List.mem_append.1 hm with hm | hm
    · exact owns_ne (ho.each x hx).1 hr h2 k (by simpa using hm) hk
    · exact owns_ne (ho.each x hx).2 hr h3 k (by simpa using hm) hk
/-- Sections outlive what grows in a row of another type. -/
theorem OwnSecs.keptNe {u u' : World} {B B' size n : Nat} {e : TypeId} {v v' : Value} {xs : List Value} {ls : List (SecD × Value × Value)} (ho : OwnSecs u B v ls) (hr : u.ownsRow B' e size v' n xs) (h1 : 69 ≠ e) (h2 : 5 ≠ e) (h3 : 80 ≠ e) (hg : u.grownBy u' v'.ownBlock) : OwnSecs u' B v ls :=
  ho.other (Other.grown (bs := v'.ownBlock.toList) hg fun k hk => by simpa using hk) fun k hk hm => secs_row_ne ho hr h1 h2 h3 k (by simpa using hm) hk
/-- One fixup of one section is written over. -/
theorem OwnSecs.fixAt {w : World} {base g n c j : Nat} {v : Value} {D R : List (SecD × Value × Value)} {x : SecD} {vb : Value} (h : OwnSecs w base v (D ++ (x, vb, .slice (some ⟨g, 0, none⟩) n c) :: R)) (hn : x.fix.length = n) {f f' : FixD} (hf : x.fix[j]? = some f) (i : Nat) (hi : i < 4) (u : Value) (hx : fixL f' = (fixL f).set i u) :
    OwnSecs (w.setCell ⟨g, j * 4 + i, none⟩ u) base v (D ++ (⟨x.name, x.kind, x.align, x.bytes, x.size, x.fix.set j f'⟩, vb, .slice (some ⟨g, 0, none⟩) n c) :: R) ∧ Other [g] w (w.setCell ⟨g, j * 4 + i, none⟩ u) := by
  subst hn
  have hm := (h.each (x, vb, .slice (some ⟨g, 0, none⟩) x.fix.length c) (by simp)).2
  have h1 := World.ownsRow.stored hm (j * 4 + i) u
  refine ⟨h.fixups (x.fix.set j f') h1.2 ?_, Other.setCell (by simp) u⟩
  have h2 := h1.1
  simp only at h2 ⊢
  rw [fixCells_flat, rows_set fixL 4 fixL_length hf i u hi hx, ← fixCells_flat] at h2
  unfold OwnF
  rw [List.length_set]
  exact h2
theorem fix_cell {w : World} {base g n c j : Nat} {l : List FixD} (h : OwnF w base (.slice (some ⟨g, 0, none⟩) n c) l) (hn : l.length = n) {f : FixD} (hf : l[j]? = some f) (i : Nat) (hi : i < 4) : w.cell? ⟨g, j * 4 + i, none⟩ = (fixL f)[i]? := by
  subst hn
  have hj : j < l.length := (List.getElem?_eq_some_iff.1 hf).1
  rw [World.ownsRow.cellAt h (j * 4 + i) (by omega), fixCells_flat, rows_at fixL 4 fixL_length hf i hi]
theorem ints_cell {w : World} {base g n c j : Nat} {l : List Int} (h : OwnI w base (.slice (some ⟨g, 0, none⟩) n c) l) (hn : l.length = n) {f : Int} (hf : l[j]? = some f) : w.cell? ⟨g, j, none⟩ = some (.int .i64 f) := by
  subst hn
  have hj : j < l.length := (List.getElem?_eq_some_iff.1 hf).1
  have := World.ownsRow.cellAt h j (by omega)
  rw [this, ivs_get hf]
@[reducible] def objBox (vs vy : Value) : Array Value := #[vs, vy]
set_option maxHeartbeats 4000000 in
theorem i_keepSymbols (g : FuncId) (lb : Array Value) (p : Nat → SymD → Bool) (eg : ∀ args u, (callFunc g args).run Try.prog u = .ok (.enter g args) u) (w : World) (v : Value) (o : ObjD) (h : ObjAt w v o) (ho : FewObj o)
    (hfx : ∀ s ∈ o.secs, ∀ f ∈ s.fix, 0 ≤ f.2.2.1 ∧ f.2.2.1 < o.syms.length)
    (hp : ∀ k (hk : k < o.syms.length) u, Below w.heap.size w u → Calls Try.prog g (#[.int .i64 (k : Int), symV o.syms[k]] ++ lb) u fun e w' => e = .returned (.bool (p k o.syms[k])) ∧ Below u.heap.size u w') :
    Calls Try.prog 92 #[v, .func (.func g) #[] lb] w fun e w' => ∃ r, e = .returned r ∧ OwnObj w' w.heap.size r (keepO o (maskL p o.syms)) ∧ Below w.heap.size w w' := by
  obtain ⟨y0, hy0, ya0, ya1, ya2⟩ := info_parts info_sym
  obtain ⟨i0, hi0, ia0, ia1, ia2⟩ := info_parts info_int
  have HOB := Lib.hid h
  obtain ⟨vs, vy, rfl, h1, h2⟩ := h
  obtain ⟨sa, sc, rfl, hcap, hmax, hnone, hcell⟩ := h1.form
  obtain ⟨ya, yc, rfl, hcap2, hmax2, hnone2, hcell2⟩ := h2.form
  have HD := Lib.hid hcell2
  have HFew := Lib.hid ho
  have HP := Lib.hid hp
  have HFX := Lib.hid hfx
  clear h1 h2 hcell hcell2 hnone hnone2 hp hfx
  unfold maxLen at hmax hmax2
  have hf2 := ho.2.1
  have hf1 := ho.1
  clear ho
  obtain ⟨n1, hn1⟩ : ∃ n1, o.secs.length = n1 := ⟨_, rfl⟩
  obtain ⟨n2, hn2⟩ : ∃ n2, o.syms.length = n2 := ⟨_, rfl⟩
  have HN1 := Lib.hid hn1
  have HN2 := Lib.hid hn2
  rw [hn1] at hcap hf1 HOB ⊢
  rw [hn2] at hcap2 hf2 HOB ⊢
  clear hn1 hn2
  obtain ⟨K, hK⟩ : ∃ K, maskL p o.syms = K := ⟨_, rfl⟩
  have HKl : Hid (K.length = n2) := by show _ = _; rw [← hK, maskL_length, HN2.out]
  have HKg : Hid (∀ k (hk : k < o.syms.length), K[k]? = some (p k o.syms[k])) := fun k hk => by rw [← hK]; simp [maskL, hk]
  rw [hK]
  clear hK
  go_enter Try.func92, Try.ntmps92
  go_wp2_with fail
  have HF0 := Lib.hid (((From.start w).alloc (.cells #[.slice sa n1 sc, .slice ya n2 yc] 26)).alloc (.cells #[.slice none 0 0, .slice none 0 0] 26))
  have HB0 := Lib.hid ((Blk.new w #[.slice sa n1 sc, .slice ya n2 yc] 26).alloc (.cells #[.slice none 0 0, .slice none 0 0] 26))
  have hr0 : Blk ((w.alloc (.cells #[.slice sa n1 sc, .slice ya n2 yc] 26)).alloc (.cells #[.slice none 0 0, .slice none 0 0] 26)) (w.heap.size + 1) #[.slice none 0 0, .slice none 0 0] 26 := Blk.newAt _ _ _ _ (by simp)
  have HR0 := Lib.hid hr0
  clear hr0
  have hz : ((w.alloc (.cells #[.slice sa n1 sc, .slice ya n2 yc] 26)).alloc (.cells #[.slice none 0 0, .slice none 0 0] 26)).heap.size = w.heap.size + 2 := by simp
  generalize hw1 : (w.alloc (.cells #[.slice sa n1 sc, .slice ya n2 yc] 26)).alloc (.cells #[.slice none 0 0, .slice none 0 0] 26) = W at HF0 HB0 HR0 hz ⊢
  clear hw1
  have zB : w.heap.size + 1 < W.heap.size := by omega
  generalize hB : W.heap.size = B at *
  clear hz
  let VB : Bool → Nat → Value → World → Prop := fun b i v u => match i with
    | 0 => v = .agg #[.slice sa n1 sc, .slice ya n2 yc]
    | 1 => OwnObj u B v o
    | 2 => v = .pointer (some ⟨w.heap.size, 1, none⟩)
    | 3 => v = .slice ya n2 yc
    | 4 => v = .int .i64 (n2 : Int)
    | 5 => ∃ z, v = .slice (some ⟨z, 0, none⟩) n2 n2 ∧ u.ownsRow B 3 1 (.slice (some ⟨z, 0, none⟩) n2 n2) n2 (ivs (List.replicate n2 0))
    | 6 => ∃ q c, v = .pointer (some ⟨q, 0, none⟩) ∧ B ≤ q ∧ Blk u q c 26 ∧ c.size = 2 ∧ (b = true → OwnObj u B (.agg c) o)
    | 8 => ∃ z, v = .slice (some ⟨z, 0, none⟩) n2 n2 ∧ u.ownsRow B 3 1 (.slice (some ⟨z, 0, none⟩) n2 n2) n2 (ivs (List.replicate n2 0))
    | _ => True
  let V : (Nat → Bool) → Nat → Value → World → Prop := fun f => VB (f 7)
  have hsame : ∀ k, k ≠ 7 → ∀ (f : Nat → Bool) j x u, V f j x u → V (setl f k) j x u := by
    intro k hk f j x u h
    show VB (setl f k 7) j x u
    rw [setl_ne (Ne.symm hk)]
    exact h
  have halloc : ∀ k, k ≠ 7 → ∀ (f : Nat → Bool) j x u u', Below u.heap.size u u' → V f j x u → V (setl f k) j x u' := by
    intro k hk f j x u u' hb h
    show VB (setl f k 7) j x u'
    rw [setl_ne (Ne.symm hk)]
    have h : VB (f 7) j x u := h
    rcases j with _ | _ | _ | _ | _ | _ | _ | _ | _ | j
    all_goals first
      | exact h
      | exact OwnObj.call h hb
      | (obtain ⟨z, h4, h5⟩ := h
         exact ⟨z, h4, owns_call h5 hb⟩)
      | (obtain ⟨q, c, h4, h5, h6, h7, h8⟩ := h
         exact ⟨q, c, h4, h5, h6.call hb, h7, fun hh => (h8 hh).call hb⟩)
  refine wp_region_flag V (fun _ _ u => From B W u) [[], [0], [], [2], [3], [4], [], [1, 6], [5]] [[], [0], [], [2], [2, 3], [2, 3, 4], [], [0, 1, 6], [0, 1, 2, 3, 4, 5, 6, 7]] [6, 8] (by kernel_rfl) (by kernel_rfl) (by kernel_rfl) (by kernel_rfl) (by kernel_rfl) (by rw [← hB]; exact (From.start W).drew) ?ho ?hq
  case ho =>
    refine ⟨?_, ?_, ?_, ?_, ?_, ?_, ?_, ?_, ?_, trivial⟩
    · intro n f A u K' hfr hn hl hS hv hK'
      have e4 : A.tmps.getD 2 undef = .pointer (some ⟨w.heap.size, 0, none⟩) := hfr 2 (not_dst (by kernel_rfl))
      have e5 : (A.tmps[2]?).getD undef = .pointer (some ⟨w.heap.size, 0, none⟩) := by simpa using e4
      have cX := (HB0.out.below hS.below (by omega)).cell
      refine owe_run rfl (wp_val (v := .agg #[.slice sa n1 sc, .slice ya n2 yc]) ?_ (hK' _ _ hS (fun j d hd hj h => hsame 0 (by decide) f j _ u h) (fun _ => rfl)))
      first
        | (go_simp; done)
        | (go_simp; rfl)
    · intro n f A u K' hfr hn hl hS hv hK'
      have h0 : A.tmps.getD 12 undef = .agg #[.slice sa n1 sc, .slice ya n2 yc] := hv.1
      have q1 := i_copyObject u _ o (HOB.out.below (Nat.le_refl _) (HF0.out.trans (hS.below.mono (by omega))).below) HFew.out
      refine owe_run rfl (wp_fn rfl (args1 h0) (enter_fn Try.func73 (by kernel_rfl) rfl _ _) (q1.mono ?_))
      rintro e u1 ⟨r, rfl, o5, h5⟩
      exact ⟨_, rfl, hK' _ _ (hS.call h5) (fun j d hd hj h => halloc 1 (by decide) f j _ u _ h5 h) (fun _ => o5.mono hS.le)⟩
    · intro n f A u K' hfr hn hl hS hv hK'
      have e4 : A.tmps.getD 2 undef = .pointer (some ⟨w.heap.size, 0, none⟩) := hfr 2 (not_dst (by kernel_rfl))
      have e5 : (A.tmps[2]?).getD undef = .pointer (some ⟨w.heap.size, 0, none⟩) := by simpa using e4
      refine owe_run rfl (wp_val (v := .pointer (some ⟨w.heap.size, 1, none⟩)) ?_ (hK' _ _ hS (fun j d hd hj h => hsame 2 (by decide) f j _ u h) (fun _ => rfl)))
      first
        | (go_simp; done)
        | (go_simp; rfl)
    · intro n f A u K' hfr hn hl hS hv hK'
      have eA0 : A.tmps.getD 14 undef = .pointer (some ⟨w.heap.size, 1, none⟩) := hv.1
      have eB0 : (A.tmps[14]?).getD undef = .pointer (some ⟨w.heap.size, 1, none⟩) := by simpa using eA0
      have cX := (HB0.out.below hS.below (by omega)).cell
      refine owe_run rfl (wp_val (v := .slice ya n2 yc) ?_ (hK' _ _ hS (fun j d hd hj h => hsame 3 (by decide) f j _ u h) (fun _ => rfl)))
      first
        | (go_simp; done)
        | (go_simp; rfl)
    · intro n f A u K' hfr hn hl hS hv hK'
      have eA0 : A.tmps.getD 15 undef = .slice ya n2 yc := hv.1
      have eB0 : (A.tmps[15]?).getD undef = .slice ya n2 yc := by simpa using eA0
      refine owe_run rfl (wp_val (v := .int .i64 (n2 : Int)) ?_ (hK' _ _ hS (fun j d hd hj h => hsame 4 (by decide) f j _ u h) (fun _ => rfl)))
      first
        | (go_simp; done)
        | (go_simp; rfl)
    · intro n f A u K' hfr hn hl hS hv hK'
      have eA0 : A.tmps.getD 16 undef = .int .i64 (n2 : Int) := hv.1
      have eB0 : (A.tmps[16]?).getD undef = .int .i64 (n2 : Int) := by simpa using eA0
      obtain ⟨u', hrun, hown, hgr⟩ := run_make_full (P := Try.prog) u B 52 3 i0 (.int .i64 0) 1 Try.underlying52 hi0 ia0 ia1 .i64 .i64 n2 (by rw [ia2]; omega) (by unfold maxLen; omega) hS.le
      have hown' : u'.ownsRow B 3 1 (.slice (some ⟨u.heap.size, 0, none⟩) n2 n2) n2 (ivs (List.replicate n2 0)) := by
        have e : (madeCells (Value.int .i64 0).cells (n2 * 1)).toList = ivs (List.replicate n2 0) := by
          rw [Nat.mul_one]
          show (madeCells #[Value.int .i64 0] n2).toList = _
          rw [toList_madeCells_one]
          simp [ivs]
        rw [e] at hown
        exact hown
      refine owe_run rfl (wp_val (v := .slice (some ⟨u.heap.size, 0, none⟩) n2 n2) (w' := u') ?_ (hK' _ _ (hS.call (below_of_grown hgr)) (fun j d hd hj h => halloc 5 (by decide) f j _ u _ (below_of_grown hgr) h) (fun _ => ⟨_, rfl, hown'⟩)))
      simp [execOp, Act.eval, eB0, hrun]
    · intro n f A u K' hfr hn hl hS hv hK'
      refine owe_run rfl (wp_val (v := .pointer (some ⟨u.heap.size, 0, none⟩)) (w' := u.alloc (.cells #[.slice none 0 0, .slice none 0 0] 26)) ?_ (hK' _ _ (hS.alloc _) (fun j d hd hj h => halloc 6 (by decide) f j _ u _ ((From.start u).alloc _).below h) (fun _ => ⟨_, _, rfl, hS.le, Blk.new u _ _, rfl, fun hf => by rw [setl_ne (by decide), hl.2.2 7 (by decide)] at hf; cases hf⟩)))
      first
        | (go_simp; done)
        | (go_simp; rfl)
    · intro n f A u K' hfr hn hl hS hv hK'
      obtain ⟨h0, ⟨q, c, h2, h3, h4, h5, -⟩, -⟩ : OwnObj u B (A.tmps.getD 13 undef) o ∧ (∃ q c, A.tmps.getD 5 undef = .pointer (some ⟨q, 0, none⟩) ∧ B ≤ q ∧ Blk u q c 26 ∧ c.size = 2 ∧ (f 7 = true → OwnObj u B (.agg c) o)) ∧ True := ⟨hv.1, hv.2.1, trivial⟩
      obtain ⟨z0, z1, rfl⟩ : ∃ z0 z1, c = #[z0, z1] := by
        rcases c with ⟨_ | ⟨z0, _ | ⟨z1, _ | ⟨z2, zr⟩⟩⟩⟩ <;> simp at h5
        exact ⟨z0, z1, rfl⟩
      obtain ⟨vs, vy, ls, hag, hse, hS1, hY1, hd1⟩ := h0
      have h0' : (A.tmps[13]?).getD undef = .agg #[vs, vy] := by simpa using hag
      have h2' : (A.tmps[5]?).getD undef = .pointer (some ⟨q, 0, none⟩) := by simpa using h2
      obtain ⟨s1, s2, rfl⟩ := owns_form hS1.row
      obtain ⟨t1, t2, rfl⟩ := owns_form hY1
      have cq := h4.cell
      have fq := h4.frozen
      have hB1 := h4.set (o := 0) (.slice s1 ls.length s2)
      have hB2 : Blk ((u.setCell ⟨q, 0, none⟩ (.slice s1 ls.length s2)).setCell ⟨q, 1, none⟩ (.slice t1 o.syms.length t2)) q #[.slice s1 ls.length s2, .slice t1 o.syms.length t2] 26 := by
        have := hB1.set (o := 1) (.slice t1 o.syms.length t2)
        simpa using this
      have hO2 : OwnObj ((u.setCell ⟨q, 0, none⟩ (.slice s1 ls.length s2)).setCell ⟨q, 1, none⟩ (.slice t1 o.syms.length t2)) B (.agg #[.slice s1 ls.length s2, .slice t1 o.syms.length t2]) o :=
        ⟨_, _, ls, rfl, hse, (hS1.storeB h4 (by decide) (by decide) (by decide) 0 _).storeB hB1 (by decide) (by decide) (by decide) 1 _, row_storeB (row_storeB hY1 h4 (by decide) 0 _) hB1 (by decide) 1 _, hd1⟩
      refine owe_run rfl (wp_skp (w' := (u.setCell ⟨q, 0, none⟩ (.slice s1 ls.length s2)).setCell ⟨q, 1, none⟩ (.slice t1 o.syms.length t2)) ?_ (hK' undef _ ((hS.setCell (p := ⟨q, 0, none⟩) h3 _).setCell (p := ⟨q, 1, none⟩) h3 _) (fun j d hd hj h => ?_) (fun h => absurd rfl h)))
      · first
          | (go_simp; done)
          | (go_simp; rfl)
      · have h : VB (f 7) j (A.tmps.getD d undef) u := h
        show VB (setl f 7 7) j (A.tmps.getD d undef) _
        rcases j with _ | _ | _ | _ | _ | _ | _ | _ | _ | j
        · exact h
        · exact absurd hj (by decide)
        · exact h
        · exact h
        · exact h
        · obtain ⟨z, h8, h9⟩ := h
          exact ⟨z, h8, row_storeB (row_storeB h9 h4 (by decide) 0 _) hB1 (by decide) 1 _⟩
        · have e13 := hd.symm.trans (show _ = some 5 by kernel_rfl)
          simp only [Option.some.injEq] at e13
          subst e13
          exact ⟨q, _, h2, h3, hB2, rfl, fun _ => hO2⟩
        · trivial
        · obtain ⟨z, h8, h9⟩ := h
          exact ⟨z, h8, row_storeB (row_storeB h9 h4 (by decide) 0 _) hB1 (by decide) 1 _⟩
        · trivial
    · intro n f A u K' hfr hn hl hS hv hK'
      obtain ⟨z, e7, h9⟩ : ∃ z, A.tmps.getD 17 undef = .slice (some ⟨z, 0, none⟩) n2 n2 ∧ u.ownsRow B 3 1 (.slice (some ⟨z, 0, none⟩) n2 n2) n2 (ivs (List.replicate n2 0)) := hv.1
      have e8 : (A.tmps[17]?).getD undef = .slice (some ⟨z, 0, none⟩) n2 n2 := by simpa using e7
      refine owe_run rfl (wp_val (v := .slice (some ⟨z, 0, none⟩) n2 n2) ?_ (hK' _ _ hS (fun j d hd hj h => hsame 8 (by decide) f j _ u h) (fun _ => ⟨z, rfl, h9⟩)))
      first
        | (go_simp; done)
        | (go_simp; rfl)
  case hq =>
    intro gg u hS hv
    obtain ⟨q, c, eq5, hq, hBq, hc2, hOb⟩ : ∃ q c, gg 6 = .pointer (some ⟨q, 0, none⟩) ∧ B ≤ q ∧ Blk u q c 26 ∧ c.size = 2 ∧ (true = true → OwnObj u B (.agg c) o) := hv.2.2.2.2.2.2.1 (by decide)
    obtain ⟨z, eq6, hZ⟩ : ∃ z, gg 8 = .slice (some ⟨z, 0, none⟩) n2 n2 ∧ u.ownsRow B 3 1 (.slice (some ⟨z, 0, none⟩) n2 n2) n2 (ivs (List.replicate n2 0)) := hv.2.2.2.2.2.2.2.1 (by decide)
    obtain ⟨vs, vy, ls, hag, hse, hS1, hY1, hd1⟩ := hOb rfl
    simp only [Value.agg.injEq] at hag
    subst hag
    clear hv hc2 hOb hd1 hsame halloc V VB
    simp only [List.map, putG, List.setIfInBounds_toArray, List.set_cons_succ, List.set_cons_zero]
    simp only [Nat.zero_add, Nat.reduceAdd] at eq5 eq6 ⊢
    rw [eq5, eq6]
    have hls : ls.length = n1 := by have := congrArg List.length hse; rw [List.length_map, HN1.out] at this; exact this.symm
    have hrow := hS1.row
    rw [hls] at hrow
    obtain ⟨pa, pc, rfl⟩ := owns_form hrow
    have HF1 := Lib.hid (HF0.out.trans (hS.below.mono (show w.heap.size ≤ B by omega)))
    have HR1 := Lib.hid (HR0.out.below hS.below (by omega))
    have HB1 := Lib.hid (HB0.out.below hS.below (by omega))
    have HSE := Lib.hid hse
    have HS1 := Lib.hid (hS1.storeB hBq (by decide) (by decide) (by decide) 1 (.slice none 0 0))
    have HZ1 := Lib.hid (row_storeB hZ hBq (by decide) 1 (.slice none 0 0))
    have hq1 : w.heap.size < q := by omega
    have hq2 : w.heap.size + 1 < q := by omega
    have HR2 := Lib.hid (HR1.out.other (p := ⟨q, 1, none⟩) (by show q ≠ _; omega) (.slice none 0 0))
    have HB2 := Lib.hid (HB1.out.other (p := ⟨q, 1, none⟩) (by show q ≠ _; omega) (.slice none 0 0))
    have HF2 := Lib.hid (HF1.out.setCell (p := ⟨q, 1, none⟩) (by show _ ≤ q; omega) (.slice none 0 0))
    have HQ2 : Hid (Blk (u.setCell ⟨q, 1, none⟩ (.slice none 0 0)) q #[.slice pa n1 pc, .slice none 0 0] 26) := by
      show Blk _ _ _ _
      have := hBq.set (o := 1) (.slice none 0 0)
      simpa using this
    have cq := hBq.cell
    have fq := hBq.frozen
    have cB2 := HB2.out.cell
    have zB2 := HB2.out.lt
    have cQ2 := HQ2.out.cell
    have zQ2 := HQ2.out.lt
    have HZ2 : Hid ((u.setCell ⟨q, 1, none⟩ (.slice none 0 0)).ownsRow B 3 1 (.slice (some ⟨z, 0, none⟩) n2 n2) n2 (ivs (numL K n2 0))) := by show World.ownsRow _ _ _ _ _ _ _; rw [numL_zero]; exact HZ1.out
    clear hse hS1 hY1 hrow hBq hZ hS HF0 HB0 HR0 HF1 HR1 HB1 HZ1 eq5 eq6
    go_wp2_with fail
    go_loopw [22] (fun i wr => ∃ (k : Nat) (U : List SymD) (yb : Option Addr) (yd : Nat), k ≤ n2 ∧ i = .int .i64 k ∧ U.length ≤ k ∧ Hid (U = keepL (K.take k) (o.syms.take k)) ∧ Hid (OwnSecs wr B (.slice pa n1 pc) ls) ∧ Hid (OwnSyms wr B (.slice yb U.length yd) U) ∧ Hid (wr.ownsRow B 3 1 (.slice (some ⟨z, 0, none⟩) n2 n2) n2 (ivs (numL K n2 k))) ∧ Hid (Blk wr (w.heap.size + 1) #[.slice none 0 0, .slice none 0 0] 26) ∧ Hid (Blk wr q #[.slice pa n1 pc, .slice yb U.length yd] 26) ∧ Hid (From w.heap.size w wr)) (fun i _ => n2 - (intOf i).toNat)
    case atStart => exact ⟨0, [], none, 0, Nat.zero_le _, rfl, Nat.zero_le _, (by show _ = _; simp [keepL]), HS1, World.ownsRow_nil _ _ _ _, HZ2, HR2, HQ2, HF2⟩
    case round =>
      clear HS1 HZ2 HR2 HQ2 HF2 cB2 zB2 cQ2 zQ2 cq fq HB2
      obtain ⟨k, U, yb, yd, hk, rfl, hUl, HU, HS, HY, HZ, HR, HQ, HF⟩ := hrel
      have cQ := HQ.out.cell
      have fQ := HQ.out.frozen
      have zQ := HQ.out.lt
      by_cases hlt : k < n2
      · have i1 : (k : Int) < (n2 : Int) := by omega
        have i3 : (0 : Int) ≤ (k : Int) := by omega
        obtain ⟨b, off, rfl, hc⟩ := HD.out (by have := HN2.out; omega)
        obtain ⟨c0, c1, c2, c3⟩ := hc k (by rw [HN2.out]; exact hlt)
        have hbl : b < w.heap.size := World.block_lt_of_cell? w _ c0
        have g0 := (HF.out.below.cell (p := ⟨b, off + k * 4, none⟩) hbl).trans c0
        have g1 := (HF.out.below.cell (p := ⟨b, off + k * 4 + 1, none⟩) hbl).trans c1
        have g2 := (HF.out.below.cell (p := ⟨b, off + k * 4 + 2, none⟩) hbl).trans c2
        have g3 := (HF.out.below.cell (p := ⟨b, off + k * 4 + 3, none⟩) hbl).trans c3
        have hltL : k < o.syms.length := by rw [HN2.out]; exact hlt
        have HNX := Lib.hid (keepL_next (K := K) (l := o.syms) (by rw [HKl.out, HN2.out]) (List.getElem?_eq_getElem hltL) (HKg.out k hltL))
        have HPk := Lib.hid (HP.out k hltL)
        have HT := Lib.hid (numL_step K n2 k hlt)
        have hzb := (World.ownsRow.lt HZ.out z rfl).1
        have hzq : z ≠ q := fun e => blk_apart HQ.out HZ.out (by decide) (by rw [e]; rfl)
        obtain ⟨uz, hcz⟩ : ∃ uz, wr.cell? ⟨z, k, none⟩ = some uz := ⟨_, (HZ.out.cellAt k (by omega)).trans (List.getElem?_eq_getElem (by rw [HZ.out.1]; omega))⟩
        have fz := HZ.out.frozenAt k
        have hzl := (World.ownsRow.lt HZ.out z rfl).2
        clear hc c0 c1 c2 c3
        generalize o.syms[k] = x at *
        go_wp2_with fail
        have hst := World.ownsRow.stored HZ.out k (.int .i64 (U.length : Int))
        have HZa : Hid (((wr.setCell ⟨z, k, none⟩ (.int .i64 (U.length : Int))).alloc (.cells #[.string x.name, .int .i64 x.bind, .int .i64 x.whr, .int .i64 x.val] 78)).ownsRow B 3 1 (.slice (some ⟨z, 0, none⟩) n2 n2) n2 (ivs (numL K n2 (k + 1)))) := by
          show World.ownsRow _ _ _ _ _ _ _
          have hl : U.length = keptN K k := by rw [HU.out]; exact keepL_len K o.syms (by rw [HKl.out, HN2.out]) k
          rw [HT.out, ivs_set, ← hl]
          exact World.ownsRow.alloc hst.1 _
        have HSa := Lib.hid ((OwnSecs.keptNe HS.out HZ.out (by decide) (by decide) (by decide) hst.2).alloc (.cells #[.string x.name, .int .i64 x.bind, .int .i64 x.whr, .int .i64 x.val] 78))
        have HYa : Hid (OwnSyms ((wr.setCell ⟨z, k, none⟩ (.int .i64 (U.length : Int))).alloc (.cells #[.string x.name, .int .i64 x.bind, .int .i64 x.whr, .int .i64 x.val] 78)) B (.slice yb U.length yd) U) := World.ownsRow.alloc (owns_keptNe HY.out HZ.out (by decide) hst.2) _
        have HRa := Lib.hid ((Blk.other HR.out (p := ⟨z, k, none⟩) (by show z ≠ _; omega) (.int .i64 (U.length : Int))).alloc (.cells #[.string x.name, .int .i64 x.bind, .int .i64 x.whr, .int .i64 x.val] 78))
        have HQa := Lib.hid ((Blk.other HQ.out (p := ⟨z, k, none⟩) hzq (.int .i64 (U.length : Int))).alloc (.cells #[.string x.name, .int .i64 x.bind, .int .i64 x.whr, .int .i64 x.val] 78))
        have HFa := Lib.hid ((From.setCell HF.out (p := ⟨z, k, none⟩) (by show _ ≤ z; omega) (.int .i64 (U.length : Int))).alloc (.cells #[.string x.name, .int .i64 x.bind, .int .i64 x.whr, .int .i64 x.val] 78))
        have HXa := Lib.hid (Blk.new (wr.setCell ⟨z, k, none⟩ (.int .i64 (U.length : Int))) #[.string x.name, .int .i64 x.bind, .int .i64 x.whr, .int .i64 x.val] 78)
        have hzz : (wr.setCell ⟨z, k, none⟩ (.int .i64 (U.length : Int))).heap.size = wr.heap.size := by simp [World.setCell]
        rw [hzz] at HXa
        clear hst HZ HS HY HR HQ HF cQ fQ zQ hcz fz hzl g0 g1 g2 g3 hzz
        generalize hw5 : (wr.setCell ⟨z, k, none⟩ (.int .i64 (U.length : Int))).alloc (.cells #[.string x.name, .int .i64 x.bind, .int .i64 x.whr, .int .i64 x.val] 78) = w5 at *
        clear hw5
        generalize wr.heap.size = X at *
        refine (HPk.out w5 HFa.out.below).mono ?_
        rintro e w6 ⟨rfl, k6⟩
        have HZ6 : Hid (w6.ownsRow B 3 1 (.slice (some ⟨z, 0, none⟩) n2 n2) n2 (ivs (numL K n2 (k + 1)))) := owns_call HZa.out k6
        have HS6 := Lib.hid (HSa.out.call k6)
        have HY6 : Hid (OwnSyms w6 B (.slice yb U.length yd) U) := owns_call HYa.out k6
        have HR6 := Lib.hid (HRa.out.call k6)
        have HQ6 := Lib.hid (HQa.out.call k6)
        have HF6 := Lib.hid (HFa.out.call k6)
        have HX6 := Lib.hid (HXa.out.call k6)
        clear k6 HPk HZa HSa HYa HRa HQa HFa HXa
        cases hqk : p k x
        · have HU2 : Hid (U = keepL (K.take (k + 1)) (o.syms.take (k + 1))) := by show _ = _; rw [HNX.out, hqk, HU.out]; simp
          clear hqk HNX
          go_wp2_with fail
          go_roundw
          case rel => exact ⟨k + 1, U, yb, yd, by omega, by go_num, by omega, HU2, HS6, HY6, HZ6, HR6, HQ6, HF6⟩
          case measure => simp [intOf]; try omega
        · have HU2 : Hid (U ++ [x] = keepL (K.take (k + 1)) (o.syms.take (k + 1))) := by show _ = _; rw [HNX.out, hqk, HU.out]; simp
          clear hqk HNX HU
          have cQ := HQ6.out.cell
          have fQ := HQ6.out.frozen
          have zQ := HQ6.out.lt
          have cX := HX6.out.cell
          have zX := HX6.out.lt
          go_wp2_with (at_builtin; refine wpList_append_own rfl (.tmp 38) (.tmp 40) 24 24 rfl B 78 y0 _ 4 40 Try.underlying24 hy0 ya0 ya1 ya2 rfl (by decide) _ _ _ rfl (World.ownsRow.alloc HY6.out _) _ 1 [_, _, _, _] rfl (src_new Try.underlying24 _ [_, _, _, _] 4 1 1 _ rfl ?c0) ?c1 ?c2 ?c3 ?_)
          case c0 =>
            intro u hu
            simp only [List.mem_cons, List.not_mem_nil, or_false] at hu
            rcases hu with rfl | rfl | rfl | rfl <;> rfl
          case c1 => unfold maxLen; omega
          case c2 => omega
          case c3 => first | omega | (simp; omega)
          intro v' w7 hown hgr hpl
          have hown2 : w7.ownsRow B 78 4 v' (U.length + 1) (U.flatMap symL ++ symL x) := hown
          have hY7 : OwnSyms w7 B v' (U ++ [x]) := by
            unfold OwnSyms
            rw [List.length_append, List.flatMap_append]
            simpa using hown2
          obtain ⟨yb2, yd2, rfl⟩ := owns_form hY7
          obtain ⟨U2, hU2⟩ : ∃ U2, U ++ [x] = U2 := ⟨_, rfl⟩
          have hl2 : U2.length ≤ k + 1 := by rw [← hU2, List.length_append]; simp; omega
          have hsc : ∀ k', (Value.slice yb U.length yd).ownBlock = some k' → B ≤ k' := fun k' hk' => (World.ownsRow.lt HY6.out k' hk').1
          have hYr : (w6.alloc (.cells #[.string x.name, .int .i64 x.bind, .int .i64 x.whr, .int .i64 x.val] 78)).ownsRow B 78 4 (.slice yb U.length yd) U.length (U.flatMap symL) := World.ownsRow.alloc HY6.out _
          have hZ7 : w7.ownsRow B 3 1 (.slice (some ⟨z, 0, none⟩) n2 n2) n2 (ivs (numL K n2 (k + 1))) := owns_keptNe (World.ownsRow.alloc HZ6.out _) hYr (by decide) hgr
          have hS7 : OwnSecs w7 B (.slice pa n1 pc) ls := OwnSecs.keptNe (HS6.out.alloc _) hYr (by decide) (by decide) (by decide) hgr
          have hQ7 : Blk w7 q #[.slice pa n1 pc, .slice yb U.length yd] 26 := Blk.grown (HQ6.out.alloc _) hgr (fun e => blk_apart (HQ6.out.alloc _) hYr (by decide) e)
          have hR7 : Blk w7 (w.heap.size + 1) #[.slice none 0 0, .slice none 0 0] 26 := Blk.grown (HR6.out.alloc _) hgr (fun e => blk_apart (HR6.out.alloc _) hYr (by decide) e)
          have hF7 := From.grown (HF6.out.alloc (.cells #[.string x.name, .int .i64 x.bind, .int .i64 x.whr, .int .i64 x.val] 78)) hgr (fun k' hk' => by have := hsc k' hk'; omega)
          rw [hU2] at hY7 HU2 ⊢
          have HZ9 := Lib.hid (row_storeB hZ7 hQ7 (by decide) 1 (.slice yb2 U2.length yd2))
          have HS9 := Lib.hid (hS7.storeB hQ7 (by decide) (by decide) (by decide) 1 (.slice yb2 U2.length yd2))
          have HY9 : Hid (OwnSyms (w7.setCell ⟨q, 1, none⟩ (.slice yb2 U2.length yd2)) B (.slice yb2 U2.length yd2) U2) := row_storeB hY7 hQ7 (by decide) 1 (.slice yb2 U2.length yd2)
          have HR9 := Lib.hid (hR7.other (p := ⟨q, 1, none⟩) (by show q ≠ _; omega) (.slice yb2 U2.length yd2))
          have HF9 := Lib.hid (hF7.setCell (p := ⟨q, 1, none⟩) (by show _ ≤ q; omega) (.slice yb2 U2.length yd2))
          have HQ9 : Hid (Blk (w7.setCell ⟨q, 1, none⟩ (.slice yb2 U2.length yd2)) q #[.slice pa n1 pc, .slice yb2 U2.length yd2] 26) := by
            show Blk _ _ _ _
            have := hQ7.set (o := 1) (.slice yb2 U2.length yd2)
            simpa using this
          have cQ7 := hQ7.cell
          have fQ7 := hQ7.frozen
          have zQ7 := hQ7.lt
          clear hown hown2 hgr hpl hU2 hYr hZ7 hS7 hY7 hQ7 hR7 hF7 HZ6 HS6 HY6 HR6 HQ6 HF6 HX6 cQ fQ zQ cX zX
          go_wp2_with fail
          go_roundw
          case rel => exact ⟨k + 1, U2, yb2, yd2, by omega, by go_num, hl2, HU2, HS9, HY9, HZ9, HR9, HQ9, HF9⟩
          case measure => simp [intOf]; try omega
      · obtain rfl : n2 = k := by omega
        have HUf : Hid (U = keepL K o.syms) := by
          show _ = _
          have := HU.out
          rw [← HN2.out, List.take_length, HN2.out, ← HKl.out, List.take_length] at this
          exact this
        have HFt : Hid (∀ s ∈ o.secs, ∀ f ∈ s.fix, ∃ m : Nat, f.2.2.1 = (m : Int) ∧ m < n2 ∧ (numL K n2 n2)[m]? = some (fixTo K f).2.2.1) := fun s hs f hf => by
          have h1 := HFX.out s hs f hf
          rw [HN2.out] at h1
          refine ⟨f.2.2.1.toNat, by omega, by omega, ?_⟩
          rw [numL_get K n2 _ (by omega)]
          rfl
        go_wp2_with fail
        go_loopw [47] (fun i wr => ∃ (k : Nat) (D R : List (SecD × Value × Value)), D.length = k ∧ k + R.length = n1 ∧ i = .int .i64 k ∧ Hid (D.map (·.1) = (o.secs.take k).map (secTo K)) ∧ Hid (R.map (·.1) = o.secs.drop k) ∧ Hid (OwnSecs wr B (.slice pa n1 pc) (D ++ R)) ∧ Hid (OwnSyms wr B (.slice yb U.length yd) U) ∧ Hid (wr.ownsRow B 3 1 (.slice (some ⟨z, 0, none⟩) n2 n2) n2 (ivs (numL K n2 n2))) ∧ Hid (Blk wr (w.heap.size + 1) #[.slice none 0 0, .slice none 0 0] 26) ∧ Hid (Blk wr q #[.slice pa n1 pc, .slice yb U.length yd] 26) ∧ Hid (From w.heap.size w wr)) (fun i _ => n1 - (intOf i).toNat)
        case atStart => exact ⟨0, [], ls, rfl, by omega, rfl, rfl, (by show _ = _; rw [← HSE.out]; rfl), HS, HY, HZ, HR, HQ, HF⟩
        case round =>
          clear HS HY HZ HR HQ HF cQ fQ zQ hlt hk HU
          obtain ⟨k, D, R, hDk, hDR, rfl, HD1, HR1, HS, HY, HZ, HR, HQ, HF⟩ := hrel
          have cQ := HQ.out.cell
          have fQ := HQ.out.frozen
          have zQ := HQ.out.lt
          have hkn1 : k ≤ n1 := by omega
          by_cases hlt : k < n1
          · have i1 : (k : Int) < (n1 : Int) := by omega
            have i3 : (0 : Int) ≤ (k : Int) := by omega
            cases R with
            | nil => exfalso; simp at hDR; omega
            | cons x R' =>
            have hltL : k < o.secs.length := by rw [HN1.out]; exact hlt
            have hR2 := HR1.out
            rw [List.drop_eq_getElem_cons hltL, List.map_cons] at hR2
            simp only [List.cons.injEq] at hR2
            have HR2 : Hid (R'.map (·.1) = o.secs.drop (k + 1)) := hR2.2
            have HTk : Hid ((o.secs.take (k + 1)).map (secTo K) = D.map (·.1) ++ [secTo K x.1]) := by show _ = _; rw [List.take_succ_eq_append_getElem hltL, List.map_append, HD1.out, hR2.1]; rfl
            have HFk : Hid (∀ f ∈ x.1.fix, ∃ m : Nat, f.2.2.1 = (m : Int) ∧ m < n2 ∧ (numL K n2 n2)[m]? = some (fixTo K f).2.2.1) := fun f hf => HFt.out o.secs[k] (List.getElem_mem hltL) f (by rw [← hR2.1]; exact hf)
            have HFw := (HFew.out.2.2 o.secs[k] (List.getElem_mem hltL)).2
            rw [← hR2.1] at HFw
            obtain ⟨x, vb, vf⟩ := x
            simp only at HTk HFk HFw
            have hm := HS.out.each (x, vb, vf) (by simp)
            obtain ⟨ba, bc, rfl⟩ : ∃ ba bc, vb = .slice ba x.bytes.length bc := owns_form hm.1
            obtain ⟨fa, fc, rfl⟩ : ∃ fa fc, vf = .slice fa x.fix.length fc := owns_form hm.2
            obtain ⟨pg, pg2, hpv⟩ := row_some HS.out.row (by intro e; simp only [Value.slice.injEq] at e; omega)
            simp only [Value.slice.injEq] at hpv
            obtain ⟨rfl, -, rfl⟩ := hpv
            have hlen : n1 = (D ++ (x, Value.slice ba x.bytes.length bc, Value.slice fa x.fix.length fc) :: R').length := by rw [List.length_append, List.length_cons]; simp at hDR; omega
            have q0 := HS.out.cell hlen 0 (.string x.name) rfl
            have q1 := HS.out.cell hlen 1 (.int .i64 x.kind) rfl
            have q2 := HS.out.cell hlen 2 (.int .i64 x.align) rfl
            have q3 := HS.out.cell hlen 3 (.slice ba x.bytes.length bc) rfl
            have q4 := HS.out.cell hlen 4 (.int .i64 x.size) rfl
            have q5 := HS.out.cell hlen 5 (.slice fa x.fix.length fc) rfl
            rw [hDk] at q0 q1 q2 q3 q4 q5
            rw [Nat.add_zero] at q0
            have HLEN := Lib.hid hlen
            obtain ⟨nb, hnb⟩ : ∃ nb, x.bytes.length = nb := ⟨_, rfl⟩
            obtain ⟨nf, hnf⟩ : ∃ nf, x.fix.length = nf := ⟨_, rfl⟩
            have HNF := Lib.hid hnf
            rw [hnb] at q3
            rw [hnf] at q5 HFw
            have HS0 : Hid (OwnSecs wr B (.slice (some ⟨pg, 0, none⟩) n1 pc) (D ++ ((⟨x.name, x.kind, x.align, x.bytes, x.size, mapK (fixTo K) x.fix 0⟩ : SecD), Value.slice ba nb bc, Value.slice fa nf fc) :: R')) := by
              show OwnSecs _ _ _ _
              rw [mapK_zero, ← hnb, ← hnf]
              exact HS.out
            clear hm hlen hnb hnf hR2 HR1 HD1 HS
            go_wp2_with fail
            have HSa := Lib.hid (HS0.out.alloc (.cells #[.string x.name, .int .i64 x.kind, .int .i64 x.align, .slice ba nb bc, .int .i64 x.size, .slice fa nf fc] 69))
            have HYa : Hid (OwnSyms (wr.alloc (.cells #[.string x.name, .int .i64 x.kind, .int .i64 x.align, .slice ba nb bc, .int .i64 x.size, .slice fa nf fc] 69)) B (.slice yb U.length yd) U) := World.ownsRow.alloc HY.out _
            have HZa : Hid ((wr.alloc (.cells #[.string x.name, .int .i64 x.kind, .int .i64 x.align, .slice ba nb bc, .int .i64 x.size, .slice fa nf fc] 69)).ownsRow B 3 1 (.slice (some ⟨z, 0, none⟩) n2 n2) n2 (ivs (numL K n2 n2))) := World.ownsRow.alloc HZ.out _
            have HRa := Lib.hid (HR.out.alloc (.cells #[.string x.name, .int .i64 x.kind, .int .i64 x.align, .slice ba nb bc, .int .i64 x.size, .slice fa nf fc] 69))
            have HQa := Lib.hid (HQ.out.alloc (.cells #[.string x.name, .int .i64 x.kind, .int .i64 x.align, .slice ba nb bc, .int .i64 x.size, .slice fa nf fc] 69))
            have HFa := Lib.hid (HF.out.alloc (.cells #[.string x.name, .int .i64 x.kind, .int .i64 x.align, .slice ba nb bc, .int .i64 x.size, .slice fa nf fc] 69))
            have HXa := Lib.hid (Blk.new wr #[.string x.name, .int .i64 x.kind, .int .i64 x.align, .slice ba nb bc, .int .i64 x.size, .slice fa nf fc] 69)
            generalize hwa : wr.alloc (.cells #[.string x.name, .int .i64 x.kind, .int .i64 x.align, .slice ba nb bc, .int .i64 x.size, .slice fa nf fc] 69) = wa at *
            have zX0 : w.heap.size ≤ wr.heap.size := HF.out.le
            clear hwa
            generalize wr.heap.size = X at *
            clear HS0 HY HZ HR HQ HF cQ fQ zQ q0 q1 q2 q3 q4 q5
            go_loopw [54] (fun i wr => ∃ (j : Nat), j ≤ nf ∧ i = .int .i64 j ∧ Hid (OwnSecs wr B (.slice (some ⟨pg, 0, none⟩) n1 pc) (D ++ ((⟨x.name, x.kind, x.align, x.bytes, x.size, mapK (fixTo K) x.fix j⟩ : SecD), Value.slice ba nb bc, Value.slice fa nf fc) :: R')) ∧ Hid (OwnSyms wr B (.slice yb U.length yd) U) ∧ Hid (wr.ownsRow B 3 1 (.slice (some ⟨z, 0, none⟩) n2 n2) n2 (ivs (numL K n2 n2))) ∧ Hid (Blk wr (w.heap.size + 1) #[.slice none 0 0, .slice none 0 0] 26) ∧ Hid (Blk wr q #[.slice (some ⟨pg, 0, none⟩) n1 pc, .slice yb U.length yd] 26) ∧ Hid (Blk wr X #[.string x.name, .int .i64 x.kind, .int .i64 x.align, .slice ba nb bc, .int .i64 x.size, .slice fa nf fc] 69) ∧ Hid (From w.heap.size w wr)) (fun i _ => nf - (intOf i).toNat)
            case atStart => exact ⟨0, Nat.zero_le _, rfl, HSa, HYa, HZa, HRa, HQa, HXa, HFa⟩
            case round =>
              clear HSa HYa HZa HRa HQa HXa HFa
              obtain ⟨j, hj, rfl, HS, HY, HZ, HR, HQ, HX, HF⟩ := hrel
              have cX := HX.out.cell
              have zX := HX.out.lt
              by_cases hltj : j < nf
              · have j1 : (j : Int) < (nf : Int) := by omega
                have j3 : (0 : Int) ≤ (j : Int) := by omega
                have hjL : j < x.fix.length := by rw [HNF.out]; exact hltj
                have hg := mapK_get (fixTo K) x.fix j hjL
                have hstp := mapK_step (fixTo K) x.fix j hjL
                obtain ⟨m, hm1, hm2, hm3⟩ := HFk.out x.fix[j] (List.getElem_mem hjL)
                obtain ⟨y, hy⟩ : ∃ y, x.fix[j] = y := ⟨_, rfl⟩
                rw [hy] at hg hm1 hm3 hstp
                have hlenM : (mapK (fixTo K) x.fix j).length = nf := by rw [mapK_length, HNF.out]
                obtain ⟨F, hF⟩ : ∃ F, mapK (fixTo K) x.fix j = F := ⟨_, rfl⟩
                rw [hF] at hg hlenM hstp HS
                have hmF : OwnF wr B (.slice fa nf fc) F := (HS.out.each ((⟨x.name, x.kind, x.align, x.bytes, x.size, F⟩ : SecD), Value.slice ba nb bc, Value.slice fa nf fc) (by simp)).2
                obtain ⟨fg, fg2, hfv⟩ := row_some hmF (by intro e; simp only [Value.slice.injEq] at e; omega)
                simp only [Value.slice.injEq] at hfv
                obtain ⟨rfl, -, rfl⟩ := hfv
                have d2 : wr.cell? ⟨fg, j * 4 + 2, none⟩ = some (.int .i64 (m : Int)) := by rw [fix_cell hmF hlenM hg 2 (by decide)]; simp [fixL, hm1]
                have hmF2 : wr.ownsRow B 80 4 (.slice (some ⟨fg, 0, none⟩) nf fc) nf (fixCells F) := by
                  have := hmF
                  unfold OwnF at this
                  rw [hlenM] at this
                  exact this
                have ff := World.ownsRow.frozenAt hmF2 (j * 4 + 2)
                have hnum : wr.cell? ⟨z, m, none⟩ = some (.int .i64 (fixTo K y).2.2.1) := by
                  have := World.ownsRow.cellAt HZ.out m (by omega)
                  rw [this, ivs_get hm3]
                have hfix := OwnSecs.fixAt HS.out hlenM hg 2 (by decide) (.int .i64 (fixTo K y).2.2.1) (f' := fixTo K y) (by obtain ⟨a, b, c, d⟩ := y; rfl)
                have hfr : ∀ (g' : Nat) (c : Array Value) (t : TypeId), Blk wr g' c t → 80 ≠ t → fg ≠ g' := fun g' c t hu hne e => blk_apart hu hmF2 hne (by rw [← e]; rfl)
                have nR : fg ≠ w.heap.size + 1 := hfr _ _ _ HR.out (by decide)
                have nQ : fg ≠ q := hfr _ _ _ HQ.out (by decide)
                have nX : fg ≠ X := hfr _ _ _ HX.out (by decide)
                have hfgB := (World.ownsRow.lt hmF2 fg rfl).1
                have HS9 : Hid (OwnSecs (wr.setCell ⟨fg, j * 4 + 2, none⟩ (.int .i64 (fixTo K y).2.2.1)) B (.slice (some ⟨pg, 0, none⟩) n1 pc) (D ++ ((⟨x.name, x.kind, x.align, x.bytes, x.size, mapK (fixTo K) x.fix (j + 1)⟩ : SecD), Value.slice ba nb bc, Value.slice (some ⟨fg, 0, none⟩) nf fc) :: R')) := by
                  show OwnSecs _ _ _ _
                  rw [hstp]
                  exact hfix.1
                have hgw := (World.ownsRow.stored hmF2 (j * 4 + 2) (.int .i64 (fixTo K y).2.2.1)).2
                have HY9 : Hid (OwnSyms (wr.setCell ⟨fg, j * 4 + 2, none⟩ (.int .i64 (fixTo K y).2.2.1)) B (.slice yb U.length yd) U) := owns_keptNe HY.out hmF2 (by decide) hgw
                have HZ9 : Hid ((wr.setCell ⟨fg, j * 4 + 2, none⟩ (.int .i64 (fixTo K y).2.2.1)).ownsRow B 3 1 (.slice (some ⟨z, 0, none⟩) n2 n2) n2 (ivs (numL K n2 n2))) := owns_keptNe HZ.out hmF2 (by decide) hgw
                have HR9 := Lib.hid (Blk.other HR.out (p := ⟨fg, j * 4 + 2, none⟩) nR (.int .i64 (fixTo K y).2.2.1))
                have HQ9 := Lib.hid (Blk.other HQ.out (p := ⟨fg, j * 4 + 2, none⟩) nQ (.int .i64 (fixTo K y).2.2.1))
                have HX9 := Lib.hid (Blk.other HX.out (p := ⟨fg, j * 4 + 2, none⟩) nX (.int .i64 (fixTo K y).2.2.1))
                have HF9 := Lib.hid (From.setCell HF.out (p := ⟨fg, j * 4 + 2, none⟩) (by show _ ≤ fg; omega) (.int .i64 (fixTo K y).2.2.1))
                have mi : (m : Int) < (n2 : Int) := by omega
                have mi0 : (0 : Int) ≤ (m : Int) := by omega
                obtain ⟨t, ht⟩ : ∃ t, (fixTo K y).2.2.1 = t := ⟨_, rfl⟩
                rw [ht] at hnum HS9 HY9 HZ9 HR9 HQ9 HX9 HF9
                clear hfix hfr hgw ht hstp hmF hmF2 hm1 hm3 hg hF hy HS HY HZ HR HQ HX HF
                go_wp2_with fail
                go_still_tail 14, (by kernel_rfl)
                change wpList _ _ _ _ _ wr.drew
                have hd9 : Below (wr.setCell ⟨fg, j * 4 + 2, none⟩ (.int .i64 t)).heap.size (wr.setCell ⟨fg, j * 4 + 2, none⟩ (.int .i64 t)) ((wr.setCell ⟨fg, j * 4 + 2, none⟩ (.int .i64 t)).drew) := (From.start _).drew.below
                have HS8 := Lib.hid (HS9.out.call hd9)
                have HY8 : Hid (OwnSyms ((wr.setCell ⟨fg, j * 4 + 2, none⟩ (.int .i64 t)).drew) B (.slice yb U.length yd) U) := owns_call HY9.out hd9
                have HZ8 : Hid (((wr.setCell ⟨fg, j * 4 + 2, none⟩ (.int .i64 t)).drew).ownsRow B 3 1 (.slice (some ⟨z, 0, none⟩) n2 n2) n2 (ivs (numL K n2 n2))) := owns_call HZ9.out hd9
                have HR8 := Lib.hid (HR9.out.call hd9)
                have HQ8 := Lib.hid (HQ9.out.call hd9)
                have HX8 := Lib.hid (HX9.out.call hd9)
                have HF8 := Lib.hid (HF9.out.call hd9)
                have d3 : wr.drew.cell? ⟨fg, j * 4 + 2, none⟩ = some (.int .i64 (m : Int)) := d2
                have ff3 : wr.drew.frozen? ⟨fg, j * 4 + 2, none⟩ = false := ff
                clear hd9 HS9 HY9 HZ9 HR9 HQ9 HX9 HF9 d2 ff cX hnum
                go_wp2_with fail
                go_roundw
                case rel => exact ⟨j + 1, by omega, by go_num, HS8, HY8, HZ8, HR8, HQ8, HX8, HF8⟩
                case measure => simp [intOf]; try omega
              · obtain rfl : nf = j := by omega
                have HS5 : Hid (OwnSecs wr B (.slice (some ⟨pg, 0, none⟩) n1 pc) ((D ++ [(secTo K x, Value.slice ba nb bc, Value.slice fa nf fc)]) ++ R')) := by
                  show OwnSecs _ _ _ _
                  have := HS.out
                  rw [← HNF.out, mapK_full, HNF.out] at this
                  rw [List.append_assoc]
                  exact this
                go_wp2_with fail
                go_roundw
                case rel => exact ⟨k + 1, D ++ [(secTo K x, Value.slice ba nb bc, Value.slice fa nf fc)], R', by rw [List.length_append, hDk]; rfl, by simp at hDR; omega, by go_num, by show _ = _; rw [HTk.out, List.map_append]; rfl, HR2, HS5, HY, HZ, HR, HQ, HF⟩
                case measure => simp [intOf]; try omega
          · obtain rfl : n1 = k := by omega
            obtain rfl : R = [] := List.eq_nil_of_length_eq_zero (by omega)
            have hfin : o.secs.map (secTo K) = D.map (·.1) := by rw [HD1.out, ← HN1.out, List.take_length]
            have HSf := Lib.hid HS.out
            rw [List.append_nil] at HSf
            have cR := HR.out.cell
            have fR := HR.out.frozen
            have zR := HR.out.lt
            have hne : q ≠ w.heap.size + 1 := by omega
            go_wp2_with fail
            refine bodyPost_ret (v := .agg #[.slice pa n1 pc, .slice yb U.length yd]) (by simp [results, Try.results92, go_sem, cR, zR]) rfl ⟨_, rfl, ⟨_, _, D, rfl, hfin, ?_, ?_, ?_⟩, ?_⟩
            · exact ((HSf.out.setBelow (a := ⟨w.heap.size + 1, 0, none⟩) zB _).setBelow (a := ⟨w.heap.size + 1, 1, none⟩) zB _).mono (show w.heap.size ≤ B by omega)
            · have h := ownsRow_setCell_below (ownsRow_setCell_below HY.out (a := ⟨w.heap.size + 1, 0, none⟩) zB (.slice pa n1 pc)) (a := ⟨w.heap.size + 1, 1, none⟩) zB (.slice yb U.length yd)
              show OwnSyms _ _ _ (keepL K o.syms)
              rw [← HUf.out]
              exact owns_mono h (show w.heap.size ≤ B by omega)
            · exact secs_row_ne HSf.out HY.out (by decide) (by decide) (by decide)
            · exact ((HF.out.setCell (p := ⟨w.heap.size + 1, 0, none⟩) (Nat.le_succ _) (.slice pa n1 pc)).setCell (p := ⟨w.heap.size + 1, 1, none⟩) (Nat.le_succ _) (.slice yb U.length yd)).below
end Go.Proofs.Ythccjimckjecjaa
