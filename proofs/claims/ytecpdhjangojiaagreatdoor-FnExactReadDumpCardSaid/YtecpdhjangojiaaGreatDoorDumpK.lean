/- An object that lines are read into, in a box; the table of the words that open a line. -/
import Derived.Test.YtecpdhjangojiaaGreatDoorDumpR
import Derived.Test.YtecpdhjangojiaaGreatDoorMarkO
import Derived.Test.YtecpdhjangojiaaGreatDoorReadHex
import Derived.Maps.Own
import Derived.Maps.OwnOps
namespace Go.Proofs.YtecpdhjangojiaaGreatDoor
open Go.ChangeShapes Go.WideShapes Go.ChangeAt Go.RowKit Go.Joins
open Go.Maps (Keyed)
set_option linter.unusedSimpArgs false
set_option linter.unusedVariables false
set_option maxRecDepth 100000
theorem nodup_swap {V D B F R B' F' : List Nat} {m : Nat} (h : (V ++ (D ++ ((B ++ F) ++ R))).Nodup) (hlt : ∀ k ∈ V ++ (D ++ ((B ++ F) ++ R)), k < m) (hB : B'.Nodup) (hF : F'.Nodup)
    (h1 : ∀ k ∈ B', k ∈ B ∨ m ≤ k) (h2 : ∀ k ∈ F', k ∈ F ∨ m ≤ k) (h3 : ∀ k ∈ B', k ∉ F') : (V ++ (D ++ ((B' ++ F') ++ R))).Nodup := by
  simp only [List.nodup_append, List.mem_append] at h hlt ⊢
  obtain ⟨a1, ⟨a2, ⟨⟨a3, a4, a5⟩, a6, a7⟩, a8⟩, a9⟩ := h
  refine ⟨a1, ⟨a2, ⟨⟨hB, hF, fun a ha b hb e => h3 a ha (e ▸ hb)⟩, a6, fun a ha b hb e => ?_⟩, fun a ha b hb e => ?_⟩, fun a ha b hb e => ?_⟩
  · subst e
    rcases ha with ha | ha
    · rcases h1 a ha with h | h
      · exact a7 a (.inl h) a hb rfl
      · have := hlt a (.inr (.inr (.inr hb))); omega
    · rcases h2 a ha with h | h
      · exact a7 a (.inr h) a hb rfl
      · have := hlt a (.inr (.inr (.inr hb))); omega
  · subst e
    rcases hb with (hb | hb) | hb
    · rcases h1 a hb with h | h
      · exact a8 a ha a (.inl (.inl h)) rfl
      · have := hlt a (.inr (.inl ha)); omega
    · rcases h2 a hb with h | h
      · exact a8 a ha a (.inl (.inr h)) rfl
      · have := hlt a (.inr (.inl ha)); omega
    · exact a8 a ha a (.inr hb) rfl
  · subst e
    rcases hb with hb | (hb | hb) | hb
    · exact a9 a ha a (.inl hb) rfl
    · rcases h1 a hb with h | h
      · exact a9 a ha a (.inr (.inl (.inl h))) rfl
      · have := hlt a (.inl ha); omega
    · rcases h2 a hb with h | h
      · exact a9 a ha a (.inr (.inl (.inr h))) rfl
      · have := hlt a (.inl ha); omega
    · exact a9 a ha a (.inr (.inr hb)) rfl
/-- A part of one section is a new one, that is stored in its row. -/
theorem OwnSecs.newPart {w w' : World} {base g n cap : Nat} {bs : List Nat} {D R : List (SecD × Value × Value)} {x x' : SecD × Value × Value} (h : OwnSecs w base (.slice (some ⟨g, 0, none⟩) n cap) (D ++ x :: R)) (hn : n = (D ++ x :: R).length) (j : Nat) (u : Value) (hj : j < 6) (hx : secL x' = (secL x).set j u)
    (ho : Other bs w w') (hd : ∀ k ∈ bs, x.2.2.ownBlock = some k ∨ k < base) (hb : OwnB w' base x'.2.1 x'.1.bytes) (hf : OwnF w' base x'.2.2 x'.1.fix)
    (h1 : ∀ k, x'.2.1.ownBlock = some k → x.2.1.ownBlock = some k ∨ w.heap.size ≤ k) (h2 : ∀ k, x'.2.2.ownBlock = some k → x.2.2.ownBlock = some k ∨ w.heap.size ≤ k) (h3 : ∀ k, x'.2.1.ownBlock = some k → x'.2.2.ownBlock ≠ some k) :
    OwnSecs (w'.setCell ⟨g, D.length * 6 + j, none⟩ u) base (.slice (some ⟨g, 0, none⟩) n cap) (D ++ x' :: R) ∧ w'.ownsRow base 52 6 (.slice (some ⟨g, 0, none⟩) n cap) n ((D ++ x :: R).flatMap secL) := by
  subst hn
  obtain ⟨p1, p2, p3⟩ := h.parts
  have hl := h.lt
  have hk0 : g ∈ (Value.slice (some ⟨g, 0, none⟩) (D ++ x :: R).length cap).ownBlock.toList := by simp [Value.ownBlock]
  have hgl := (hl g (List.mem_append_left _ hk0)).2
  have hgb := (hl g (List.mem_append_left _ hk0)).1
  have p4 := p3 g hk0
  have ho2 : Other [g] w' (w'.setCell ⟨g, D.length * 6 + j, none⟩ u) := Other.setCell (by simp) u
  have r1 : w'.ownsRow base 52 6 (.slice (some ⟨g, 0, none⟩) (D ++ x :: R).length cap) (D ++ x :: R).length ((D ++ x :: R).flatMap secL) := owns_other h.row ho fun k hk e => by
      have : k = g := by simpa [Value.ownBlock, eq_comm] using hk
      subst this
      rcases hd _ e with e | e
      · exact p4.2.2.1 (by simpa using e)
      · omega
  refine ⟨⟨?_, fun y hy => ?_, ?_⟩, r1⟩
  · have r2 := (r1.stored (D.length * 6 + j) u).1
    rw [flat_set secL 6 secL_length D R x x' j u hj hx] at r2
    rw [show (D ++ x' :: R).length = (D ++ x :: R).length by simp]
    exact r2
  · have old : ∀ y, y ∈ D ∨ y ∈ R → OwnB (w'.setCell ⟨g, D.length * 6 + j, none⟩ u) base y.2.1 y.1.bytes ∧ OwnF (w'.setCell ⟨g, D.length * 6 + j, none⟩ u) base y.2.2 y.1.fix := by
      intro y hy
      have hm : y ∈ D ++ x :: R := by rcases hy with hy | hy <;> simp [hy]
      have hin : ∀ k, y.2.1.ownBlock = some k ∨ y.2.2.ownBlock = some k → k ∉ bs ∧ k ∉ [g] := by
        intro k hk
        have hkb : base ≤ k := by
          rcases hk with hk | hk
          · exact ((h.each y hm).1.lt k hk).1
          · exact ((h.each y hm).2.lt k hk).1
        rcases hy with hy | hy
        · have hb := blks_in hy hk
          exact ⟨fun e => by
            rcases hd _ e with e | e
            · exact (p2 k (by simpa using e)).2.1 hb
            · omega, fun e => by obtain rfl := List.mem_singleton.1 e; exact p4.1 hb⟩
        · have hb := blks_in hy hk
          exact ⟨fun e => by
            rcases hd _ e with e | e
            · exact (p2 k (by simpa using e)).2.2.2 hb
            · omega, fun e => by obtain rfl := List.mem_singleton.1 e; exact p4.2.2.2 hb⟩
      have e := h.each y hm
      exact ⟨owns_other (owns_other e.1 ho fun k hk => (hin k (.inl hk)).1) ho2 fun k hk => (hin k (.inl hk)).2, owns_other (owns_other e.2 ho fun k hk => (hin k (.inr hk)).1) ho2 fun k hk => (hin k (.inr hk)).2⟩
    rcases List.mem_append.1 hy with hy | hy
    · exact old y (.inl hy)
    · rcases List.mem_cons.1 hy with rfl | hy
      · refine ⟨owns_other hb ho2 fun k hk e => ?_, owns_other hf ho2 fun k hk e => ?_⟩
        · obtain rfl := List.mem_singleton.1 e
          rcases h1 k hk with h | h
          · exact p4.2.1 (by simpa using h)
          · omega
        · obtain rfl := List.mem_singleton.1 e
          rcases h2 k hk with h | h
          · exact p4.2.2.1 (by simpa using h)
          · omega
      · exact old y (.inr hy)
  · have h0 := h.nodup
    rw [blks_mid] at h0 ⊢
    refine nodup_swap h0 (fun k hk => (hl k (by rw [blks_mid]; exact hk)).2) ?_ ?_ (fun k hk => ?_) (fun k hk => ?_) fun k hk hm => h3 k (by simpa using hk) (by simpa using hm)
    · cases x'.2.1.ownBlock <;> simp
    · cases x'.2.2.ownBlock <;> simp
    · simpa using h1 k (by simpa using hk)
    · simpa using h2 k (by simpa using hk)
/-- A fixup more. -/
theorem OwnSecs.addFix {u w1 : World} {base g n cap : Nat} {D R : List (SecD × Value × Value)} {x : SecD × Value × Value} {f : FixD} {v' : Value} (h : OwnSecs u base (.slice (some ⟨g, 0, none⟩) n cap) (D ++ x :: R)) (hn : n = (D ++ x :: R).length)
    (ho : Other x.2.2.ownBlock.toList u w1) (hf : OwnF w1 base v' (x.1.fix ++ [f])) (hp : ∀ k, v'.ownBlock = some k → x.2.2.ownBlock = some k ∨ u.heap.size ≤ k) :
    OwnSecs (w1.setCell ⟨g, D.length * 6 + 5, none⟩ v') base (.slice (some ⟨g, 0, none⟩) n cap) (D ++ ((⟨x.1.name, x.1.kind, x.1.align, x.1.bytes, x.1.size, x.1.fix ++ [f]⟩ : SecD), x.2.1, v') :: R) ∧ w1.ownsRow base 52 6 (.slice (some ⟨g, 0, none⟩) n cap) n ((D ++ x :: R).flatMap secL) := by
  have hm := h.each x (by simp)
  have hb : OwnB w1 base x.2.1 x.1.bytes := owns_other hm.1 ho fun k hk e => (h.parts.1 k (by simpa using hk)).2.2.1 e
  exact h.newPart hn 5 v' (by decide) rfl ho (fun k hk => .inl (by simpa using hk)) hb hf (fun k hk => .inl hk) hp (owns_ne hb hf (by decide))
theorem fix_snoc {w : World} {base : Nat} {v : Value} {F : List FixD} {f : FixD} (h : w.ownsRow base 56 4 v (F.length + 1) (fixCells F ++ fixL f)) : OwnF w base v (F ++ [f]) := by
  unfold OwnF
  rw [fixCells_flat] at h ⊢
  rw [List.length_append, List.flatMap_append, List.flatMap_singleton]
  exact h
theorem mem_blks1 {ls : List (SecD × Value × Value)} {y : SecD × Value × Value} (hy : y ∈ ls) {k : Nat} (h : y.2.1.ownBlock = some k) : k ∈ blksOf ls :=
  List.mem_flatMap.2 ⟨y, hy, List.mem_append.2 (.inl (by simp [h]))⟩
theorem mem_blks2 {ls : List (SecD × Value × Value)} {y : SecD × Value × Value} (hy : y ∈ ls) {k : Nat} (h : y.2.2.ownBlock = some k) : k ∈ blksOf ls :=
  List.mem_flatMap.2 ⟨y, hy, List.mem_append.2 (.inr (by simp [h]))⟩
theorem nodup_opt (o : Option Nat) : o.toList.Nodup := by cases o <;> simp
/-- Sections that the call owns: one more. -/
theorem OwnSecs.snoc {w w' : World} {base m : Nat} {v v' : Value} {ls : List (SecD × Value × Value)} {x : SecD × Value × Value} (h : OwnSecs w base v ls) (hlt : ∀ k ∈ v.ownBlock.toList ++ blksOf ls, k < m) (hm : base ≤ m)
    (h1 : OwnB w m x.2.1 x.1.bytes) (h2 : OwnF w m x.2.2 x.1.fix) (hne : ∀ k, x.2.1.ownBlock = some k → x.2.2.ownBlock ≠ some k)
    (hgr : w.grownBy w' v.ownBlock) (hrow : w'.ownsRow base 52 6 v' (ls.length + 1) (ls.flatMap secL ++ secL x)) (hpl : v'.ownBlock = v.ownBlock ∨ v'.ownBlock = some w.heap.size) : OwnSecs w' base v' (ls ++ [x]) := by
  have hnd := List.nodup_append.1 h.nodup
  have hv : ∀ k, v.ownBlock = some k → k < m := fun k hk => hlt k (List.mem_append.2 (.inl (by simp [hk])))
  have hb : ∀ k ∈ blksOf ls, k < m := fun k hk => hlt k (List.mem_append.2 (.inr hk))
  have hvb : ∀ k, v.ownBlock = some k → k ∉ blksOf ls := fun k hk hm => hnd.2.2 k (by simp [hk]) k hm rfl
  have hx1 : ∀ k, x.2.1.ownBlock = some k → m ≤ k ∧ k < w.heap.size := fun k hk => World.ownsRow.lt h1 k hk
  have hx2 : ∀ k, x.2.2.ownBlock = some k → m ≤ k ∧ k < w.heap.size := fun k hk => World.ownsRow.lt h2 k hk
  have hall : ∀ k ∈ blksOf ls, k < w.heap.size := fun k hk => (h.lt k (List.mem_append.2 (.inr hk))).2
  have hother : ∀ o : Option Nat, (∀ k, o = some k → v.ownBlock ≠ some k) → o = none ∨ o ≠ v.ownBlock := by
    intro o ho
    cases o with
    | none => exact .inl rfl
    | some k => exact .inr fun e => ho k rfl e.symm
  refine ⟨by rw [List.length_append, List.flatMap_append]; simpa using hrow, fun y hy => ?_, ?_⟩
  · rcases List.mem_append.1 hy with hy | hy
    · have hy2 := h.each y hy
      exact ⟨World.ownsRow.kept hy2.1 hgr (hother _ fun k hk e => hvb k e (mem_blks1 hy hk)), World.ownsRow.kept hy2.2 hgr (hother _ fun k hk e => hvb k e (mem_blks2 hy hk))⟩
    · obtain rfl := List.mem_singleton.1 hy
      exact ⟨owns_mono (World.ownsRow.kept h1 hgr (hother _ fun k hk e => by have := hx1 k hk; have := hv k e; omega)) hm, owns_mono (World.ownsRow.kept h2 hgr (hother _ fun k hk e => by have := hx2 k hk; have := hv k e; omega)) hm⟩
  · rw [blksOf_append]
    have hbx : blksOf [x] = x.2.1.ownBlock.toList ++ x.2.2.ownBlock.toList := by simp [blksOf]
    rw [hbx]
    have hxin : ∀ k ∈ x.2.1.ownBlock.toList ++ x.2.2.ownBlock.toList, m ≤ k ∧ k < w.heap.size := by
      intro k hk
      rcases List.mem_append.1 hk with hk | hk
      · exact hx1 k (by simpa using hk)
      · exact hx2 k (by simpa using hk)
    refine List.nodup_append.2 ⟨nodup_opt _, List.nodup_append.2 ⟨hnd.2.1, List.nodup_append.2 ⟨nodup_opt _, nodup_opt _, ?_⟩, ?_⟩, ?_⟩
    · intro a ha c hc e
      subst e
      exact hne a (by simpa using ha) (by simpa using hc)
    · intro a ha c hc e
      have h1 := hb a ha
      have h2 := hxin c hc
      omega
    · intro a ha c hc e
      subst e
      have ha' : v'.ownBlock = some a := by simpa using ha
      rcases hpl with hp | hp
      · rw [hp] at ha'
        rcases List.mem_append.1 hc with hc | hc
        · exact hvb a ha' hc
        · have := hxin a hc; have := hv a ha'; omega
      · rw [hp] at ha'
        simp only [Option.some.injEq] at ha'
        subst ha'
        rcases List.mem_append.1 hc with hc | hc
        · have := hall _ hc; omega
        · have := hxin _ hc; omega
/-- An object that is being read, in a box. -/
def BoxO (u : World) (q B : Nat) (o : ObjD) : Prop := ∃ vs vy LS, Blk u q #[vs, vy] 28 ∧ o.secs = LS.map (·.1) ∧ OwnSecs u B vs LS ∧ OwnSyms u B vy o.syms ∧ q < B ∧ B ≤ u.heap.size
/-- Few enough. -/
def Few (N : Nat) (o : ObjD) : Prop := o.secs.length ≤ N ∧ o.syms.length ≤ N ∧ ∀ s ∈ o.secs, s.fix.length ≤ N
theorem Few.mono {N M : Nat} {o : ObjD} (h : Few N o) (hm : N ≤ M) : Few M o := ⟨Nat.le_trans h.1 hm, Nat.le_trans h.2.1 hm, fun s hs => Nat.le_trans (h.2.2 s hs) hm⟩
theorem BoxO.call {u u' : World} {q B : Nat} {o : ObjD} (h : BoxO u q B o) (hb : Below u.heap.size u u') : BoxO u' q B o := by
  obtain ⟨vs, vy, LS, h1, h2, h3, h4, h5⟩ := h
  exact ⟨vs, vy, LS, h1.call hb, h2, h3.call hb, owns_call h4 hb, h5.1, Nat.le_trans h5.2 hb.size⟩
/-- A literal's entry of the call's own map. -/
theorem wpList_insert_own {H : Type} {P : Program} (w : World) {ops : Array Oper} {rest : List Oper} {o : Oper} {a : Act} {Q : Exit → Act → World → Prop}
    (hg : o.guard = none) (m x v : Operand) (t : TypeId) (hop : o.op = Op.insert t m x v)
    (k e : TypeId) (K : Keyed P k) (ht : P.underlying t = some (.map k e)) (R : Value → Option (DataW H × List MemPlace)) (b n : Nat) (D : DataW H)
    (hm : a.eval m = .map (some b)) (hown : w.ownsMap P k R b n D) (hn : n < maxLen) (key val : Value) (kl : Lit) (hx : a.eval x = key) (hv : a.eval v = val) (hkey : keyOf P k key = some kl)
    (d : DataW H) (ps : List MemPlace) (hval : R val = some (d, ps))
    (hK : ∀ w', w'.ownsMap P k R b (n + 1) (D.put kl d) → w.grownBy w' (some b) → wpList P ops Q rest (a.put o.dst undef) w') :
    wpList P ops Q (o :: rest) a w := by
  refine wpList_plain hg fun K' hK' => ?_
  obtain ⟨w', hrun, r1, r2⟩ := hown.update K ht hn hkey hval
  unfold Oper.wp
  simp [execOp, hop, hm, hx, hv, hrun, Result.andThen]
  exact hK' _ _ (hK w' r1 r2)
/-- The words that open a line, with how many words each wants. -/
def kwD : DataW Unit := (((DataW.map [] : DataW Unit).put (.string secT) (.lit (.int .i64 5))).put (.string fixT) (.lit (.int .i64 5))).put (.string symT) (.lit (.int .i64 5))
theorem kwD_eq : kwD = .map [(.string fixT, .lit (.int .i64 5)), (.string secT, .lit (.int .i64 5)), (.string symT, .lit (.int .i64 5))] := by rfl
theorem kw_at (l : List UInt8) (c : Int) (h : kwD.atKey (.string l) (.lit (.int .i64 0)) = .lit (.int .i64 c)) : c = if l = secT ∨ l = fixT ∨ l = symT then 5 else 0 := by
  rw [kwD_eq] at h
  by_cases h1 : l = fixT
  · subst h1
    rw [if_pos (by decide)]
    have e : (DataW.map [(.string fixT, .lit (.int .i64 5)), (.string secT, .lit (.int .i64 5)), (.string symT, .lit (.int .i64 5))] : DataW Unit).atKey (.string fixT) (.lit (.int .i64 0)) = .lit (.int .i64 5) := rfl
    rw [e] at h
    simpa [eq_comm] using h
  by_cases h2 : l = secT
  · subst h2
    rw [if_pos (by decide)]
    have e : (DataW.map [(.string fixT, .lit (.int .i64 5)), (.string secT, .lit (.int .i64 5)), (.string symT, .lit (.int .i64 5))] : DataW Unit).atKey (.string secT) (.lit (.int .i64 0)) = .lit (.int .i64 5) := rfl
    rw [e] at h
    simpa [eq_comm] using h
  by_cases h3 : l = symT
  · subst h3
    rw [if_pos (by decide)]
    have e : (DataW.map [(.string fixT, .lit (.int .i64 5)), (.string secT, .lit (.int .i64 5)), (.string symT, .lit (.int .i64 5))] : DataW Unit).atKey (.string symT) (.lit (.int .i64 0)) = .lit (.int .i64 5) := rfl
    rw [e] at h
    simpa [eq_comm] using h
  rw [if_neg (by simp [h1, h2, h3])]
  have e : (DataW.map [(.string fixT, .lit (.int .i64 5)), (.string secT, .lit (.int .i64 5)), (.string symT, .lit (.int .i64 5))] : DataW Unit).atKey (.string l) (.lit (.int .i64 0)) = .lit (.int .i64 0) := by
    unfold DataW.atKey
    have f1 : (Lit.string fixT).sameKey (.string l) = false := by simp only [Lit.sameKey, beq_eq_false_iff_ne]; exact fun e => h1 e.symm
    have f2 : (Lit.string secT).sameKey (.string l) = false := by simp only [Lit.sameKey, beq_eq_false_iff_ne]; exact fun e => h2 e.symm
    have f3 : (Lit.string symT).sameKey (.string l) = false := by simp only [Lit.sameKey, beq_eq_false_iff_ne]; exact fun e => h3 e.symm
    simp only [List.find?_cons, List.find?_nil, f1, f2, f3]
  rw [e] at h
  simpa [eq_comm] using h
theorem key_str : Keyed Tryz.prog 9 := Go.Maps.string_keyed Tryz.underlying9
theorem zero_int (w : World) : (zeroValue 3).run Tryz.prog w = .ok (.int .i64 0) w := by kernel_rfl
/-- Words, with what comes behind five of a section's set apart. -/
def normW (ws : List (List UInt8)) : List (List UInt8) × List UInt8 := if ws.length = 6 ∧ ws.head? = some secT then (ws.take 5, ws.getD 5 []) else (ws, [])
def fiveI (o : ObjD) (h : List UInt8) : List (List UInt8) → Option ObjD
  | [w, n, a, b, c] => if w = secT then addSec o n a b c h else if w = fixT then addFix o n a b c else if w = symT then addSym o n a b c else none
  | _ => none
theorem wordsI_norm (o : ObjD) : ∀ ws : List (List UInt8), wordsI o ws = fiveI o (normW ws).2 (normW ws).1
  | [] => rfl
  | [_] => rfl
  | [_, _] => rfl
  | [_, _, _] => rfl
  | [_, _, _, _] => rfl
  | [w, n, a, b, c] => rfl
  | [w, n, a, b, c, h] => by
    by_cases hw : w = secT
    · subst hw; rfl
    · unfold normW
      rw [if_neg (by simp [hw])]
      simp only [wordsI, fiveI, if_neg hw]
  | _ :: _ :: _ :: _ :: _ :: _ :: _ :: r => by
    unfold normW wordsI
    rw [if_neg (by simp)]
    rfl
theorem wordsL_le : ∀ l : List UInt8, ∀ x ∈ wordsL l, x.length ≤ l.length
  | [], x, h => by
    unfold wordsL at h
    simp at h
    simp [h]
  | c :: r, x, h => by
    have ih := wordsL_le r
    unfold wordsL at h
    split at h
    · rcases List.mem_cons.1 h with rfl | h
      · simp
      · have := ih x h
        simp; omega
    · split at h
      · simp at h
        simp [h]
      · rename_i y q hq
        rw [hq] at ih
        rcases List.mem_cons.1 h with rfl | h
        · have := ih y (by simp)
          simp; omega
        · have := ih x (by simp [h])
          simp; omega
/-- The second of five words taken out. -/
theorem delete_call (w : World) (W C : Nat) (x0 x1 x2 x3 x4 : ByteArray) (zs : List Value) (hB : Blk w W (svs [x0, x1, x2, x3, x4] ++ zs).toArray 9) (hC : 5 ≤ C) (hm : C ≤ 9223372036854775807) :
    Calls Tryz.prog 50 #[.slice (some ⟨W, 0, none⟩) 5 C, .int .i64 1, .int .i64 2] w fun e w' => e = .returned (.slice (some ⟨W, 0, none⟩) 4 C) ∧ Blk w' W (svs [x0, x2, x3, x4, ByteArray.empty] ++ zs).toArray 9 ∧ w.grownBy w' (some W) := by
  refine (Any.slices_Delete_string_cells Tryz.laysNm224 W 0 5 C 1 2 (fun i => [x0, x1, x2, x3, x4].getD i ByteArray.empty) w hC hm (by decide) (by decide) (fun i hi => ?_) (fun j _ => by rw [Nat.zero_add]; exact hB.frozen j)).mono ?_
  · rw [Nat.zero_add, hB.cell i]
    have : i = 0 ∨ i = 1 ∨ i = 2 ∨ i = 3 ∨ i = 4 := by omega
    rcases this with rfl | rfl | rfl | rfl | rfl <;> rfl
  · rintro e w' ⟨rfl, q, rfl⟩
    have e1 : (((Lib.strsOf (fun i => [x0, x1, x2, x3, x4].getD i ByteArray.empty) 5).take 1 ++ (Lib.strsOf (fun i => [x0, x1, x2, x3, x4].getD i ByteArray.empty) 5).drop 2 ++ List.replicate (2 - 1) []).map encStr) = [.string x0, .string x2, .string x3, .string x4, .string ByteArray.empty] := rfl
    rw [e1]
    refine ⟨rfl, ?_, ?_⟩
    · have h1 := ((((((hB.drewN q).set (o := 0) (.string x0)).set (o := 1) (.string x2)).set (o := 2) (.string x3)).set (o := 3) (.string x4)).set (o := 4) (.string ByteArray.empty))
      exact h1
    · have h0 : w.grownBy (w.drewN q) (some W) := ⟨rfl, rfl, rfl, Nat.le_refl _, fun _ _ _ => rfl⟩
      have h1 := grown_set (o := 4) (grown_set (o := 3) (grown_set (o := 2) (grown_set (o := 1) (grown_set (o := 0) h0 (.string x0)) (.string x2)) (.string x3)) (.string x4)) (.string ByteArray.empty)
      exact h1
theorem fiveI_kw (o : ObjD) (h : List UInt8) : ∀ ws : List (List UInt8), (∀ x, ws.head? = some x → ¬ (x = secT ∨ x = fixT ∨ x = symT)) → fiveI o h ws = none
  | [], _ => rfl
  | [_], _ => rfl
  | [_, _], _ => rfl
  | [_, _, _], _ => rfl
  | [_, _, _, _], _ => rfl
  | [w, n, a, b, c], hk => by
    have := hk w rfl
    unfold fiveI
    simp only [not_or] at this
    simp [this.1, this.2.1, this.2.2]
  | _ :: _ :: _ :: _ :: _ :: _ :: _, _ => rfl
theorem fiveI_len (o : ObjD) (h : List UInt8) : ∀ ws : List (List UInt8), ws.length ≠ 5 → fiveI o h ws = none
  | [], _ => rfl
  | [_], _ => rfl
  | [_, _], _ => rfl
  | [_, _, _], _ => rfl
  | [_, _, _, _], _ => rfl
  | [w, n, a, b, c], hk => absurd rfl hk
  | _ :: _ :: _ :: _ :: _ :: _ :: _, _ => rfl
theorem five_five (o : ObjD) (h w n a b c : List UInt8) : fiveI o h [w, n, a, b, c] = if w = secT then addSec o n a b c h else if w = fixT then addFix o n a b c else if w = symT then addSym o n a b c else none := rfl
theorem five_sec_none (o : ObjD) (h : List UInt8) (x1 x2 x3 x4 : ByteArray) (hn : numsO [x2, x3, x4] = none) : fiveI o h [secT, bytesS x1, bytesS x2, bytesS x3, bytesS x4] = none := by
  rw [five_five, if_pos rfl]
  unfold addSec
  simp only [numsO] at hn
  cases h1 : atoiO (bytesS x2) with
  | none => rfl
  | some a =>
    cases h2 : atoiO (bytesS x3) with
    | none => rfl
    | some b =>
      cases h3 : atoiO (bytesS x4) with
      | none => rfl
      | some c => rw [h1, h2, h3] at hn; cases hn
theorem five_sec_some (o : ObjD) (h : List UInt8) (x1 x2 x3 x4 : ByteArray) (a b c : Int) (hn : numsO [x2, x3, x4] = some [a, b, c]) :
    fiveI o h [secT, bytesS x1, bytesS x2, bytesS x3, bytesS x4] = (readHexL h).map fun bs => ⟨o.secs ++ [⟨x1, a, b, bs, if a = 3 then c else 0, []⟩], o.syms⟩ := by
  rw [five_five, if_pos rfl]
  unfold addSec
  simp only [numsO] at hn
  cases h1 : atoiO (bytesS x2) with
  | none => rw [h1] at hn; cases hn
  | some a' =>
    cases h2 : atoiO (bytesS x3) with
    | none => rw [h1, h2] at hn; cases hn
    | some b' =>
      cases h3 : atoiO (bytesS x4) with
      | none => rw [h1, h2, h3] at hn; cases hn
      | some c' =>
        rw [h1, h2, h3] at hn
        simp only [Option.map_some, Option.some.injEq, List.cons.injEq, and_true] at hn
        obtain ⟨rfl, rfl, rfl⟩ := hn
        cases readHexL h with
        | none => rfl
        | some bs => simp only [Option.map_some, txt_bytesS]
theorem five_sym_none (o : ObjD) (h : List UInt8) (x1 x2 x3 x4 : ByteArray) (hn : numsO [x2, x3, x4] = none) : fiveI o h [symT, bytesS x1, bytesS x2, bytesS x3, bytesS x4] = none := by
  rw [five_five, if_neg (by decide), if_neg (by decide), if_pos rfl]
  unfold addSym
  simp only [numsO] at hn
  cases h1 : atoiO (bytesS x2) with
  | none => rfl
  | some a =>
    cases h2 : atoiO (bytesS x3) with
    | none => rfl
    | some b =>
      cases h3 : atoiO (bytesS x4) with
      | none => rfl
      | some c => rw [h1, h2, h3] at hn; cases hn
theorem five_sym_some (o : ObjD) (h : List UInt8) (x1 x2 x3 x4 : ByteArray) (a b c : Int) (hn : numsO [x2, x3, x4] = some [a, b, c]) :
    fiveI o h [symT, bytesS x1, bytesS x2, bytesS x3, bytesS x4] = some ⟨o.secs, o.syms ++ [⟨x1, a, b, c⟩]⟩ := by
  rw [five_five, if_neg (by decide), if_neg (by decide), if_pos rfl]
  unfold addSym
  simp only [numsO] at hn
  cases h1 : atoiO (bytesS x2) with
  | none => rw [h1] at hn; cases hn
  | some a' =>
    cases h2 : atoiO (bytesS x3) with
    | none => rw [h1, h2] at hn; cases hn
    | some b' =>
      cases h3 : atoiO (bytesS x4) with
      | none => rw [h1, h2, h3] at hn; cases hn
      | some c' =>
        rw [h1, h2, h3] at hn
        simp only [Option.map_some, Option.some.injEq, List.cons.injEq, and_true] at hn
        obtain ⟨rfl, rfl, rfl⟩ := hn
        simp only [txt_bytesS]
theorem five_fix_none (o : ObjD) (h : List UInt8) (x1 x2 x3 x4 : ByteArray) (hn : numsO [x1, x2, x3, x4] = none) : fiveI o h [fixT, bytesS x1, bytesS x2, bytesS x3, bytesS x4] = none := by
  rw [five_five, if_neg (by decide), if_pos rfl]
  unfold addFix
  simp only [numsO] at hn
  cases h0 : atoiO (bytesS x1) with
  | none => rfl
  | some n =>
    cases h1 : atoiO (bytesS x2) with
    | none => rfl
    | some a =>
      cases h2 : atoiO (bytesS x3) with
      | none => rfl
      | some b =>
        cases h3 : atoiO (bytesS x4) with
        | none => rfl
        | some c => rw [h0, h1, h2, h3] at hn; cases hn
theorem five_fix_some (o : ObjD) (h : List UInt8) (x1 x2 x3 x4 : ByteArray) (n a b c : Int) (hn : numsO [x1, x2, x3, x4] = some [n, a, b, c]) :
    fiveI o h [fixT, bytesS x1, bytesS x2, bytesS x3, bytesS x4] = if o.secs = [] then none else some ⟨addLast o.secs (n, a, b, c), o.syms⟩ := by
  rw [five_five, if_neg (by decide), if_pos rfl]
  unfold addFix
  simp only [numsO] at hn
  cases h0 : atoiO (bytesS x1) with
  | none => rw [h0] at hn; cases hn
  | some n' =>
    cases h1 : atoiO (bytesS x2) with
    | none => rw [h0, h1] at hn; cases hn
    | some a' =>
      cases h2 : atoiO (bytesS x3) with
      | none => rw [h0, h1, h2] at hn; cases hn
      | some b' =>
        cases h3 : atoiO (bytesS x4) with
        | none => rw [h0, h1, h2, h3] at hn; cases hn
        | some c' =>
          rw [h0, h1, h2, h3] at hn
          simp only [Option.map_some, Option.some.injEq, List.cons.injEq, and_true] at hn
          obtain ⟨rfl, rfl, rfl, rfl⟩ := hn
          rfl
/-- The words behind the first. -/
theorem strs_tail {u : World} {W c : Nat} {x : ByteArray} {l : List ByteArray} {zs : List Value} {t : TypeId} (h : Blk u W (svs (x :: l) ++ zs).toArray t) (hc : l.length ≤ c) (hm : c ≤ maxLen) : StrsAt u (.slice (some ⟨W, 1, none⟩) l.length c) l := by
  refine ⟨by simp [svs], some ⟨W, 1, none⟩, c, rfl, hc, hm, (fun e => by cases e), fun _ => ⟨W, 1, rfl, fun j v hj => ?_⟩⟩
  rw [h.cell (1 + j)]
  have hjl : j < (svs l).length := (List.getElem?_eq_some_iff.1 hj).1
  show (svs (x :: l) ++ zs).toArray[1 + j]? = some v
  rw [List.getElem?_toArray, Nat.add_comm]
  show (Value.string x :: (svs l ++ zs))[j + 1]? = some v
  rw [List.getElem?_cons_succ, List.getElem?_append_left hjl]
  exact hj
/-- A section more, in the box. -/
theorem box_sec {u w1 : World} {q B m : Nat} {o : ObjD} {vs vy v' : Value} {LS : List (SecD × Value × Value)} {x : SecD × Value × Value} (hB : Blk u q #[vs, vy] 28) (ho : o.secs = LS.map (·.1)) (hS : OwnSecs u B vs LS) (hY : OwnSyms u B vy o.syms) (hq : q < B) (hBs : B ≤ u.heap.size)
    (hlt : ∀ k ∈ vs.ownBlock.toList ++ blksOf LS, k < m) (hm : B ≤ m) (h1 : OwnB u m x.2.1 x.1.bytes) (h2 : OwnF u m x.2.2 x.1.fix) (hgr : u.grownBy w1 vs.ownBlock) (hrow : w1.ownsRow B 52 6 v' (LS.length + 1) (LS.flatMap secL ++ secL x)) (hpl : v'.ownBlock = vs.ownBlock ∨ v'.ownBlock = some u.heap.size) :
    BoxO (w1.setCell ⟨q, 0, none⟩ v') q B ⟨o.secs ++ [x.1], o.syms⟩ := by
  have h3 := hS.snoc hlt hm h1 h2 (owns_ne h1 h2 (by decide)) hgr hrow hpl
  have hvq : some q ≠ vs.ownBlock := fun e => by have := (World.ownsRow.lt hS.row q e.symm).1; omega
  have h4 := (hB.grown hgr hvq).set (o := 0) v'
  have hoq : Other [q] w1 (w1.setCell ⟨q, 0, none⟩ v') := Other.setCell (by simp) v'
  refine ⟨v', vy, LS ++ [x], h4, by rw [List.map_append, ho]; rfl, h3.other hoq (fun k hk hm => ?_), ?_, hq, by have := hgr.size; simp [World.setCell]; omega⟩
  · obtain rfl := List.mem_singleton.1 hm
    have := (h3.lt _ hk).1
    omega
  · have h5 : OwnSyms w1 B vy o.syms := World.ownsRow.kept hY hgr (by
      cases hvy : vy.ownBlock with
      | none => exact .inl rfl
      | some k => exact .inr fun e => owns_ne hY hS.row (by decide) k hvy e.symm)
    exact owns_other h5 hoq fun k hk hm => by
      obtain rfl := List.mem_singleton.1 hm
      have := (World.ownsRow.lt hY k hk).1
      omega
/-- A symbol more, in the box. -/
theorem box_sym {u w1 : World} {q B : Nat} {o : ObjD} {vs vy v' : Value} {LS : List (SecD × Value × Value)} {x : SymD} (hB : Blk u q #[vs, vy] 28) (ho : o.secs = LS.map (·.1)) (hS : OwnSecs u B vs LS) (hY : OwnSyms u B vy o.syms) (hq : q < B) (hBs : B ≤ u.heap.size)
    (hgr : u.grownBy w1 vy.ownBlock) (hrow : w1.ownsRow B 58 4 v' (o.syms.length + 1) (o.syms.flatMap symL ++ symL x)) :
    BoxO (w1.setCell ⟨q, 1, none⟩ v') q B ⟨o.secs, o.syms ++ [x]⟩ := by
  have hvq : some q ≠ vy.ownBlock := fun e => by have := (World.ownsRow.lt hY q e.symm).1; omega
  have h4 := (hB.grown hgr hvq).set (o := 1) v'
  have hoq : Other [q] w1 (w1.setCell ⟨q, 1, none⟩ v') := Other.setCell (by simp) v'
  have hog : Other vy.ownBlock.toList u w1 := Other.grown hgr fun k hk => by simpa using hk
  have h5 : OwnSyms w1 B v' (o.syms ++ [x]) := by
    unfold OwnSyms
    rw [List.length_append, List.flatMap_append]
    simpa using hrow
  refine ⟨vs, v', LS, h4, ho, (hS.other hog fun k hk hm => ?_).other hoq (fun k hk hm => ?_), owns_other h5 hoq fun k hk hm => ?_, hq, by have := hgr.size; simp [World.setCell]; omega⟩
  · have hm : vy.ownBlock = some k := by simpa using hm
    rcases List.mem_append.1 hk with hk | hk
    · exact owns_ne hY hS.row (by decide) k hm (by simpa using hk)
    · obtain ⟨y, hy, hk⟩ := List.mem_flatMap.1 hk
      rcases List.mem_append.1 hk with hk | hk
      · exact owns_ne hY (hS.each y hy).1 (by decide) k hm (by simpa using hk)
      · exact owns_ne hY (hS.each y hy).2 (by decide) k hm (by simpa using hk)
  · obtain rfl := List.mem_singleton.1 hm
    have := (hS.lt _ hk).1
    omega
  · obtain rfl := List.mem_singleton.1 hm
    have := (World.ownsRow.lt h5 k hk).1
    omega
/-- A fixup more, in the box. -/
theorem box_fix {u w1 : World} {q B g n cap : Nat} {o : ObjD} {vy v' : Value} {D : List (SecD × Value × Value)} {x : SecD × Value × Value} {f : FixD} (hB : Blk u q #[.slice (some ⟨g, 0, none⟩) n cap, vy] 28) (ho : o.secs = (D ++ [x]).map (·.1)) (hn : n = (D ++ [x]).length) (hS : OwnSecs u B (.slice (some ⟨g, 0, none⟩) n cap) (D ++ [x])) (hY : OwnSyms u B vy o.syms) (hq : q < B) (hBs : B ≤ u.heap.size)
    (ho1 : Other x.2.2.ownBlock.toList u w1) (hf : OwnF w1 B v' (x.1.fix ++ [f])) (hp : ∀ k, v'.ownBlock = some k → x.2.2.ownBlock = some k ∨ u.heap.size ≤ k) :
    BoxO (w1.setCell ⟨g, D.length * 6 + 5, none⟩ v') q B ⟨addLast o.secs f, o.syms⟩ ∧ Other (g :: x.2.2.ownBlock.toList) u (w1.setCell ⟨g, D.length * 6 + 5, none⟩ v') := by
  have h3 := (hS.addFix hn ho1 hf hp).1
  have hos : Other (g :: x.2.2.ownBlock.toList) u (w1.setCell ⟨g, D.length * 6 + 5, none⟩ v') := (ho1.mono fun k hk => List.mem_cons_of_mem _ hk).trans (Other.setCell (by simp) v')
  have hgB : B ≤ g := (World.ownsRow.lt hS.row g rfl).1
  have hx := hS.each x (by simp)
  refine ⟨⟨_, vy, _, hB.otherB hos fun hm => ?_, ?_, h3, owns_other hY hos fun k hk hm => ?_, hq, Nat.le_trans hBs hos.size⟩, hos⟩
  · rcases List.mem_cons.1 hm with rfl | hm
    · omega
    · have := (World.ownsRow.lt hx.2 q (by simpa using hm)).1
      omega
  · show addLast o.secs f = _
    rw [ho, List.map_append, List.map_append]
    exact addLast_snoc _ _ _
  · rcases List.mem_cons.1 hm with rfl | hm
    · exact owns_ne hY hS.row (by decide) _ hk rfl
    · exact owns_ne hY hx.2 (by decide) k hk (by simpa using hm)
theorem few_addLast {N : Nat} {o : ObjD} (h : Few N o) (f : FixD) : Few (N + 1) ⟨addLast o.secs f, o.syms⟩ := by
  unfold addLast
  cases hl : o.secs.getLast? with
  | none => exact h.mono (Nat.le_succ _)
  | some s =>
    have hm : s ∈ o.secs := List.mem_of_getLast? hl
    refine ⟨?_, Nat.le_succ_of_le h.2.1, fun y hy => ?_⟩
    · have := h.1
      simp only [List.length_append, List.length_dropLast, List.length_cons, List.length_nil]; omega
    · rcases List.mem_append.1 hy with hy | hy
      · exact Nat.le_succ_of_le (h.2.2 y (List.dropLast_subset _ hy))
      · obtain rfl := List.mem_singleton.1 hy
        have := h.2.2 s hm
        simp only [List.length_append, List.length_cons, List.length_nil]; omega
end Go.Proofs.YtecpdhjangojiaaGreatDoor
