/- Lines read, one after another: the program's ReadDump. -/
import Derived.Test.YtecpdhjangojiaaGreatDoorDumpL
import Derived.Test.YtecpdhjangojiaaGreatDoorDumpI
import Derived.Test.YtecpdhjangojiaaGreatDoorObjVal
namespace Go.Proofs.YtecpdhjangojiaaGreatDoor
open Go.ChangeShapes Go.WideShapes Go.ChangeAt Go.RowKit Go.Joins
set_option linter.unusedSimpArgs false
set_option linter.unusedVariables false
set_option maxRecDepth 100000
/-- An object read from lines, and whether there is one. -/
def RetDump (w : World) (o : Option ObjD) (e : Ending) (w' : World) : Prop := ∃ r, e = .returned (.tuple #[r, .bool o.isSome]) ∧ OwnObj w' w.heap.size r (o.getD ⟨[], []⟩) ∧ Below w.heap.size w w'
theorem readF_step (f : ObjD → List UInt8 → Option ObjD) (l : List ByteArray) (k : Nat) (hk : k < l.length) (o o1 : ObjD) (h : readF f o ((l.take k).map bytesS) = some o1) : readF f o ((l.take (k + 1)).map bytesS) = f o1 (bytesS l[k]) := by
  rw [List.take_succ_eq_append_getElem hk, List.map_append, readF_append f _ _ _ _ h]
  show readF f o1 [bytesS l[k]] = _
  rw [readF_cons]
  cases f o1 (bytesS l[k]) <;> rfl
theorem readF_stop (f : ObjD → List UInt8 → Option ObjD) (l : List ByteArray) (k : Nat) (o : ObjD) (h : readF f o ((l.take k).map bytesS) = none) : readF f o (l.map bytesS) = none := by
  have e : l.map bytesS = (l.take k).map bytesS ++ (l.drop k).map bytesS := by rw [← List.map_append, List.take_append_drop]
  rw [e]
  exact readF_none f _ _ _ h
/-- Names no longer than a bound. -/
def Named (M : Nat) (o : ObjD) : Prop := (∀ s ∈ o.secs, s.name.size ≤ M) ∧ ∀ s ∈ o.syms, s.name.size ≤ M
theorem addSec_names {M : Nat} {o o1 : ObjD} {n a b c h : List UInt8} (he : addSec o n a b c h = some o1) (hn : n.length ≤ M) (ho : Named M o) : Named M o1 := by
  unfold addSec at he
  split at he
  · simp only [Option.some.injEq] at he
    subst he
    refine ⟨fun s hs => ?_, ho.2⟩
    rcases List.mem_append.1 hs with hs | hs
    · exact ho.1 s hs
    · obtain rfl := List.mem_singleton.1 hs
      show (txt n).size ≤ M
      rw [txt_size]; exact hn
  · cases he
theorem addSym_names {M : Nat} {o o1 : ObjD} {n a b c : List UInt8} (he : addSym o n a b c = some o1) (hn : n.length ≤ M) (ho : Named M o) : Named M o1 := by
  unfold addSym at he
  split at he
  · simp only [Option.some.injEq] at he
    subst he
    refine ⟨ho.1, fun s hs => ?_⟩
    rcases List.mem_append.1 hs with hs | hs
    · exact ho.2 s hs
    · obtain rfl := List.mem_singleton.1 hs
      show (txt n).size ≤ M
      rw [txt_size]; exact hn
  · cases he
theorem addFix_names {M : Nat} {o o1 : ObjD} {n a b c : List UInt8} (he : addFix o n a b c = some o1) (ho : Named M o) : Named M o1 := by
  unfold addFix at he
  split at he
  · split at he
    · cases he
    · simp only [Option.some.injEq] at he
      subst he
      refine ⟨fun s hs => ?_, ho.2⟩
      have hs : s ∈ addLast o.secs _ := hs
      unfold addLast at hs
      split at hs
      · exact ho.1 s hs
      · rename_i y hy
        rcases List.mem_append.1 hs with hs | hs
        · exact ho.1 s (List.dropLast_subset _ hs)
        · obtain rfl := List.mem_singleton.1 hs
          exact ho.1 y (List.mem_of_getLast? hy)
  · cases he
theorem wordsI_names {M : Nat} {o o1 : ObjD} (ho : Named M o) : ∀ ws : List (List UInt8), (∀ x ∈ ws, x.length ≤ M) → wordsI o ws = some o1 → Named M o1
  | [], _, h => by cases h
  | [_], _, h => by cases h
  | [_, _], _, h => by cases h
  | [_, _, _], _, h => by cases h
  | [_, _, _, _], _, h => by cases h
  | [w, n, a, b, c], hx, h => by
    have h : (if w = secT then addSec o n a b c [] else if w = fixT then addFix o n a b c else if w = symT then addSym o n a b c else none) = some o1 := h
    have hn := hx n (by simp)
    split at h
    · exact addSec_names h hn ho
    · split at h
      · exact addFix_names h ho
      · split at h
        · exact addSym_names h hn ho
        · cases h
  | [w, n, a, b, c, d], hx, h => by
    have h : (if w = secT then addSec o n a b c d else none) = some o1 := h
    split at h
    · exact addSec_names h (hx n (by simp)) ho
    · cases h
  | _ :: _ :: _ :: _ :: _ :: _ :: _ :: _, _, h => by cases h
theorem lineI_names {M : Nat} {o o1 : ObjD} {l : List UInt8} (h : lineI o l = some o1) (hl : l.length ≤ M) (ho : Named M o) : Named M o1 :=
  wordsI_names ho (wordsL l) (fun x hx => Nat.le_trans (wordsL_le l x hx) hl) h
theorem bytesS_length (s : ByteArray) : (bytesS s).length = s.size := Array.length_toList
theorem ownObj_zero0 (u : World) (B : Nat) : OwnObj u B (.agg #[.slice none 0 0, .slice none 0 0]) ⟨[], []⟩ :=
  ⟨_, _, [], rfl, rfl, ⟨World.ownsRow_nil _ _ _ _, (fun x hx => by cases hx), by simp [blksOf, Value.ownBlock]⟩, World.ownsRow_nil _ _ _ _, fun k hk => by cases hk⟩
theorem ownObj_low {u : World} {X B b : Nat} {v a c : Value} {o : ObjD} (h : OwnObj u B v o) (hX : X < B) (hb : b ≤ B) : OwnObj ((u.setCell ⟨X, 0, none⟩ a).setCell ⟨X, 1, none⟩ c) b v o := by
  obtain ⟨vs, vy, ls, rfl, h1, h2, h3, h4⟩ := h
  have ho : Other [X] u ((u.setCell ⟨X, 0, none⟩ a).setCell ⟨X, 1, none⟩ c) := (Other.setCell (p := ⟨X, 0, none⟩) (by simp) a).trans (Other.setCell (p := ⟨X, 1, none⟩) (by simp) c)
  have h5 : OwnSecs ((u.setCell ⟨X, 0, none⟩ a).setCell ⟨X, 1, none⟩ c) B vs ls := h2.other ho fun k hk hm => by
    obtain rfl := List.mem_singleton.1 hm
    have := (h2.lt _ hk).1; omega
  refine ⟨vs, vy, ls, rfl, h1, h5.mono hb, owns_mono (owns_other h3 ho fun k hk hm => ?_) hb, h4⟩
  obtain rfl := List.mem_singleton.1 hm
  have := (World.ownsRow.lt h3 k hk).1; omega
/-- Two slices of texts compared. -/
theorem equal_call (w : World) (v1 v2 : Value) (l1 l2 : List ByteArray) (h1 : StrsAt w v1 l1) (h2 : StrsAt w v2 l2) :
    Calls Tryz.prog 26 #[v1, v2] w fun e w' => e = .returned (.bool (decide (l1 = l2))) ∧ Below w.heap.size w w' := by
  obtain ⟨a1, c1, rfl, hc1, hm1, -, hg1⟩ := h1.form
  obtain ⟨a2, c2, rfl, hc2, hm2, -, hg2⟩ := h2.form
  unfold maxLen at hm1 hm2
  by_cases hl : l1.length = l2.length
  · by_cases h0 : l2.length = 0
    · have e1 := List.eq_nil_of_length_eq_zero (hl.trans h0)
      have e2 := List.eq_nil_of_length_eq_zero h0
      subst e1 e2
      refine (Any.slices_Equal_string_empty Tryz.lays193 a1 a2 c1 0 c2 w (by decide)).mono ?_
      rintro e w' ⟨rfl, rfl⟩
      exact ⟨by simp, Below.refl _ _⟩
    · obtain ⟨b1, o1, rfl, g1⟩ := hg1 (by omega)
      obtain ⟨b2, o2, rfl, g2⟩ := hg2 (by omega)
      refine (Any.slices_Equal_string Tryz.lays193 b1 o1 l1.length c1 b2 o2 l2.length c2 l1 l2 w (Nat.le_refl _) (Nat.le_refl _) (by omega) (by omega) (fun j hj => ?_) (fun j hj => ?_)).mono ?_
      · rw [g1 j hj, List.getD_eq_getElem?_getD, List.getElem?_eq_getElem hj]; rfl
      · rw [g2 j hj, List.getD_eq_getElem?_getD, List.getElem?_eq_getElem hj]; rfl
      · rintro e w' ⟨rfl, q, rfl⟩
        exact ⟨by rw [List.take_length, List.take_length], ((From.start w).drewN q).below⟩
  · refine (Any.slices_Equal_string_lens Tryz.lays193 a1 a2 l1.length c1 l2.length c2 w hl).mono ?_
    rintro e w' ⟨rfl, rfl⟩
    have : ¬ l1 = l2 := fun e => hl (by rw [e])
    exact ⟨by rw [decide_eq_false this], Below.refl _ _⟩
set_option maxHeartbeats 4000000 in
theorem i_ReadDump (w : World) (v : Value) (l : List ByteArray) (h : StrsAt w v l) (hs : ∀ s ∈ l, s.size ≤ 1073741824) (hl : l.length ≤ 1073741824) (he : Env w) :
    Calls Tryz.prog 6 #[v] w (RetDump w (readD lineI (l.map bytesS))) := by
  have HS := Lib.hid hs
  have HE := Lib.hid he
  have HV0 := Lib.hid h
  obtain ⟨a, cap, rfl, hcap, hmax, -, hcell⟩ := h.form
  have HC := Lib.hid hcell
  clear h hcell hs he
  unfold maxLen at hmax
  obtain ⟨n, hn⟩ : ∃ n, l.length = n := ⟨_, rfl⟩
  rw [hn] at hcap hl ⊢
  have HN := Lib.hid hn
  clear hn
  go_enter Tryz.func6, Tryz.ntmps6
  go_wp2_with fail
  obtain ⟨X, hX⟩ : ∃ X, w.heap.size = X := ⟨_, rfl⟩
  have hsz : (w.alloc (.cells #[.slice none 0 0, .slice none 0 0] 28)).heap.size = X + 1 := by rw [← hX]; simp
  have HR0 := Lib.hid ((Blk.newAt w #[.slice none 0 0, .slice none 0 0] 28 X hX.symm).alloc (.cells #[.slice none 0 0, .slice none 0 0] 28))
  have HB0 := Lib.hid (Blk.newAt (w.alloc (.cells #[.slice none 0 0, .slice none 0 0] 28)) #[.slice none 0 0, .slice none 0 0] 28 (X + 1) hsz.symm)
  have HF0 := Lib.hid (((From.start w).alloc (.cells #[.slice none 0 0, .slice none 0 0] 28)).alloc (.cells #[.slice none 0 0, .slice none 0 0] 28))
  have hsz2 : ((w.alloc (.cells #[.slice none 0 0, .slice none 0 0] 28)).alloc (.cells #[.slice none 0 0, .slice none 0 0] 28)).heap.size = X + 2 := by rw [← hX]; simp
  rw [hX] at HF0
  generalize hw0 : (w.alloc (.cells #[.slice none 0 0, .slice none 0 0] 28)).alloc (.cells #[.slice none 0 0, .slice none 0 0] 28) = w0 at *
  have HX0 : Hid (BoxO w0 (X + 1) (X + 2) ⟨[], []⟩) := ⟨_, _, [], HB0.out, rfl, ⟨World.ownsRow_nil _ _ _ _, (fun x hx => by cases hx), by simp [blksOf, Value.ownBlock]⟩, World.ownsRow_nil _ _ _ _, by omega, by omega⟩
  clear hw0 HB0 hsz hsz2
  try simp only [hX]
  go_loopw [10] (fun i wr => ∃ (k : Nat) (o : ObjD), k ≤ n ∧ i = .int .i64 (k : Int) ∧ Hid (readF lineI ⟨[], []⟩ ((l.take k).map bytesS) = some o) ∧ Hid (BoxO wr (X + 1) (X + 2) o) ∧ Hid (Few k o) ∧ Hid (Named 1073741824 o) ∧ Hid (Blk wr X #[.slice none 0 0, .slice none 0 0] 28) ∧ Hid (From X w wr)) (fun i _ => n - (intOf i).toNat)
  case atStart => exact ⟨0, ⟨[], []⟩, Nat.zero_le _, rfl, rfl, HX0, ⟨Nat.zero_le _, Nat.zero_le _, (fun s hs => by cases hs)⟩, ⟨(fun s hs => by cases hs), (fun s hs => by cases hs)⟩, HR0, HF0⟩
  case round =>
    clear HX0 HR0 HF0
    obtain ⟨k, o, hk, rfl, HRF, HX, HW, HNM, HR, HF⟩ := hrel
    by_cases hlt : k < n
    · have i1 : (k : Int) < (n : Int) := by omega
      have i0 : (0 : Int) ≤ (k : Int) := by omega
      have hlt' : k < l.length := by have := HN.out; omega
      obtain ⟨b, off, rfl, hc⟩ := HC.out (by omega)
      have hF : Below w.heap.size w wr := by rw [hX]; exact HF.out.below
      have hck := hc k hlt'
      have g0 := (hF.cell (p := ⟨b, off + k, none⟩) (World.block_lt_of_cell? w _ hck)).trans hck
      clear hc hck
      have hsk := HS.out _ (List.getElem_mem hlt')
      have HEr := Lib.hid (HE.out.call hF)
      obtain ⟨oo, hoo⟩ : ∃ oo, lineI o (bytesS l[k]) = oo := ⟨_, rfl⟩
      have HST := Lib.hid (readF_step lineI l k hlt' _ _ HRF.out)
      rw [hoo] at HST
      have HNX : Hid (∀ o1, oo = some o1 → Named 1073741824 o1) := fun o1 h1 => lineI_names (hoo.trans h1) (by rw [bytesS_length]; exact hsk) HNM.out
      have HOO := Lib.hid hoo
      clear hF hoo
      generalize l[k] = x at *
      go_wp2_with fail
      refine (i_readLine wr (X + 1) (X + 2) k o HX.out HW.out (by omega) x hsk HEr.out).mono ?_
      rw [HOO.out]
      rintro e w1 ⟨rfl, hst, hbw⟩
      have HR := Lib.hid (HR.out.below hbw (Nat.lt_succ_self X))
      have HF := Lib.hid (HF.out.trans (hbw.mono (Nat.le_succ X)))
      have HST2 := Lib.hid hst
      clear hst hbw g0
      cases oo with
      | none =>
        have HD : Hid (readD lineI (l.map bytesS) = none) := by
          show _ = _
          unfold readD
          rw [readF_stop lineI l (k + 1) _ HST.out]
        have cR := HR.out.cell
        have zR := HR.out.lt
        have fR := HR.out.frozen
        simp only [Option.isSome_none]
        go_wp2_with fail
        refine bodyPost_ret (v := .tuple #[.agg #[.slice none 0 0, .slice none 0 0], .bool false]) (by simp [results, Tryz.results6, go_sem, cR, zR]) rfl ⟨_, by rw [HD.out]; rfl, by rw [HD.out]; exact ownObj_zero0 _ _, ?_⟩
        rw [hX]
        exact ((HF.out.setCell (p := ⟨X, 0, none⟩) (Nat.le_refl X) _).setCell (p := ⟨X, 1, none⟩) (Nat.le_refl X) _).below
      | some o1 =>
        simp only [Option.isSome_some]
        obtain ⟨hx1, hw1⟩ := HST2.out o1 rfl
        have HX1 := Lib.hid hx1
        have HW1 := Lib.hid hw1
        clear hx1 hw1 HST2
        go_wp2_with fail
        go_roundw
        case rel => exact ⟨k + 1, o1, by omega, by go_num, HST, HX1, HW1, HNX.out o1 rfl, HR, HF⟩
        case measure => simp [intOf]; try omega
    · obtain rfl : n = k := by omega
      have HRA : Hid (readF lineI ⟨[], []⟩ (l.map bytesS) = some o) := by
        show _ = _
        have h9 := HRF.out
        rw [List.take_of_length_le (Nat.le_of_eq HN.out)] at h9
        exact h9
      obtain ⟨vs, vy, LS, hb, ho, hs9, hy, -, hBs⟩ := HX.out
      obtain ⟨n1, hn1⟩ : ∃ m, LS.length = m := ⟨_, rfl⟩
      obtain ⟨n2, hn2⟩ : ∃ m, o.syms.length = m := ⟨_, rfl⟩
      obtain ⟨sa, sc, rfl⟩ : ∃ sa sc, vs = .slice sa n1 sc := by rw [← hn1]; exact owns_form hs9.row
      obtain ⟨ya, yc, rfl⟩ : ∃ ya yc, vy = .slice ya n2 yc := by rw [← hn2]; exact owns_form hy
      have HOA : Hid (∀ u, Below wr.heap.size wr u → OwnObj u (X + 2) (.agg #[.slice sa n1 sc, .slice ya n2 yc]) o) := fun u hu =>
        OwnObj.call ⟨_, _, LS, rfl, ho, hs9, hy, fun k' hk' hm => by
          rcases List.mem_append.1 hm with hm | hm
          · exact owns_ne hy hs9.row (by decide) k' hk' (by simpa using hm)
          · obtain ⟨y, hy', hm⟩ := List.mem_flatMap.1 hm
            rcases List.mem_append.1 hm with hm | hm
            · exact owns_ne hy (hs9.each y hy').1 (by decide) k' hk' (by simpa using hm)
            · exact owns_ne hy (hs9.each y hy').2 (by decide) k' hk' (by simpa using hm)⟩ hu
      have HNS : Hid ((∀ s ∈ o.secs, s.name.size ≤ maxLen) ∧ ∀ s ∈ o.syms, s.name.size ≤ maxLen) := ⟨fun s h => by have := HNM.out.1 s h; unfold maxLen; omega, fun s h => by have := HNM.out.2 s h; unfold maxLen; omega⟩
      have HBX := Lib.hid hb
      have cB := HBX.out.cell
      have zB := HBX.out.lt
      obtain ⟨ob, hob⟩ : ∃ ob, objB o = ob := ⟨_, rfl⟩
      have HOB := Lib.hid hob
      clear hb ho hs9 hy hn1 hn2 hob
      go_wp2_with fail
      refine (i_ObjectValid wr _ o (HOA.out wr (Below.refl _ _)).reads HNS.out).mono ?_
      rw [HOB.out]
      rintro e w1 ⟨rfl, k1⟩
      have HR := Lib.hid (HR.out.call k1)
      have HF := Lib.hid (HF.out.call k1)
      have HBX := Lib.hid (HBX.out.call k1)
      clear cB zB
      cases ob with
      | false =>
        have HD : Hid (readD lineI (l.map bytesS) = none) := by
          show _ = _
          unfold readD
          rw [HRA.out]
          simp [HOB.out]
        have cR := HR.out.cell
        have zR := HR.out.lt
        have fR := HR.out.frozen
        have cB := HBX.out.cell
        have zB := HBX.out.lt
        go_wp2_with fail
        refine bodyPost_ret (v := .tuple #[.agg #[.slice none 0 0, .slice none 0 0], .bool false]) (by simp [results, Tryz.results6, go_sem, cR, zR]) rfl ⟨_, by rw [HD.out]; rfl, by rw [HD.out]; exact ownObj_zero0 _ _, ?_⟩
        rw [hX]
        exact ((HF.out.setCell (p := ⟨X, 0, none⟩) (Nat.le_refl X) _).setCell (p := ⟨X, 1, none⟩) (Nat.le_refl X) _).below
      | true =>
        have cB := HBX.out.cell
        have zB := HBX.out.lt
        have HEr := Lib.hid (HE.out.call (w' := w1) (by rw [hX]; exact HF.out.below))
        go_wp2_with fail
        refine (i_DumpObject w1 _ o (HOA.out w1 k1).reads HNS.out HEr.out.tab).mono ?_
        rintro e w2 ⟨r, rfl, hr, k2⟩
        have HR := Lib.hid (HR.out.call k2)
        have HF := Lib.hid (HF.out.call k2)
        have HBX := Lib.hid (HBX.out.call k2)
        have HOA2 := Lib.hid ((HOA.out w1 k1).call k2)
        have HRR := Lib.hid (OwnS.reads hr)
        have HVV : Hid (StrsAt w2 (.slice a n cap) l) := by
          have h9 := HV0.out
          rw [HN.out] at h9
          exact h9.below (Nat.le_refl _) (by rw [hX]; exact HF.out.below)
        clear cB zB hr k1 k2 HOA HEr
        go_wp2_with fail
        refine (equal_call w2 r (.slice a n cap) ((dumpL o).map txt) l HRR.out HVV.out).mono ?_
        obtain ⟨eb, heb⟩ : ∃ eb, decide ((dumpL o).map txt = l) = eb := ⟨_, rfl⟩
        rw [heb]
        have HEB := Lib.hid heb
        rintro e w3 ⟨rfl, k3⟩
        have HR := Lib.hid (HR.out.call k3)
        have HF := Lib.hid (HF.out.call k3)
        have HBX := Lib.hid (HBX.out.call k3)
        have HOA3 := Lib.hid (HOA2.out.call k3)
        clear heb k3 HOA2 HRR HVV
        have hlx : (dumpL o).map txt = l ↔ dumpL o = l.map bytesS := by
          constructor
          · intro h; rw [← h, List.map_map]; simp [Function.comp_def, bytesS_txt]
          · intro h; rw [h, List.map_map]; simp [Function.comp_def, txt_bytesS]
        have HLX := Lib.hid hlx
        clear hlx
        have cR := HR.out.cell
        have zR := HR.out.lt
        have fR := HR.out.frozen
        have cB := HBX.out.cell
        have zB := HBX.out.lt
        cases eb with
        | false =>
          have HD : Hid (readD lineI (l.map bytesS) = none) := by
            show _ = _
            unfold readD
            rw [HRA.out]
            have h9 := of_decide_eq_false HEB.out
            show (if objB o = true ∧ dumpL o = l.map bytesS then some o else none) = none
            rw [if_neg (fun h => h9 (HLX.out.2 h.2))]
          go_wp2_with fail
          refine bodyPost_ret (v := .tuple #[.agg #[.slice none 0 0, .slice none 0 0], .bool false]) (by simp [results, Tryz.results6, go_sem, cR, zR]) rfl ⟨_, by rw [HD.out]; rfl, by rw [HD.out]; exact ownObj_zero0 _ _, ?_⟩
          rw [hX]
          exact ((HF.out.setCell (p := ⟨X, 0, none⟩) (Nat.le_refl X) _).setCell (p := ⟨X, 1, none⟩) (Nat.le_refl X) _).below
        | true =>
          have HD : Hid (readD lineI (l.map bytesS) = some o) := by
            show _ = _
            unfold readD
            rw [HRA.out]
            show (if objB o = true ∧ dumpL o = l.map bytesS then some o else none) = some o
            rw [if_pos ⟨HOB.out, HLX.out.1 (of_decide_eq_true HEB.out)⟩]
          go_wp2_with fail
          refine bodyPost_ret (v := .tuple #[.agg #[.slice sa n1 sc, .slice ya n2 yc], .bool true]) (by simp [results, Tryz.results6, go_sem, cR, zR]) rfl ⟨_, by rw [HD.out]; rfl, by rw [HD.out]; exact ownObj_low (X := X) HOA3.out (by omega) (by omega), ?_⟩
          rw [hX]
          exact ((HF.out.setCell (p := ⟨X, 0, none⟩) (Nat.le_refl X) _).setCell (p := ⟨X, 1, none⟩) (Nat.le_refl X) _).below
end Go.Proofs.YtecpdhjangojiaaGreatDoor
