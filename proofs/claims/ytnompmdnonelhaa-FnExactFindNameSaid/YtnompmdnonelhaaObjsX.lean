/- Slices of objects: copied, compared, measured. -/
import Derived.Test.YtnompmdnonelhaaObjX
import Derived.Test.YtnompmdnonelhaaObjs
namespace Go.Proofs.Ytnompmdnonelhaa
open Go.ChangeShapes Go.WideShapes Go.ChangeAt Go.RowKit Go.Joins
set_option linter.unusedSimpArgs false
set_option linter.unusedVariables false
set_option maxRecDepth 100000
theorem set_two (a b z0 z1 : Value) (R : List Value) : ∀ (A : List Value), ((A ++ z0 :: z1 :: R).set A.length a).set (A.length + 1) b = A ++ a :: b :: R
  | [] => rfl
  | x :: r => by
    have ih := set_two a b z0 z1 R r
    simp only [List.cons_append, List.length_cons, List.set_cons_succ, ih]
theorem info_obj : (Try.prog.info? 41).map (fun i => (i.zero, i.size, i.bytes)) = some (some (.agg #[.slice none 0 0, .slice none 0 0]), 2, 48) := by kernel_rfl
/-- The parts of an object in blocks of the call's own. -/
def OwnParts (w : World) (base : Nat) (x : ObjD × Value × Value) : Prop := ∃ m, x.1.secs = m.map (·.1) ∧ OwnSecs w base x.2.1 m ∧ OwnSyms w base x.2.2 x.1.syms
theorem OwnParts.call {w w' : World} {base : Nat} {x : ObjD × Value × Value} (h : OwnParts w base x) (hb : Below w.heap.size w w') : OwnParts w' base x := by
  obtain ⟨m, h1, h2, h3⟩ := h
  exact ⟨m, h1, h2.call hb, owns_call h3 hb⟩
theorem OwnParts.setBelow {w : World} {base : Nat} {x : ObjD × Value × Value} (h : OwnParts w base x) {a : Addr} (ha : a.block < base) (u : Value) : OwnParts (w.setCell a u) base x := by
  obtain ⟨m, h1, h2, h3⟩ := h
  exact ⟨m, h1, h2.setBelow ha u, ownsRow_setCell_below h3 ha u⟩
theorem OwnParts.reads {w : World} {base : Nat} {x : ObjD × Value × Value} (h : OwnParts w base x) : SecsAt w x.2.1 x.1.secs ∧ SymsAt w x.2.2 x.1.syms := by
  obtain ⟨m, h1, h2, h3⟩ := h
  exact ⟨by rw [h1]; exact h2.at, h3.reads⟩
theorem OwnObj.parts {w : World} {base base' : Nat} {v : Value} {o : ObjD} (h : OwnObj w base v o) (hb : base' ≤ base) :
    ∃ sa sc ya yc, v = .agg #[.slice sa o.secs.length sc, .slice ya o.syms.length yc] ∧ OwnParts w base' (o, .slice sa o.secs.length sc, .slice ya o.syms.length yc) := by
  obtain ⟨vs, vy, ls, rfl, h1, h2, h3, -⟩ := h
  obtain ⟨sa, sc, rfl⟩ := owns_form h2.row
  obtain ⟨ya, yc, rfl⟩ := owns_form h3
  have hl : ls.length = o.secs.length := by rw [h1, List.length_map]
  rw [hl]
  exact ⟨sa, sc, ya, yc, rfl, ls, h1, by have := h2.mono hb; rw [hl] at this; exact this, owns_mono h3 hb⟩
/-- Objects that can be read and are the call's own. -/
def RetObjs (w : World) (l : List ObjD) (e : Ending) (w' : World) : Prop := ∃ r, e = .returned r ∧ ObjsAt w' r l ∧ Below w.heap.size w w'
set_option maxHeartbeats 1000000 in
theorem toObjectS_any (w : World) (v : Value) (l : List ObjD) (h : ObjsAt w v l) (hl : l.length ≤ 1048576) (hf : ∀ o ∈ l, FewObj o) :
    Calls Try.prog 52 #[v] w (RetObjs w l) := by
  obtain ⟨a, cap, rfl, hcap, hmax, hnone, hcell⟩ := h.each
  obtain ⟨i0, hi, hz0, hz1, hz2⟩ := info_parts info_obj
  have HH := Lib.hid hcell
  have HB := Lib.hid hf
  clear h hcell hnone hf
  go_enter Try.func52, Try.ntmps52
  go_wp2_with (at_make; refine wpList_make_full _ rfl _ _ 44 rfl w.heap.size 41 i0 _ 2 Try.underlying44 hi hz0 hz1 _ _ _ _ l.length rfl rfl rfl rfl ?c1 ?c2 ?c3 ?_)
  case c1 => rw [hz2]; omega
  case c2 => unfold maxLen; omega
  case c3 => exact Nat.le_refl _
  intro w1 hown hgr
  have F1 := (From.start w).grown hgr (fun k h => by cases h)
  have HO1 : Hid (w1.ownsRow w.heap.size 41 2 (.slice (some ⟨w.heap.size, 0, none⟩) l.length l.length) l.length (([] : List (ObjD × Value × Value)).flatMap objL ++ (List.replicate (l.length - 0) ()).flatMap fun _ => [.slice none 0 0, .slice none 0 0])) := Lib.hid (by
    have := hown
    rw [toList_madeK _ 2 rfl (by decide)] at this
    simpa using this)
  clear hgr hown
  go_wp2_with fail
  go_loopw [4] (fun i wr => ∃ (k : Nat) (ls : List (ObjD × Value × Value)), k ≤ l.length ∧ i = .int .i64 k ∧ Hid (l.take k = ls.map (·.1)) ∧
      Hid (wr.ownsRow w.heap.size 41 2 (.slice (some ⟨w.heap.size, 0, none⟩) l.length l.length) l.length (ls.flatMap objL ++ (List.replicate (l.length - k) ()).flatMap fun _ => [.slice none 0 0, .slice none 0 0])) ∧
      Hid (∀ x ∈ ls, OwnParts wr (w.heap.size + 1) x) ∧ Hid (From w.heap.size w wr)) (fun i _ => l.length - (intOf i).toNat)
  case atStart => exact ⟨0, [], Nat.zero_le _, rfl, by show _ = _; simp, HO1, (fun x hx => by cases hx), F1⟩
  case round =>
    clear HO1 F1
    obtain ⟨k, ls, hk, rfl, HL, HO, HE, HF⟩ := hrel
    by_cases hlt : k < l.length
    · obtain ⟨b, off, rfl, hc⟩ := HH.out (by omega)
      obtain ⟨sa, sc, ya, yc, ho, c0, c1⟩ := hc k hlt
      have hbl : b < w.heap.size := World.block_lt_of_cell? w _ c0
      have g0 := (HF.out.below.cell (p := ⟨b, off + k * 2, none⟩) hbl).trans c0
      have g1 := (HF.out.below.cell (p := ⟨b, off + k * 2 + 1, none⟩) hbl).trans c1
      have HS := Lib.hid (ho.below (Nat.le_refl _) HF.out.below)
      have HT : Hid (l.take (k + 1) = ls.map (·.1) ++ [l[k]]) := by show _ = _; rw [List.take_succ_eq_append_getElem hlt, HL.out]
      have HBk := Lib.hid (HB.out l[k] (List.getElem_mem hlt))
      have hlen : ls.length = k := by have := congrArg List.length HL.out; simp at this; omega
      have HLen := Lib.hid hlen
      clear hc c0 c1 ho HL hlen
      generalize l[k] = x at *
      obtain ⟨n1, hn1⟩ : ∃ n1, x.secs.length = n1 := ⟨_, rfl⟩
      obtain ⟨n2, hn2⟩ : ∃ n2, x.syms.length = n2 := ⟨_, rfl⟩
      have HN1 := Lib.hid hn1
      have HN2 := Lib.hid hn2
      rw [hn1] at g0 HS
      rw [hn2] at g1 HS
      clear hn1 hn2
      go_wp2_with fail
      refine (toObject_any _ _ x HS.out HBk.out).mono ?_
      rintro e w2 ⟨r, rfl, o2, h2⟩
      have zr : w.heap.size < wr.heap.size := (HO.out.lt _ rfl).2
      obtain ⟨ra, rc, rb, rd, rfl, hp⟩ := o2.parts (base' := w.heap.size + 1) (by omega)
      rw [HN1.out, HN2.out] at hp ⊢
      have HF2 := Lib.hid (HF.out.call h2)
      have hown2 := owns_call HO.out h2
      have HO2 := Lib.hid hown2
      have hcells : ∀ j, j < 2 → ∃ u, w2.cell? ⟨w.heap.size, k * 2 + j, none⟩ = some u := fun j hj =>
        ⟨_, (hown2.cellAt (k * 2 + j) (by omega)).trans (List.getElem?_eq_getElem (by rw [hown2.1]; omega))⟩
      obtain ⟨u0, d0⟩ := hcells 0 (by omega)
      rw [Nat.add_zero] at d0
      obtain ⟨u1, d1⟩ := hcells 1 (by omega)
      have f0 := hown2.frozenAt (k * 2)
      have f1 := hown2.frozenAt (k * 2 + 1)
      have HE2 : Hid (∀ y ∈ ls ++ [(x, Value.slice ra n1 rc, Value.slice rb n2 rd)], OwnParts w2 (w.heap.size + 1) y) := fun y hy => by
        rcases List.mem_append.1 hy with hy | hy
        · exact (HE.out y hy).call h2
        · obtain rfl := List.mem_singleton.1 hy
          exact hp
      clear g0 g1 HF HO h2 hown2 hcells o2 hp HE
      go_wp2_with fail
      go_roundw
      case rel =>
        refine ⟨k + 1, ls ++ [(x, .slice ra n1 rc, .slice rb n2 rd)], by omega, by go_num, ?_, ?_, ?_, ?_⟩
        · show _ = _; rw [HT.out]; simp
        · show World.ownsRow _ _ _ _ _ _ _
          have h6 := ((HO2.out.stored (k * 2) (.slice ra n1 rc)).1.stored (k * 2 + 1) (.slice rb n2 rd)).1
          rw [show l.length - k = (l.length - (k + 1)) + 1 by omega, List.replicate_succ, List.flatMap_cons] at h6
          have hA : (ls.flatMap objL).length = k * 2 := by rw [flat_length _ _ objL_length, HLen.out]
          have := set_two (.slice ra n1 rc) (.slice rb n2 rd) (.slice none 0 0) (.slice none 0 0) ((List.replicate (l.length - (k + 1)) ()).flatMap fun _ => [.slice none 0 0, .slice none 0 0]) (ls.flatMap objL)
          rw [hA] at this
          simp only [List.cons_append, List.nil_append] at h6
          rw [this] at h6
          rw [List.flatMap_append, List.append_assoc]
          exact h6
        · intro y hy
          have q : w.heap.size < w.heap.size + 1 := Nat.lt_succ_self _
          exact ((HE2.out y hy).setBelow q _).setBelow q _
        · exact ((HF2.out.setCell (Nat.le_refl _) _).setCell (Nat.le_refl _) _)
      case measure => simp [intOf]; try omega
    · obtain rfl : k = l.length := by omega
      go_wp2_with fail
      go_ret
      have hlen : ls.length = l.length := by have := congrArg List.length HL.out; simp at this; omega
      refine ⟨_, rfl, ⟨ls, by rw [← HL.out, List.take_length], ?_, fun x hx => (HE.out x hx).reads⟩, HF.out.below⟩
      have := HO.out
      rw [Nat.sub_self, List.replicate_zero, List.flatMap_nil, List.append_nil] at this
      rw [hlen]
      exact reads_of_owns this
set_option maxHeartbeats 1000000 in
theorem eqObjectS_same (w : World) (v1 v2 : Value) (l : List ObjD) (h1 : ObjsAt w v1 l) (h2 : ObjsAt w v2 l) :
    Calls Try.prog 53 #[v1, v2] w fun e w' => e = .returned (.bool true) ∧ Below w.heap.size w w' := by
  obtain ⟨a1, cap1, rfl, hcap1, hmax1, hnone1, hcell1⟩ := h1.each
  obtain ⟨a2, cap2, rfl, hcap2, hmax2, hnone2, hcell2⟩ := h2.each
  have H1 := Lib.hid hcell1
  have H2 := Lib.hid hcell2
  clear h1 h2 hcell1 hcell2 hnone1 hnone2
  unfold maxLen at hmax1 hmax2
  go_enter Try.func53, Try.ntmps53
  go_wp2_with fail
  go_loopw [5] (fun i wr => ∃ k : Nat, k ≤ l.length ∧ i = .int .i64 k ∧ Hid (From w.heap.size w wr)) (fun i _ => l.length - (intOf i).toNat)
  case atStart => exact ⟨0, Nat.zero_le _, rfl, From.start w⟩
  case round =>
    obtain ⟨k, hk, rfl, HF⟩ := hrel
    by_cases hlt : k < l.length
    · obtain ⟨b1, off1, rfl, hc1⟩ := H1.out (by omega)
      obtain ⟨b2, off2, rfl, hc2⟩ := H2.out (by omega)
      obtain ⟨sa1, sc1, ya1, yc1, ho1, c0, c1⟩ := hc1 k hlt
      obtain ⟨sa2, sc2, ya2, yc2, ho2, e0, e1⟩ := hc2 k hlt
      have l1 : b1 < w.heap.size := World.block_lt_of_cell? w _ c0
      have l2 : b2 < w.heap.size := World.block_lt_of_cell? w _ e0
      have g0 := (HF.out.below.cell (p := ⟨b1, off1 + k * 2, none⟩) l1).trans c0
      have g1 := (HF.out.below.cell (p := ⟨b1, off1 + k * 2 + 1, none⟩) l1).trans c1
      have d0 := (HF.out.below.cell (p := ⟨b2, off2 + k * 2, none⟩) l2).trans e0
      have d1 := (HF.out.below.cell (p := ⟨b2, off2 + k * 2 + 1, none⟩) l2).trans e1
      have i1 : (k : Int) < (l.length : Int) := by omega
      have i3 : (0 : Int) ≤ (k : Int) := by omega
      have HS1 := Lib.hid ho1
      have HS2 := Lib.hid ho2
      clear hc1 hc2 c0 c1 e0 e1 ho1 ho2
      generalize l[k] = x at *
      obtain ⟨n1, hn1⟩ : ∃ n1, x.secs.length = n1 := ⟨_, rfl⟩
      obtain ⟨n2, hn2⟩ : ∃ n2, x.syms.length = n2 := ⟨_, rfl⟩
      rw [hn1] at g0 d0 HS1 HS2
      rw [hn2] at g1 d1 HS1 HS2
      clear hn1 hn2
      go_wp2_with fail
      go_still_tail 8, (by kernel_rfl)
      change wpList _ _ _ _ _ wr.drew
      have HFd := Lib.hid HF.out.drew
      clear g0 g1 d0 d1 HF
      generalize wr.drew = w2 at HFd ⊢
      go_wp2_with fail
      refine (eqObject_same w2 _ _ x (HS1.out.below (Nat.le_refl _) HFd.out.below) (HS2.out.below (Nat.le_refl _) HFd.out.below)).mono ?_
      rintro e w3 ⟨rfl, h3⟩
      have HF3 := Lib.hid (HFd.out.call h3)
      clear h3 HFd
      go_wp2_with fail
      go_roundw
      case rel => exact ⟨k + 1, by omega, by go_num, HF3⟩
      case measure => simp [intOf]; try omega
    · obtain rfl : k = l.length := by omega
      go_wp2_with fail
      go_ret
      exact ⟨rfl, HF.out.below⟩
def objsCost : List ObjD → Int
  | [] => 0
  | s :: r => objCost s + objsCost r
theorem objsCost_nonneg : ∀ l, 0 ≤ objsCost l
  | [] => Int.le_refl _
  | s :: r => by have := objCost_nonneg s; have := objsCost_nonneg r; unfold objsCost; omega
theorem objsCost_mem : ∀ {l : List ObjD} {s : ObjD}, s ∈ l → objCost s ≤ objsCost l
  | x :: r, s, h => by
    have h1 := objCost_nonneg x
    have h2 := objsCost_nonneg r
    unfold objsCost
    rcases List.mem_cons.1 h with rfl | h
    · omega
    · have := objsCost_mem h; omega
theorem few_objs {l : List ObjD} (h : objsCost l ≤ 1048576) : ∀ o ∈ l, FewObj o := fun o ho => few_obj (by have := objsCost_mem ho; omega)
set_option maxHeartbeats 1000000 in
theorem szObjectS_any (w : World) (v : Value) (l : List ObjD) (h : ObjsAt w v l) (hs : ObjsLen l) (left : Int) (h0 : 0 ≤ left) (h1 : left ≤ 1048576) :
    Calls Try.prog 51 #[v, .int .i64 left] w fun e w' => e = .returned (.int .i64 (szV left ((l.length : Int) + objsCost l))) ∧ Below w.heap.size w w' := by
  obtain ⟨a, cap, rfl, hcap, hmax, hnone, hcell⟩ := h.each
  have HC := Lib.hid hcell
  have HS := Lib.hid hs
  clear h hcell hnone hs
  unfold maxLen at hmax
  by_cases q1 : (l.length : Int) ≤ left
  case neg =>
    have q2 : left < (l.length : Int) := by omega
    have E : Hid (szV left ((l.length : Int) + objsCost l) = -1) := szV_over (objsCost_nonneg l) q1
    clear q1
    go_enter Try.func51, Try.ntmps51
    go_wp2_with fail
    go_ret
    exact ⟨by rw [E.out]; try rfl, (From.start w).below⟩
  have E0 : Hid (szV left ((l.length : Int) + objsCost l) = szV (left - (l.length : Int)) (objsCost (l.drop 0))) := by show _ = _; rw [szV_plus (by omega) (objsCost_nonneg l) q1]; rfl
  go_enter Try.func51, Try.ntmps51
  go_wp2_with fail
  go_loopw [1, 5] (fun lv i wr => ∃ (k : Nat) (L : Int), k ≤ l.length ∧ i = .int .i64 k ∧ lv = .int .i64 L ∧ 0 ≤ L ∧ L ≤ 1048576 ∧ Hid (szV left ((l.length : Int) + objsCost l) = szV L (objsCost (l.drop k))) ∧ Hid (From w.heap.size w wr)) (fun _ i _ => l.length - (intOf i).toNat)
  case atStart => exact ⟨0, left - (l.length : Int), Nat.zero_le _, rfl, rfl, by omega, by omega, E0, From.start w⟩
  case round =>
    clear E0 q1 h0 h1
    obtain ⟨k, L, hk, rfl, rfl, hL0, hL1, HE, HF⟩ := hrel
    by_cases hlt : k < l.length
    · obtain ⟨b, off, rfl, hc⟩ := HC.out (by omega)
      obtain ⟨sa, sc, ya, yc, ho, c0, c1⟩ := hc k hlt
      have hbl : b < w.heap.size := World.block_lt_of_cell? w _ c0
      have g0 := (HF.out.below.cell (p := ⟨b, off + k * 2, none⟩) hbl).trans c0
      have g1 := (HF.out.below.cell (p := ⟨b, off + k * 2 + 1, none⟩) hbl).trans c1
      have HT : Hid (objsCost (l.drop k) = objCost l[k] + objsCost (l.drop (k + 1))) := by show _ = _; rw [List.drop_eq_getElem_cons hlt]; rfl
      have HN := Lib.hid (HS.out l[k] (List.getElem_mem hlt))
      have HO := Lib.hid (ho.below (Nat.le_refl _) HF.out.below)
      clear hc c0 c1 ho
      generalize l[k] = x at *
      obtain ⟨n1, hn1⟩ : ∃ n1, x.secs.length = n1 := ⟨_, rfl⟩
      obtain ⟨n2, hn2⟩ : ∃ n2, x.syms.length = n2 := ⟨_, rfl⟩
      rw [hn1] at g0 HO
      rw [hn2] at g1 HO
      clear hn1 hn2
      have q2 := objCost_nonneg x
      by_cases q1 : objCost x ≤ L
      · have E1 : szV L (objCost x) = L - objCost x := by unfold szV; rw [if_pos q1]
        have HE2 : Hid (szV left ((l.length : Int) + objsCost l) = szV (L - objCost x) (objsCost (l.drop (k + 1)))) := by show _ = _; rw [HE.out, HT.out, szV_plus q2 (objsCost_nonneg _) q1]
        obtain ⟨L2, hL2⟩ : ∃ L2, L - objCost x = L2 := ⟨_, rfl⟩
        have z0 : 0 ≤ L2 := by omega
        have z1 : L2 ≤ 1048576 := by omega
        rw [hL2] at E1 HE2
        clear hL2 q1 q2 HE HT
        go_wp2_with fail
        refine (szObject_any _ _ x HO.out HN.out L hL0 hL1).mono ?_
        rw [E1]
        rintro e w2 ⟨rfl, h2⟩
        have HF2 := Lib.hid (HF.out.call h2)
        clear h2 HF E1 g0 g1
        go_wp2_with fail
        go_roundw
        case rel => exact ⟨k + 1, L2, by omega, by go_num, rfl, z0, z1, HE2, HF2⟩
        case measure => simp [intOf]; try omega
      · have E1 : szV L (objCost x) = -1 := by unfold szV; rw [if_neg q1]
        have HE2 : Hid (szV left ((l.length : Int) + objsCost l) = -1) := by show _ = _; rw [HE.out, HT.out, szV_over (objsCost_nonneg _) q1]
        clear q1 q2 HE HT
        go_wp2_with fail
        refine (szObject_any _ _ x HO.out HN.out L hL0 hL1).mono ?_
        rw [E1]
        rintro e w2 ⟨rfl, h2⟩
        have HF2 := Lib.hid (HF.out.call h2)
        clear h2 HF E1 g0 g1
        go_wp2_with fail
        go_ret
        exact ⟨by rw [HE2.out]; try rfl, HF2.out.below⟩
    · obtain rfl : k = l.length := by omega
      have E2 : Hid (szV left ((l.length : Int) + objsCost l) = L) := by
        show _ = _; rw [HE.out, List.drop_length]; unfold szV objsCost; rw [if_pos hL0]; omega
      go_wp2_with fail
      go_ret
      exact ⟨by rw [E2.out]; try rfl, HF.out.below⟩
end Go.Proofs.Ytnompmdnonelhaa
