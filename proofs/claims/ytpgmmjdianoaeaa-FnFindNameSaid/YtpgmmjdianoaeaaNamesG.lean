/- The names that an object gives: the reference's function. -/
import Derived.Test.YtpgmmjdianoaeaaIns
import Derived.Test.YtpgmmjdianoaeaaObjVal
namespace Go.Proofs.Ytpgmmjdianoaeaa
open Go.ChangeShapes Go.WideShapes Go.ChangeAt Go.RowKit Go.Joins
set_option linter.unusedSimpArgs false
set_option linter.unusedVariables false
set_option maxRecDepth 100000
def wantB (s : SymD) : Bool := decide (s.whr = -1)
def gvnB (s : SymD) : Bool := decide (s.whr ≠ -1) && decide (s.bind ≠ 0)
def namesOfL (p : SymD → Bool) (l : List SymD) : List ByteArray := (l.filter p).map (·.name)
def namesL (p : SymD → Bool) (o : ObjD) : List ByteArray := if objB o = true then sortB (namesOfL p o.syms) else []
theorem namesOfL_length (p : SymD → Bool) (l : List SymD) : (namesOfL p l).length ≤ l.length := by
  unfold namesOfL; rw [List.length_map]; exact List.length_filter_le _ _
theorem namesOfL_step (p : SymD → Bool) (l : List SymD) (k : Nat) (hk : k < l.length) : namesOfL p (l.take (k + 1)) = namesOfL p (l.take k) ++ (if p l[k] = true then [l[k].name] else []) := by
  unfold namesOfL
  rw [List.take_succ_eq_append_getElem hk, List.filter_append, List.map_append]
  congr 1
  cases h : p l[k] <;> simp [h]
theorem objB_few {o : ObjD} (h : objB o = true) : o.secs.length ≤ 8 ∧ o.syms.length ≤ 12 := by
  unfold objB at h
  simp only [Bool.and_eq_true, decide_eq_true_eq] at h
  exact ⟨h.1.1.1, h.1.1.2⟩
theorem namesL_length (p : SymD → Bool) (o : ObjD) : (namesL p o).length ≤ o.syms.length := by
  unfold namesL
  split
  · exact Nat.le_trans (sortB_length _) (namesOfL_length _ _)
  · exact Nat.zero_le _
set_option maxHeartbeats 2000000 in
theorem s_NamesGiven (w : World) (v : Value) (o : ObjD) (h : ObjAt w v o) (hs : (∀ s ∈ o.secs, s.name.size ≤ maxLen) ∧ ∀ s ∈ o.syms, s.name.size ≤ maxLen) :
    Calls Try.prog 23 #[v] w fun e w' => ∃ r, e = .returned r ∧ OwnS w' w.heap.size r (namesL gvnB o) ∧ Below w.heap.size w w' := by
  have H := Lib.hid h
  have HS := Lib.hid hs
  obtain ⟨vs, vy, rfl, h1, h2⟩ := h
  obtain ⟨xa, xc, rfl, -⟩ := h1.form
  obtain ⟨ya, yc, rfl, hcap, hmax, hnone, hcell⟩ := h2.form
  have HC := Lib.hid hcell
  clear h1 h2 hs hcell hnone
  unfold maxLen at hmax
  obtain ⟨n1, hn1⟩ : ∃ n1, o.secs.length = n1 := ⟨_, rfl⟩
  rw [hn1] at H ⊢
  clear hn1
  go_enter Try.func23, Try.ntmps23
  go_wp2_with fail
  have hb1 : Blk ((w.alloc (.cells #[.slice xa n1 xc, .slice ya o.syms.length yc] 29)).alloc (.cells #[] 9)) w.heap.size #[.slice xa n1 xc, .slice ya o.syms.length yc] 29 := (Blk.new w _ _).alloc _
  have ho1 : OwnS ((w.alloc (.cells #[.slice xa n1 xc, .slice ya o.syms.length yc] 29)).alloc (.cells #[] 9)) w.heap.size (.slice (some ⟨w.heap.size + 1, 0, none⟩) 0 0) (sortB (namesOfL gvnB (o.syms.take 0))) := by
    have := World.ownsRow_lit (w.alloc (.cells #[.slice xa n1 xc, .slice ya o.syms.length yc] 29)) #[] (e := 9) (size := 1) (base := w.heap.size) 0 (by simp) (Nat.zero_le _) rfl
    simpa [namesOfL, sortB, OwnS, svs] using this
  have HB1 := Lib.hid hb1
  have HO1 := Lib.hid ho1
  have HF1 := Lib.hid (((From.start w).alloc (.cells #[.slice xa n1 xc, .slice ya o.syms.length yc] 29)).alloc (.cells #[] 9))
  clear hb1 ho1
  go_loopw [3, 4] (fun out i wr => ∃ k : Nat, k ≤ o.syms.length ∧ i = .int .i64 k ∧ Hid (0 < k → objB o = true) ∧ Hid (OwnS wr w.heap.size out (sortB (namesOfL gvnB (o.syms.take k)))) ∧
      Hid (Blk wr w.heap.size #[.slice xa n1 xc, .slice ya o.syms.length yc] 29) ∧ Hid (From w.heap.size w wr)) (fun _ i _ => o.syms.length - (intOf i).toNat)
  case atStart => exact ⟨0, Nat.zero_le _, rfl, (fun h => by omega), HO1, HB1, HF1⟩
  case round =>
    clear HB1 HO1 HF1
    obtain ⟨k, hk, rfl, HP, HO, HB, HF⟩ := hrel
    have cb := HB.out.cell
    by_cases hlt : k < o.syms.length
    · obtain ⟨b, off, rfl, hc⟩ := HC.out (by omega)
      have HCC := Lib.hid hc
      have i1 : (k : Int) < (o.syms.length : Int) := by omega
      clear hc
      go_wp2_with fail
      refine (s_ObjectValid wr _ o (H.out.below (Nat.le_refl _) HF.out.below) HS.out).mono ?_
      rintro e w2 ⟨rfl, g2⟩
      have HF2 := Lib.hid (HF.out.call g2)
      have HB2 := Lib.hid (HB.out.call g2)
      have HO2 := Lib.hid (ownS_call HO.out g2)
      clear cb
      have cb := HB2.out.cell
      clear g2 HF HB HO
      obtain ⟨q, hq⟩ : ∃ q, objB o = q := ⟨_, rfl⟩
      have HQ := Lib.hid hq
      rw [hq]
      clear hq
      cases q
      · have hk0 : k = 0 := by
          by_cases h0 : 0 < k
          · have := HP.out h0; rw [HQ.out] at this; cases this
          · omega
        have E : Hid (namesL gvnB o = []) := by show _ = _; unfold namesL; rw [HQ.out]; rfl
        have HO3 : Hid (OwnS w2 w.heap.size u3 []) := by have h9 := HO2.out; rw [hk0] at h9; exact h9
        clear hk0 HO2
        go_wp2_with fail
        go_ret
        exact ⟨_, rfl, by rw [E.out]; exact HO3.out, HF2.out.below⟩
      · obtain ⟨g0, g1, g2, g3'⟩ := sym_cells HF2.out.below HCC.out k hlt
        have HT := Lib.hid (namesOfL_step gvnB o.syms k hlt)
        have hle := namesOfL_length gvnB (o.syms.take k)
        rw [List.length_take] at hle
        have hle2 := sortB_length (namesOfL gvnB (o.syms.take k))
        have hf := (objB_few HQ.out).2
        have i3 : (0 : Int) ≤ (k : Int) := by omega
        generalize o.syms[k] = x at *
        obtain ⟨T, hT⟩ : ∃ T, namesOfL gvnB (o.syms.take k) = T := ⟨_, rfl⟩
        rw [hT] at HO2 HT hle hle2
        clear hT
        by_cases m1 : x.whr = -1
        · have e1 : (x.whr != -1) = false := by simpa using m1
          have HT2 : Hid (namesOfL gvnB (o.syms.take (k + 1)) = T) := by show _ = _; rw [HT.out, if_neg (by simp [gvnB, m1]), List.append_nil]
          clear HT m1
          go_wp2_with fail
          go_roundw
          case rel => exact ⟨k + 1, by omega, by go_num, fun _ => HQ.out, by rw [HT2.out]; exact HO2.out, HB2, HF2⟩
          case measure => simp [intOf]; try omega
        have e1 : (x.whr != -1) = true := by simpa using m1
        by_cases m2 : x.bind = 0
        · have e2 : (x.bind != 0) = false := by simpa using m2
          have HT2 : Hid (namesOfL gvnB (o.syms.take (k + 1)) = T) := by show _ = _; rw [HT.out, if_neg (by simp [gvnB, m2]), List.append_nil]
          clear HT m1 m2
          go_wp2_with fail
          go_roundw
          case rel => exact ⟨k + 1, by omega, by go_num, fun _ => HQ.out, by rw [HT2.out]; exact HO2.out, HB2, HF2⟩
          case measure => simp [intOf]; try omega
        have e2 : (x.bind != 0) = true := by simpa using m2
        have HYES : Hid (gvnB x = true) := by show _ = _; simp [gvnB, m1, m2]
        clear m1 m2
        have HT2 : Hid (namesOfL gvnB (o.syms.take (k + 1)) = T ++ [x.name]) := by show _ = _; rw [HT.out, if_pos HYES.out]
        clear HT HYES
        go_wp2_with fail
        refine (l2Insert_any w2 w.heap.size HF2.out.le _ _ HO2.out (by omega) x.name).mono ?_
        rintro e w3 ⟨r, rfl, o3, g3⟩
        have HO3 : Hid (OwnS w3 w.heap.size r (sortB (namesOfL gvnB (o.syms.take (k + 1))))) := by show OwnS _ _ _ _; rw [HT2.out, sortB_snoc]; exact o3
        have HF3 := Lib.hid (HF2.out.call g3)
        have HB3 := Lib.hid (HB2.out.call g3)
        clear o3 g3 HO2 HF2 HB2 cb g0 g1 g2 g3'
        go_wp2_with fail
        go_roundw
        case rel => exact ⟨k + 1, by omega, by go_num, fun _ => HQ.out, HO3, HB3, HF3⟩
        case measure => simp [intOf]; try omega
    · obtain rfl : k = o.syms.length := by omega
      have E : Hid (OwnS wr w.heap.size u3 (namesL gvnB o)) := by
        show OwnS _ _ _ _
        have h9 := HO.out
        rw [List.take_length] at h9
        unfold namesL
        by_cases h0 : 0 < o.syms.length
        · rw [HP.out h0]; exact h9
        · have : o.syms = [] := List.eq_nil_of_length_eq_zero (by omega)
          rw [this] at h9 ⊢
          have e : (if objB o = true then sortB (namesOfL gvnB []) else []) = [] := by split <;> rfl
          rw [e]; exact h9
      clear HO
      go_wp2_with fail
      go_ret
      exact ⟨_, rfl, E.out, HF.out.below⟩
end Go.Proofs.Ytpgmmjdianoaeaa
