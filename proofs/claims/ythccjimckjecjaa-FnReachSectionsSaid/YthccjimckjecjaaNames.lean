/- The names that an object wants, or gives. -/
import Derived.Test.YthccjimckjecjaaSorted
import Derived.Test.YthccjimckjecjaaStr
import Derived.Test.YthccjimckjecjaaIns
import Derived.Test.YthccjimckjecjaaObjValI
import Derived.Test.YthccjimckjecjaaObjValS
namespace Go.Proofs.Ythccjimckjecjaa
open Go.ChangeShapes Go.WideShapes Go.ChangeAt Go.RowKit Go.Joins
set_option linter.unusedSimpArgs false
set_option linter.unusedVariables false
set_option maxRecDepth 100000
def wantB (s : SymD) : Bool := decide (s.whr = -1)
def gvnB (s : SymD) : Bool := decide (s.whr ≠ -1) && decide (s.bind ≠ 0)
def namesOfL (p : SymD → Bool) (l : List SymD) : List ByteArray := (l.filter p).map (·.name)
def namesL (p : SymD → Bool) (o : ObjD) : List ByteArray := if objB o = true then sortB (namesOfL p o.syms) else []
theorem namesOfL_length (p : SymD → Bool) (l : List SymD) : (namesOfL p l).length ≤ l.length := by
  unfold namesOfL; rw [List.length_map]; exact List.length_filter_le _ _
theorem namesOfL_step (p : SymD → Bool) (l : List SymD) (k : Nat) (hk : k < l.length) : namesOfL p (l.take (k + 1)) = namesOfL p (l.take k) ++ (if p l[k] = true then [l[k].name] else []) := by
  unfold namesOfL
  rw [List.take_succ_eq_append_getElem hk, List.filter_append, List.map_append]
  congr 1
  cases h : p l[k] <;> simp [h]
theorem objB_few {o : ObjD} (h : objB o = true) : o.secs.length ≤ 8 ∧ o.syms.length ≤ 12 := by
  unfold objB at h
  simp only [Bool.and_eq_true, decide_eq_true_eq] at h
  exact ⟨h.1.1.1, h.1.1.2⟩
theorem namesL_length (p : SymD → Bool) (o : ObjD) : (namesL p o).length ≤ o.syms.length := by
  unfold namesL
  split
  · exact Nat.le_trans (sortB_length _) (namesOfL_length _ _)
  · exact Nat.zero_le _
set_option maxHeartbeats 2000000 in
theorem i_namesOf (g : FuncId) (p : SymD → Bool) (eg : ∀ args u, (callFunc g args).run Try.prog u = .ok (.enter g args) u) (hp : ∀ x u, Calls Try.prog g #[symV x] u fun e w' => e = .returned (.bool (p x)) ∧ Below u.heap.size u w')
    (w : World) (v : Value) (l : List SymD) (h : SymsAt w v l) (hl : l.length ≤ 1048576) :
    Calls Try.prog 79 #[v, .func (.func g) #[] #[]] w fun e w' => ∃ r, e = .returned r ∧ OwnS w' w.heap.size r (sortB (namesOfL p l)) ∧ (∃ b c, r = .slice (some ⟨b, 0, none⟩) (sortB (namesOfL p l)).length c) ∧ Below w.heap.size w w' := by
  obtain ⟨a, cap, rfl, hcap, hmax, hnone, hcell⟩ := h.form
  obtain ⟨i0, hi, hz0, hz1, hz2⟩ := info_parts info_str
  have HC := Lib.hid hcell
  have HP := Lib.hid hp
  clear h hcell hnone hp
  unfold maxLen at hmax
  go_enter Try.func79, Try.ntmps79
  go_wp2_with fail
  go_loopw [5, 11] (fun out i wr => ∃ (k gb gc : Nat), k ≤ l.length ∧ i = .int .i64 k ∧ out = .slice (some ⟨gb, 0, none⟩) (namesOfL p (l.take k)).length gc ∧ Hid (OwnS wr w.heap.size out (namesOfL p (l.take k))) ∧ Hid (From w.heap.size w wr)) (fun _ i _ => l.length - (intOf i).toNat)
  case atStart => exact ⟨0, _, _, Nat.zero_le _, rfl, rfl, World.ownsRow_lit w #[] 0 (Nat.le_refl _) (Nat.zero_le _) rfl, (From.start w).alloc _⟩
  case round =>
    obtain ⟨k, gb, gc, hk, rfl, rfl, HO, HF⟩ := hrel
    by_cases hlt : k < l.length
    · obtain ⟨b, off, rfl, hc⟩ := HC.out (by omega)
      obtain ⟨g0, g1, g2, g3⟩ := sym_cells HF.out.below hc k hlt
      have i1 : (k : Int) < (l.length : Int) := by omega
      have HT := Lib.hid (namesOfL_step p l k hlt)
      have hle := namesOfL_length p (l.take k)
      rw [List.length_take] at hle
      clear hc
      generalize l[k] = x at *
      obtain ⟨T, hT⟩ : ∃ T, namesOfL p (l.take k) = T := ⟨_, rfl⟩
      rw [hT] at HO HT hle ⊢
      clear hT
      obtain ⟨tn, htn⟩ : ∃ tn, T.length = tn := ⟨_, rfl⟩
      rw [htn] at HO hle ⊢
      have HTN := Lib.hid htn
      clear htn
      go_wp2_with fail
      have HO1 := Lib.hid (World.ownsRow.alloc HO.out (.cells #[.string x.name, .int .i64 x.bind, .int .i64 x.whr, .int .i64 x.val] 78))
      have HF1 := Lib.hid (HF.out.alloc (.cells #[.string x.name, .int .i64 x.bind, .int .i64 x.whr, .int .i64 x.val] 78))
      have HB1 := Lib.hid (Blk.new wr #[.string x.name, .int .i64 x.bind, .int .i64 x.whr, .int .i64 x.val] 78)
      generalize hw1 : wr.alloc (.cells #[.string x.name, .int .i64 x.bind, .int .i64 x.whr, .int .i64 x.val] 78) = w1 at HO1 HF1 HB1 ⊢
      clear hw1 HO HF g0 g1 g2 g3
      generalize wr.heap.size = z at *
      refine (HP.out x w1).mono ?_
      rintro e w2 ⟨rfl, h2⟩
      have HO2 := Lib.hid (owns_call HO1.out h2)
      have HF2 := Lib.hid (HF1.out.call h2)
      have HB2 := Lib.hid (HB1.out.call h2)
      have cb := HB2.out.cell
      clear h2 HO1 HF1 HB1
      cases hq : p x
      · have HT2 : Hid (namesOfL p (l.take (k + 1)) = T) := by show _ = _; rw [HT.out, hq]; simp
        clear HT hq
        go_wp2_with fail
        go_roundw
        case rel => exact ⟨k + 1, gb, gc, by omega, by go_num, by rw [HT2.out, HTN.out], by rw [HT2.out]; exact HO2.out, HF2⟩
        case measure => simp [intOf]; try omega
      · have HT2 : Hid (namesOfL p (l.take (k + 1)) = T ++ [x.name]) := by show _ = _; rw [HT.out, hq]; simp
        clear HT hq
        go_wp2_with (at_builtin; refine wpList_append_src rfl (.tmp 18) (.tmp 21) 40 40 rfl w.heap.size 9 i0 (.string ⟨#[]⟩) 1 16 Try.underlying40 hi hz0 hz1 hz2 rfl (by decide) _ _ _ rfl (World.ownsRow.alloc HO2.out _) _ 1 [_] rfl (src_new Try.underlying40 _ [_] 1 1 1 _ rfl ?c0) ?c1 ?c2 ?c3 ?_)
        case c0 => intro u hu; obtain rfl := List.mem_singleton.1 hu; rfl
        case c1 => have := HTN.out; unfold maxLen; omega
        case c2 => have := HTN.out; omega
        case c3 => have := HF2.out.le; simp; omega
        intro v' w4 hown hgr
        have hown' : w4.ownsRow w.heap.size 9 1 v' (T.length + 1) (svs T ++ [Value.string x.name]) := hown
        have hO4 := owns_snocS hown'
        obtain ⟨gb4, gc4, hv4, -, -⟩ := owns_some hO4 (owns_more_some hown')
        obtain ⟨n4, hn4⟩ : ∃ n4, (T ++ [x.name]).length = n4 := ⟨_, rfl⟩
        rw [hn4] at hv4
        subst hv4
        have HN4 := Lib.hid hn4
        have HO4 : Hid (OwnS w4 w.heap.size (.slice (some ⟨gb4, 0, none⟩) n4 gc4) (T ++ [x.name])) := hO4
        have HF4 := Lib.hid ((HF2.out.alloc _).grown hgr (owns_block HO2.out))
        clear hown hown' hgr hO4 hn4 HO2 HF2 HB2 cb
        go_wp2_with fail
        go_roundw
        case rel => exact ⟨k + 1, gb4, gc4, by omega, by go_num, by rw [HT2.out, HN4.out], by rw [HT2.out]; exact HO4.out, HF4⟩
        case measure => simp [intOf]; try omega
    · obtain rfl : k = l.length := by omega
      have hle := namesOfL_length p l
      rw [List.take_length] at HO ⊢
      obtain ⟨T, hT⟩ : ∃ T, namesOfL p l = T := ⟨_, rfl⟩
      rw [hT] at HO hle ⊢
      have HT := Lib.hid hT
      clear hT
      obtain ⟨tn, htn⟩ : ∃ tn, T.length = tn := ⟨_, rfl⟩
      have HTN := Lib.hid htn
      have q1 := i_sorted wr gb 0 gc T HO.out.reads (by omega)
      rw [htn] at q1 ⊢
      have Q1 := Lib.hid q1
      clear htn hle q1
      go_wp2_with fail
      refine Q1.out.mono ?_
      rintro e w2 ⟨r, rfl, o2, ⟨b2, c2, rfl⟩, h2⟩
      have HF2 := Lib.hid (HF.out.call h2)
      have HO2 : Hid (OwnS w2 w.heap.size (.slice (some ⟨b2, 0, none⟩) (sortB T).length c2) (sortB T)) := owns_mono o2 HF.out.le
      clear o2 h2 Q1 HO HF
      obtain ⟨sn, hsn⟩ : ∃ sn, (sortB T).length = sn := ⟨_, rfl⟩
      rw [hsn] at HO2 ⊢
      have HSN := Lib.hid hsn
      clear hsn
      go_wp2_with fail
      go_ret
      exact ⟨_, rfl, by rw [HT.out]; exact HO2.out, ⟨b2, c2, by rw [HT.out, HSN.out]; rfl⟩, HF2.out.below⟩
theorem wants_NamesGiven (x : SymD) (u : World) : Calls Try.prog 80 #[symV x] u fun e w' => e = .returned (.bool (gvnB x)) ∧ Below u.heap.size u w' := by
  by_cases h1 : x.whr = -1
  · have e1 : (x.whr != -1) = false := by simpa using h1
    have E : Hid (gvnB x = false) := by show _ = _; simp [gvnB, h1]
    clear h1
    go_enter Try.func80, Try.ntmps80
    go_wp2_with fail
    go_ret
    exact ⟨by rw [E.out]; try rfl, ((From.start u).alloc _).below⟩
  have e1 : (x.whr != -1) = true := by simpa using h1
  by_cases h2 : x.bind = 0
  · have e2 : (x.bind != 0) = false := by simpa using h2
    have E : Hid (gvnB x = false) := by show _ = _; simp [gvnB, h2]
    clear h1 h2
    go_enter Try.func80, Try.ntmps80
    go_wp2_with fail
    go_ret
    exact ⟨by rw [E.out]; try rfl, ((From.start u).alloc _).below⟩
  have e2 : (x.bind != 0) = true := by simpa using h2
  have E : Hid (gvnB x = true) := by show _ = _; simp [gvnB, h1, h2]
  clear h1 h2
  go_enter Try.func80, Try.ntmps80
  go_wp2_with fail
  go_ret
  exact ⟨by rw [E.out]; try rfl, ((From.start u).alloc _).below⟩
set_option maxHeartbeats 1000000 in
theorem i_NamesGiven (w : World) (v : Value) (o : ObjD) (h : ObjAt w v o) (hs : (∀ s ∈ o.secs, s.name.size ≤ maxLen) ∧ ∀ s ∈ o.syms, s.name.size ≤ maxLen) :
    Calls Try.prog 27 #[v] w fun e w' => ∃ r, e = .returned r ∧ OwnS w' w.heap.size r (namesL gvnB o) ∧ Below w.heap.size w w' := by
  have H := Lib.hid h
  have HS := Lib.hid hs
  obtain ⟨vs, vy, rfl, h1, h2⟩ := h
  obtain ⟨xa, xc, rfl, -⟩ := h1.form
  obtain ⟨ya, yc, rfl, -⟩ := h2.form
  have HY := Lib.hid h2
  clear h1 h2 hs
  obtain ⟨n1, hn1⟩ : ∃ n1, o.secs.length = n1 := ⟨_, rfl⟩
  obtain ⟨n2, hn2⟩ : ∃ n2, o.syms.length = n2 := ⟨_, rfl⟩
  have HN2 := Lib.hid hn2
  rw [hn1] at H ⊢
  rw [hn2] at H HY ⊢
  clear hn1 hn2
  go_enter Try.func27, Try.ntmps27
  go_wp2_with fail
  have HF1 := Lib.hid ((From.start w).alloc (.cells #[.slice xa n1 xc, .slice ya n2 yc] 26))
  have hb1 := Blk.new w #[.slice xa n1 xc, .slice ya n2 yc] 26
  have HB1 := Lib.hid hb1
  clear hb1
  generalize hw1 : w.alloc (.cells #[.slice xa n1 xc, .slice ya n2 yc] 26) = w1 at HF1 HB1 ⊢
  clear hw1
  refine (i_ObjectValid w1 _ o (H.out.below (Nat.le_refl _) HF1.out.below) HS.out).mono ?_
  rintro e w2 ⟨rfl, g2⟩
  have HF2 := Lib.hid (HF1.out.call g2)
  have HB2 := Lib.hid (HB1.out.call g2)
  have cb := HB2.out.cell
  clear g2 HF1 HB1
  obtain ⟨q, hq⟩ : ∃ q, objB o = q := ⟨_, rfl⟩
  have HQ := Lib.hid hq
  rw [hq]
  clear hq
  cases q
  · have E : Hid (namesL gvnB o = []) := by show _ = _; unfold namesL; rw [HQ.out]; rfl
    go_wp2_with fail
    go_ret
    exact ⟨_, rfl, by rw [E.out]; exact World.ownsRow_nil _ _ _ _, HF2.out.below⟩
  · have E : Hid (namesL gvnB o = sortB (namesOfL gvnB o.syms)) := by show _ = _; unfold namesL; rw [HQ.out]; rfl
    have hf := (objB_few HQ.out).2
    have q1 := i_namesOf 80 gvnB (fun args u => enter_fn Try.func80 (by kernel_rfl) rfl args u) wants_NamesGiven w2 (.slice ya n2 yc) o.syms (by rw [← HN2.out]; rw [HN2.out]; exact HY.out.below (Nat.le_refl _) HF2.out.below) (by omega)
    have Q1 := Lib.hid q1
    clear q1 hf
    go_wp2_with fail
    refine Q1.out.mono ?_
    rintro e w3 ⟨r, rfl, o3, ⟨b3, c3, rfl⟩, g3⟩
    have HF3 := Lib.hid (HF2.out.call g3)
    have HO3 := Lib.hid (owns_mono o3 HF2.out.le)
    clear o3 g3 Q1 HF2 HB2 cb
    obtain ⟨sn, hsn⟩ : ∃ sn, (sortB (namesOfL gvnB o.syms)).length = sn := ⟨_, rfl⟩
    have HSN := Lib.hid hsn
    have HO4 : Hid (OwnS w3 w.heap.size (.slice (some ⟨b3, 0, none⟩) sn c3) (sortB (namesOfL gvnB o.syms))) := by show OwnS _ _ _ _; rw [← hsn]; exact HO3.out
    rw [hsn]
    clear hsn HO3
    go_wp2_with fail
    go_ret
    exact ⟨_, rfl, by rw [E.out]; exact HO4.out, HF3.out.below⟩
set_option maxHeartbeats 2000000 in
theorem s_NamesGiven (w : World) (v : Value) (o : ObjD) (h : ObjAt w v o) (hs : (∀ s ∈ o.secs, s.name.size ≤ maxLen) ∧ ∀ s ∈ o.syms, s.name.size ≤ maxLen) :
    Calls Try.prog 113 #[v] w fun e w' => ∃ r, e = .returned r ∧ OwnS w' w.heap.size r (namesL gvnB o) ∧ Below w.heap.size w w' := by
  have H := Lib.hid h
  have HS := Lib.hid hs
  obtain ⟨vs, vy, rfl, h1, h2⟩ := h
  obtain ⟨xa, xc, rfl, -⟩ := h1.form
  obtain ⟨ya, yc, rfl, hcap, hmax, hnone, hcell⟩ := h2.form
  have HC := Lib.hid hcell
  clear h1 h2 hs hcell hnone
  unfold maxLen at hmax
  obtain ⟨n1, hn1⟩ : ∃ n1, o.secs.length = n1 := ⟨_, rfl⟩
  rw [hn1] at H ⊢
  clear hn1
  go_enter Try.func113, Try.ntmps113
  go_wp2_with fail
  have hb1 : Blk ((w.alloc (.cells #[.slice xa n1 xc, .slice ya o.syms.length yc] 26)).alloc (.cells #[] 9)) w.heap.size #[.slice xa n1 xc, .slice ya o.syms.length yc] 26 := (Blk.new w _ _).alloc _
  have ho1 : OwnS ((w.alloc (.cells #[.slice xa n1 xc, .slice ya o.syms.length yc] 26)).alloc (.cells #[] 9)) w.heap.size (.slice (some ⟨w.heap.size + 1, 0, none⟩) 0 0) (sortB (namesOfL gvnB (o.syms.take 0))) := by
    have := World.ownsRow_lit (w.alloc (.cells #[.slice xa n1 xc, .slice ya o.syms.length yc] 26)) #[] (e := 9) (size := 1) (base := w.heap.size) 0 (by simp) (Nat.zero_le _) rfl
    simpa [namesOfL, sortB, OwnS, svs] using this
  have HB1 := Lib.hid hb1
  have HO1 := Lib.hid ho1
  have HF1 := Lib.hid (((From.start w).alloc (.cells #[.slice xa n1 xc, .slice ya o.syms.length yc] 26)).alloc (.cells #[] 9))
  clear hb1 ho1
  go_loopw [3, 4] (fun out i wr => ∃ k : Nat, k ≤ o.syms.length ∧ i = .int .i64 k ∧ Hid (0 < k → objB o = true) ∧ Hid (OwnS wr w.heap.size out (sortB (namesOfL gvnB (o.syms.take k)))) ∧
      Hid (Blk wr w.heap.size #[.slice xa n1 xc, .slice ya o.syms.length yc] 26) ∧ Hid (From w.heap.size w wr)) (fun _ i _ => o.syms.length - (intOf i).toNat)
  case atStart => exact ⟨0, Nat.zero_le _, rfl, (fun h => by omega), HO1, HB1, HF1⟩
  case round =>
    clear HB1 HO1 HF1
    obtain ⟨k, hk, rfl, HP, HO, HB, HF⟩ := hrel
    have cb := HB.out.cell
    by_cases hlt : k < o.syms.length
    · obtain ⟨b, off, rfl, hc⟩ := HC.out (by omega)
      have HCC := Lib.hid hc
      have i1 : (k : Int) < (o.syms.length : Int) := by omega
      clear hc
      go_wp2_with fail
      refine (s_ObjectValid wr _ o (H.out.below (Nat.le_refl _) HF.out.below) HS.out).mono ?_
      rintro e w2 ⟨rfl, g2⟩
      have HF2 := Lib.hid (HF.out.call g2)
      have HB2 := Lib.hid (HB.out.call g2)
      have HO2 := Lib.hid (ownS_call HO.out g2)
      clear cb
      have cb := HB2.out.cell
      clear g2 HF HB HO
      obtain ⟨q, hq⟩ : ∃ q, objB o = q := ⟨_, rfl⟩
      have HQ := Lib.hid hq
      rw [hq]
      clear hq
      cases q
      · have hk0 : k = 0 := by
          by_cases h0 : 0 < k
          · have := HP.out h0; rw [HQ.out] at this; cases this
          · omega
        have E : Hid (namesL gvnB o = []) := by show _ = _; unfold namesL; rw [HQ.out]; rfl
        have HO3 : Hid (OwnS w2 w.heap.size u3 []) := by have h9 := HO2.out; rw [hk0] at h9; exact h9
        clear hk0 HO2
        go_wp2_with fail
        go_ret
        exact ⟨_, rfl, by rw [E.out]; exact HO3.out, HF2.out.below⟩
      · obtain ⟨g0, g1, g2, g3'⟩ := sym_cells HF2.out.below HCC.out k hlt
        have HT := Lib.hid (namesOfL_step gvnB o.syms k hlt)
        have hle := namesOfL_length gvnB (o.syms.take k)
        rw [List.length_take] at hle
        have hle2 := sortB_length (namesOfL gvnB (o.syms.take k))
        have hf := (objB_few HQ.out).2
        have i3 : (0 : Int) ≤ (k : Int) := by omega
        generalize o.syms[k] = x at *
        obtain ⟨T, hT⟩ : ∃ T, namesOfL gvnB (o.syms.take k) = T := ⟨_, rfl⟩
        rw [hT] at HO2 HT hle hle2
        clear hT
        by_cases m1 : x.whr = -1
        · have e1 : (x.whr != -1) = false := by simpa using m1
          have HT2 : Hid (namesOfL gvnB (o.syms.take (k + 1)) = T) := by show _ = _; rw [HT.out, if_neg (by simp [gvnB, m1]), List.append_nil]
          clear HT m1
          go_wp2_with fail
          go_roundw
          case rel => exact ⟨k + 1, by omega, by go_num, fun _ => HQ.out, by rw [HT2.out]; exact HO2.out, HB2, HF2⟩
          case measure => simp [intOf]; try omega
        have e1 : (x.whr != -1) = true := by simpa using m1
        by_cases m2 : x.bind = 0
        · have e2 : (x.bind != 0) = false := by simpa using m2
          have HT2 : Hid (namesOfL gvnB (o.syms.take (k + 1)) = T) := by show _ = _; rw [HT.out, if_neg (by simp [gvnB, m2]), List.append_nil]
          clear HT m1 m2
          go_wp2_with fail
          go_roundw
          case rel => exact ⟨k + 1, by omega, by go_num, fun _ => HQ.out, by rw [HT2.out]; exact HO2.out, HB2, HF2⟩
          case measure => simp [intOf]; try omega
        have e2 : (x.bind != 0) = true := by simpa using m2
        have HYES : Hid (gvnB x = true) := by show _ = _; simp [gvnB, m1, m2]
        clear m1 m2
        have HT2 : Hid (namesOfL gvnB (o.syms.take (k + 1)) = T ++ [x.name]) := by show _ = _; rw [HT.out, if_pos HYES.out]
        clear HT HYES
        go_wp2_with fail
        refine (l2Insert_any w2 w.heap.size HF2.out.le _ _ HO2.out (by omega) x.name).mono ?_
        rintro e w3 ⟨r, rfl, o3, g3⟩
        have HO3 : Hid (OwnS w3 w.heap.size r (sortB (namesOfL gvnB (o.syms.take (k + 1))))) := by show OwnS _ _ _ _; rw [HT2.out, sortB_snoc]; exact o3
        have HF3 := Lib.hid (HF2.out.call g3)
        have HB3 := Lib.hid (HB2.out.call g3)
        clear o3 g3 HO2 HF2 HB2 cb g0 g1 g2 g3'
        go_wp2_with fail
        go_roundw
        case rel => exact ⟨k + 1, by omega, by go_num, fun _ => HQ.out, HO3, HB3, HF3⟩
        case measure => simp [intOf]; try omega
    · obtain rfl : k = o.syms.length := by omega
      have E : Hid (OwnS wr w.heap.size u3 (namesL gvnB o)) := by
        show OwnS _ _ _ _
        have h9 := HO.out
        rw [List.take_length] at h9
        unfold namesL
        by_cases h0 : 0 < o.syms.length
        · rw [HP.out h0]; exact h9
        · have : o.syms = [] := List.eq_nil_of_length_eq_zero (by omega)
          rw [this] at h9 ⊢
          have e : (if objB o = true then sortB (namesOfL gvnB []) else []) = [] := by split <;> rfl
          rw [e]; exact h9
      clear HO
      go_wp2_with fail
      go_ret
      exact ⟨_, rfl, E.out, HF.out.below⟩
end Go.Proofs.Ythccjimckjecjaa
