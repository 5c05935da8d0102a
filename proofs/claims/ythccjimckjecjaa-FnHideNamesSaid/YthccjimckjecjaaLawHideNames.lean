/- Hidden names are not given: only names of the list are; with all given names nothing changes. No condition. -/
import Derived.Test.YthccjimckjecjaaBase
import Derived.Test.YthccjimckjecjaaDrawK
import Derived.Test.YthccjimckjecjaaDrawQ
import Derived.Test.YthccjimckjecjaaSame
import Derived.Test.YthccjimckjecjaaHide
import Derived.Test.YthccjimckjecjaaPlainH
import Derived.Test.YthccjimckjecjaaNames
namespace Go.Proofs.Ythccjimckjecjaa
open Go.ChangeShapes Go.WideShapes Go.ChangeAt Go.RowKit Go.Joins
set_option linter.unusedSimpArgs false
set_option linter.unusedVariables false
set_option maxRecDepth 100000
theorem mem_insB_of (s x : ByteArray) : ∀ l, x = s ∨ x ∈ l → x ∈ insB s l
  | [], h => by simp at h; simp [insB, h]
  | y :: r, h => by
    unfold insB
    split
    · rcases h with rfl | h
      · exact List.mem_cons_of_mem _ (mem_insB_of x x r (.inl rfl))
      · rcases List.mem_cons.1 h with rfl | h
        · exact List.mem_cons_self ..
        · exact List.mem_cons_of_mem _ (mem_insB_of s x r (.inr h))
    · split
      · rename_i h1
        rcases h with rfl | h
        · rw [bytesS_inj h1]; exact List.mem_cons_self ..
        · exact h
      · rcases h with rfl | h
        · exact List.mem_cons_self ..
        · exact List.mem_cons_of_mem _ h
theorem mem_sortB_of (l : List ByteArray) (x : ByteArray) (h : x ∈ l) : x ∈ sortB l := by
  suffices H : ∀ (l a : List ByteArray), x ∈ a ∨ x ∈ l → x ∈ l.foldl (fun a s => insB s a) a by exact H l [] (.inr h)
  intro l
  induction l with
  | nil => intro a h; rcases h with h | h; exact h; cases h
  | cons s r ih =>
    intro a h
    refine ih _ ?_
    rcases h with h | h
    · exact .inl (mem_insB_of s x a (.inr h))
    · rcases List.mem_cons.1 h with rfl | h
      · exact .inl (mem_insB_of x x a (.inl rfl))
      · exact .inr h
theorem inB_mem {L : List ByteArray} {s : ByteArray} : inB L s = true ↔ s ∈ L := by
  unfold inB; simp
theorem hideS_name (L : List ByteArray) (s : SymD) : (hideS L s).name = s.name := by unfold hideS; split <;> rfl
theorem hideS_glob (L : List ByteArray) (s : SymD) (h : globB (hideS L s) = true) : globB s = true := by
  unfold hideS at h
  split at h
  · simp [globB] at h
  · exact h
theorem hideS_sym (L : List ByteArray) (s : SymD) (secs : List SecD) (h : symB s secs = true) : symB (hideS L s) secs = true := by
  unfold hideS
  split
  · rename_i hc
    unfold symB at h ⊢
    simp only [Bool.and_eq_true] at h ⊢
    refine ⟨⟨h.1.1, (withinB_iff _ _ _).2 ⟨by decide, by decide⟩⟩, ?_⟩
    rw [if_neg hc.1] at h ⊢
    exact h.2
  · exact h
theorem hideO_valid {o : ObjD} (L : List ByteArray) (h : objB o = true) : objB (hideO o L) = true := by
  have ho := (objB_iff o).1 h
  have e : hideO o L = ⟨o.secs, o.syms.map (hideS L)⟩ := by unfold hideO; rw [if_pos h]
  rw [e]
  refine (objB_iff _).2 ⟨ho.few, by simpa using ho.few2, by simpa using ho.secs, fun s hs => ?_, fun i hi => ?_⟩
  · obtain ⟨x, hx, rfl⟩ := List.mem_map.1 hs
    exact hideS_sym L x _ (ho.syms x hx)
  · have hi' : i < o.syms.length := by simpa using hi
    have h1 := ho.once i hi'
    cases hq : dupB ((o.syms.map (hideS L)).take i) ((o.syms.map (hideS L))[i]'hi) with
    | false => rfl
    | true =>
      exfalso
      unfold dupB at hq h1
      simp only [Bool.and_eq_true, List.any_eq_true, decide_eq_true_eq] at hq
      obtain ⟨hg, x, hx, hgx, hn⟩ := hq
      rw [List.getElem_map] at hg hn
      rw [← List.map_take] at hx
      obtain ⟨y, hy, rfl⟩ := List.mem_map.1 hx
      have h2 : (globB o.syms[i] && (o.syms.take i).any fun x => globB x && decide (x.name = o.syms[i].name)) = true := by
        simp only [Bool.and_eq_true, List.any_eq_true, decide_eq_true_eq]
        exact ⟨hideS_glob L _ hg, y, hy, hideS_glob L y hgx, by rw [hideS_name, hideS_name] at hn; exact hn⟩
      rw [h2] at h1; cases h1
theorem hideO_given {o : ObjD} (L : List ByteArray) {x : ByteArray} (h : x ∈ namesL gvnB (hideO o L)) : inB L x = true := by
  unfold namesL at h
  split at h
  · have h1 := mem_sortB _ _ h
    unfold namesOfL at h1
    obtain ⟨y, hy, rfl⟩ := List.mem_map.1 h1
    obtain ⟨hy1, hy2⟩ := List.mem_filter.1 hy
    unfold hideO at hy1
    split at hy1
    · obtain ⟨z, hz, rfl⟩ := List.mem_map.1 hy1
      unfold gvnB hideS at hy2
      unfold hideS
      split
      · rename_i hc; rw [if_pos hc] at hy2; simp at hy2
      · rename_i hc
        rw [if_neg hc] at hy2
        simp only [Bool.and_eq_true, decide_eq_true_eq] at hy2
        cases hq : inB L z.name with
        | true => rfl
        | false => exact absurd ⟨hy2.1, hq⟩ hc
    · cases hy1
  · cases h
theorem hideO_same {o : ObjD} (h : objB o = true) : hideO o (namesL gvnB o) = o := by
  unfold hideO
  rw [if_pos h]
  have : o.syms.map (hideS (namesL gvnB o)) = o.syms := by
    conv => rhs; rw [← List.map_id o.syms]
    refine List.map_congr_left fun s hs => ?_
    show hideS _ s = s
    unfold hideS
    split
    · rename_i hc
      by_cases hb : s.bind = 0
      · cases s; simp only at hb; rw [hb]
      · exfalso
        have h1 : inB (namesL gvnB o) s.name = true := by
          rw [inB_mem]
          unfold namesL
          rw [if_pos h]
          refine mem_sortB_of _ _ ?_
          unfold namesOfL
          exact List.mem_map.2 ⟨s, List.mem_filter.2 ⟨hs, by simp [gvnB, hc.1, hb]⟩, rfl⟩
        rw [h1] at hc; cases hc.2
    · rfl
  rw [this]
theorem hideO_names {o : ObjD} {k : Nat} (L : List ByteArray) (h1 : ∀ s ∈ o.secs, s.name.size ≤ k) (h2 : ∀ s ∈ o.syms, s.name.size ≤ k) : (∀ s ∈ (hideO o L).secs, s.name.size ≤ k) ∧ ∀ s ∈ (hideO o L).syms, s.name.size ≤ k := by
  unfold hideO
  split
  · refine ⟨h1, fun s hs => ?_⟩
    obtain ⟨x, hx, rfl⟩ := List.mem_map.1 hs
    rw [hideS_name]; exact h2 x hx
  · exact ⟨fun s hs => (by cases hs), fun s hs => (by cases hs)⟩
set_option maxHeartbeats 1000000 in
theorem walk_FnHideNames (w : World) (v : Value) (l : List UInt8) (h : BytesAt w v l) :
    Calls Try.prog 5 #[v] w fun e w' => e = .returned (.bool true) ∧ Below w.heap.size w w' := by
  obtain ⟨a, cap, hv, hcap, hmax, hnone, hcell⟩ := h.form
  clear hnone hcell
  by_cases hl : (l.length : Int) ≤ 1048576
  · have H := Lib.hid h
    clear h
    subst hv
    unfold maxLen at hmax
    go_enter Try.func5, Try.ntmps5
    go_wp2_with fail
    refine (s_DrawHideNames_any _ _ l H.out).mono ?_
    rintro e w1 ⟨_, rfl, ⟨vo, vl, o, L, rfl, ho, hn1, hn2, hL, hL1, hL2⟩, hF⟩
    obtain ⟨sa, sc, ya, yc, rfl⟩ := ho.agg
    obtain ⟨la, lc, rfl, -, -, -, hcl⟩ := hL.form
    have HE := Lib.hid hcl
    have F := Lib.hid hF
    have HO := Lib.hid ho
    have HL := Lib.hid hL
    have HNB := Lib.hid (⟨hn1, hn2⟩ : (∀ s ∈ o.secs, s.name.size ≤ 9) ∧ ∀ s ∈ o.syms, s.name.size ≤ 9)
    have HN := Lib.hid (⟨fun s hs => by have := hn1 s hs; unfold maxLen; omega, fun s hs => by have := hn2 s hs; unfold maxLen; omega⟩ : (∀ s ∈ o.secs, s.name.size ≤ maxLen) ∧ ∀ s ∈ o.syms, s.name.size ≤ maxLen)
    have HNT : Hid ((∀ s ∈ (hideO o L).secs, s.name.size ≤ maxLen) ∧ ∀ s ∈ (hideO o L).syms, s.name.size ≤ maxLen) := by
      have h := hideO_names L hn1 hn2
      exact ⟨fun s hs => by have := h.1 s hs; unfold maxLen; omega, fun s hs => by have := h.2 s hs; unfold maxLen; omega⟩
    obtain ⟨n1, hn1'⟩ : ∃ n1, o.secs.length = n1 := ⟨_, rfl⟩
    obtain ⟨n2, hn2'⟩ : ∃ n2, o.syms.length = n2 := ⟨_, rfl⟩
    obtain ⟨n3, hn3'⟩ : ∃ n3, L.length = n3 := ⟨_, rfl⟩
    have HN3 := Lib.hid hn3'
    rw [hn1', hn2'] at HO
    rw [hn3'] at HL hL1
    rw [hn1', hn2', hn3']
    obtain ⟨T, hT⟩ : ∃ T, hideO o L = T := ⟨_, rfl⟩
    rw [hT] at HNT
    have HT := Lib.hid hT
    clear hF ho hn1 hn2 hL hL2 hcl hn1' hn2' hn3' hT
    have G := Lib.hid (From.start w1)
    go_wp2_with fail
    have gg := ((From.start w1).alloc (.cells #[.slice sa n1 sc, .slice ya n2 yc] 26)).below
    have F := Lib.hid (F.out.call gg)
    have G := Lib.hid (G.out.call gg)
    clear gg
    have B3 := Lib.hid (Blk.new w1 #[.slice sa n1 sc, .slice ya n2 yc] 26)
    refine (i_HideNames _ _ _ o L (HO.out.below (Nat.le_refl _) G.out.below) (HL.out.below (Nat.le_refl _) G.out.below) HN.out).mono ?_
    rw [HT.out]
    rintro e w2 ⟨X, rfl, oX, gg⟩
    have F := Lib.hid (F.out.call gg)
    have G := Lib.hid (G.out.call gg)
    have B3 := Lib.hid (B3.out.call gg)
    obtain ⟨bs, oX⟩ := oX.blocks
    obtain ⟨xa, xc, xb, xd, rfl⟩ := oX.agg
    have OX := Lib.hid oX
    clear gg oX
    have cB3 := B3.out.cell
    have zB3 := B3.out.lt
    go_wp2_with fail
    clear cB3 zB3
    have gg := ((From.start w2).alloc (.cells #[.slice xa T.secs.length xc, .slice xb T.syms.length xd] 26)).below
    have F := Lib.hid (F.out.call gg)
    have G := Lib.hid (G.out.call gg)
    have B3 := Lib.hid (B3.out.call gg)
    have OX := Lib.hid (OX.out.call gg)
    clear gg
    have B5 := Lib.hid (Blk.new w2 #[.slice xa T.secs.length xc, .slice xb T.syms.length xd] 26)
    generalize hw3 : w2.alloc (.cells #[.slice xa T.secs.length xc, .slice xb T.syms.length xd] 26) = w3 at F G B3 OX B5 ⊢
    clear hw3
    generalize w2.heap.size = q5 at *
    generalize w1.heap.size = q3 at B3 ⊢
    have keepS : ∀ u, From w3.heap.size w3 u → (∀ o', u.cell? ⟨q3, o', none⟩ = #[Value.slice sa n1 sc, Value.slice ya n2 yc][o']?) ∧
        (∀ o', u.cell? ⟨q5, o', none⟩ = #[Value.slice xa T.secs.length xc, Value.slice xb T.syms.length xd][o']?) ∧ From w3.heap.size w3 u := fun u hu => ⟨(B3.out.call hu.below).cell, (B5.out.call hu.below).cell, hu⟩
    have first := keepS _ (From.start w3)
    have HO7 := Lib.hid (HO.out.below (Nat.le_refl _) G.out.below)
    have HL7 := Lib.hid (HL.out.below (Nat.le_refl _) G.out.below)
    go_region_held3 (fun u => (∀ o', u.cell? ⟨q3, o', none⟩ = #[Value.slice sa n1 sc, Value.slice ya n2 yc][o']?) ∧
        (∀ o', u.cell? ⟨q5, o', none⟩ = #[Value.slice xa T.secs.length xc, Value.slice xb T.syms.length xd][o']?) ∧ From w3.heap.size w3 u)
      (first | assumption | exact keepS _ (From.drew (From.start w3)) | exact keepS _ (From.call (‹_ ∧ _ ∧ From _ _ _›).2.2 (by assumption)))
      (first
        | (go_at_call 25; refine (s_HideNames _ _ _ o L (HO7.out.below (Nat.le_refl _) (‹_ ∧ _ ∧ From _ _ _›).2.2.below) (HL7.out.below (Nat.le_refl _) (‹_ ∧ _ ∧ From _ _ _›).2.2.below) HN.out).mono ?_; rw [HT.out]; rintro e w4' ⟨r4, rfl, o4, g4⟩; have Q4 := o4.reads)
        | (go_at_call 24; refine (sameObject_same _ _ _ T (OX.out.obj.reads.below (Nat.le_refl _) (‹_ ∧ _ ∧ From _ _ _›).2.2.below) (by assumption)).mono ?_; rintro e w5' ⟨rfl, g5⟩))
    have HL0 := ‹_ ∧ _ ∧ From w3.heap.size w3 _›.2.2
    have gg := HL0.below
    have F := Lib.hid (F.out.call gg)
    have G := Lib.hid (G.out.call gg)
    have B3 := Lib.hid (B3.out.call gg)
    have OX := Lib.hid (OX.out.call gg)
    have B5 := Lib.hid (B5.out.call gg)
    clear keepS first HL0 HO7 HL7 gg
    try clear Q4
    try clear o4
    generalize w5' = w5 at *
    have cB3 := B3.out.cell
    have zB3 := B3.out.lt
    have cB5 := B5.out.cell
    have zB5 := B5.out.lt
    go_wp2_with fail
    clear cB3 zB3 cB5 zB5
    refine (s_ObjectValid _ _ o (HO.out.below (Nat.le_refl _) G.out.below) HN.out).mono ?_
    rintro e w6 ⟨rfl, gg⟩
    have F := Lib.hid (F.out.call gg)
    have G := Lib.hid (G.out.call gg)
    have B3 := Lib.hid (B3.out.call gg)
    have OX := Lib.hid (OX.out.call gg)
    have B5 := Lib.hid (B5.out.call gg)
    clear gg
    have cB3 := B3.out.cell
    have zB3 := B3.out.lt
    have cB5 := B5.out.cell
    have zB5 := B5.out.lt
    cases hq : objB o
    · have hT0 : T = ⟨[], []⟩ := by rw [← HT.out]; unfold hideO; rw [hq]; rfl
      subst hT0
      clear hq HT HNT
      have e0 : ((([] : List SecD).length : Int) == 0) = true := rfl
      have e1 : ((([] : List SymD).length : Int) == 0) = true := rfl
      simp only [List.length_nil] at cB5
      go_wp2_with (first | (go_at_call 18; (with_reducible refine (alive_any _).mono ?_); rintro e w' ⟨rfl, rfl⟩))
      go_ret
      exact ⟨rfl, F.out.below⟩
    clear cB3 zB3 cB5 zB5
    have HV := Lib.hid hq
    have HVT : Hid (objB T = true) := by show _ = _; rw [← HT.out]; exact hideO_valid L hq
    have HGV : Hid (∀ x ∈ namesL gvnB T, inB L x = true) := fun x hx => hideO_given L (o := o) (by rw [HT.out]; exact hx)
    have HSM : Hid (hideO o (namesL gvnB o) = o) := hideO_same hq
    clear hq
    have cB3 := B3.out.cell
    have zB3 := B3.out.lt
    have cB5 := B5.out.cell
    have zB5 := B5.out.lt
    go_wp2_with fail
    clear cB3 zB3 cB5 zB5
    refine (i_NamesGiven _ _ T OX.out.obj.reads HNT.out).mono ?_
    rintro e w7 ⟨rg, rfl, og, gg⟩
    have F := Lib.hid (F.out.call gg)
    have G := Lib.hid (G.out.call gg)
    have B3 := Lib.hid (B3.out.call gg)
    have OX := Lib.hid (OX.out.call gg)
    have B5 := Lib.hid (B5.out.call gg)
    have HGS := Lib.hid og.reads
    obtain ⟨ga, gc, rfl, -, -, -, hcg⟩ := og.reads.form
    have HGC := Lib.hid hcg
    obtain ⟨GL, hGL⟩ : ∃ GL, namesL gvnB T = GL := ⟨_, rfl⟩
    rw [hGL] at HGV HGC ⊢
    obtain ⟨n4, hn4⟩ : ∃ n4, GL.length = n4 := ⟨_, rfl⟩
    have hn4l : n4 ≤ 1048576 := by rw [← hn4, ← hGL]; exact Nat.le_trans (namesL_length _ _) (by have := (objB_few HVT.out).2; omega)
    have HN4 := Lib.hid hn4
    rw [hn4]
    clear gg og hcg HGS hGL hn4
    have Z := Lib.hid (From.start w7)
    have cB3 := B3.out.cell
    have zB3 := B3.out.lt
    have cB5 := B5.out.cell
    have zB5 := B5.out.lt
    go_wp2_with fail
    clear cB3 zB3 cB5 zB5
    go_loopw [7] (fun i wr => ∃ k : Nat, k ≤ n4 ∧ i = .int .i64 k ∧ Hid (From w7.heap.size w7 wr)) (fun i _ => n4 - (intOf i).toNat)
    case atStart => exact ⟨0, Nat.zero_le _, rfl, Z⟩
    case round =>
      clear Z
      obtain ⟨k, hk, rfl, Z⟩ := hrel
      by_cases hlt : k < n4
      · have i1 : (k : Int) < (n4 : Int) := by omega
        have i3 : (0 : Int) ≤ (k : Int) := by omega
        obtain ⟨b4, off4, rfl, hc4⟩ := HGC.out (by have := HN4.out; omega)
        have c4 := hc4 k (by rw [HN4.out]; exact hlt)
        have hx := HGV.out (GL[k]'(by rw [HN4.out]; exact hlt)) (List.getElem_mem _)
        have hbl4 : b4 < w7.heap.size := World.block_lt_of_cell? w7 _ c4
        clear hc4
        generalize GL[k]'(by rw [HN4.out]; exact hlt) = nm at *
        have HX := Lib.hid hx
        have HC4 := Lib.hid c4
        clear hx c4
        have E0 : Hid (inB (L.take 0) nm = false) := by show _ = _; simp [inB]
        go_wp2_with fail
        go_loopw [8, 9] (fun q i wr => ∃ j : Nat, j ≤ n3 ∧ i = .int .i64 j ∧ q = .bool (inB (L.take j) nm) ∧ Hid (From w7.heap.size w7 wr)) (fun _ i _ => n3 - (intOf i).toNat)
        case atStart => exact ⟨0, Nat.zero_le _, rfl, by rw [E0.out], Z⟩
        case round =>
          clear Z
          obtain ⟨j, hj, rfl, rfl, Z⟩ := hrel
          by_cases hltj : j < n3
          · have j1 : (j : Int) < (n3 : Int) := by omega
            have j3 : (0 : Int) ≤ (j : Int) := by omega
            have g4 := (Z.out.below.cell (p := ⟨b4, off4 + k, none⟩) hbl4).trans HC4.out
            obtain ⟨b5, off5, rfl, hc5⟩ := HE.out (by have := HN3.out; omega)
            have c5 := hc5 j (by rw [HN3.out]; exact hltj)
            have hbl5 : b5 < w1.heap.size := World.block_lt_of_cell? w1 _ c5
            have g5 := ((G.out.call Z.out.below).below.cell (p := ⟨b5, off5 + j, none⟩) hbl5).trans c5
            have HI : Hid (inB (L.take (j + 1)) nm = (inB (L.take j) nm || decide (L[j]'(by rw [HN3.out]; exact hltj) = nm))) := inB_step L nm j (by rw [HN3.out]; exact hltj)
            clear c5 hc5
            generalize L[j]'(by rw [HN3.out]; exact hltj) = nj at *
            obtain ⟨bj, hbj⟩ : ∃ bj, inB (L.take j) nm = bj := ⟨_, rfl⟩
            rw [hbj] at HI ⊢
            clear hbj
            have HQ : ∀ bq, decide (nj = nm) = bq → Hid (inB (L.take (j + 1)) nm = (bj || bq)) := fun bq h => by show _ = _; rw [HI.out, h]
            by_cases m0 : bytesS nj = bytesS nm
            · have e1 := str_eq m0
              have HQ1 := HQ true (decide_eq_true (bytesS_inj m0))
              clear m0 HQ HI
              cases bj
              · go_wp2_with fail
                go_quiet (fail)
                have Z2 := Lib.hid (Z.out.drewN nq)
                go_wp2_with fail
                go_roundw
                case rel => exact ⟨j + 1, by omega, by go_num, by rw [HQ1.out]; try rfl, Z2⟩
                case measure => simp [intOf]; try omega
              · go_wp2_with fail
                go_quiet (fail)
                have Z2 := Lib.hid (Z.out.drewN nq)
                go_wp2_with fail
                go_roundw
                case rel => exact ⟨j + 1, by omega, by go_num, by rw [HQ1.out]; try rfl, Z2⟩
                case measure => simp [intOf]; try omega
            · have e1 := str_ne m0
              have HQ1 := HQ false (decide_eq_false (fun h => m0 (by rw [h])))
              clear m0 HQ HI
              cases bj
              · go_wp2_with fail
                go_quiet (fail)
                have Z2 := Lib.hid (Z.out.drewN nq)
                go_wp2_with fail
                go_roundw
                case rel => exact ⟨j + 1, by omega, by go_num, by rw [HQ1.out]; try rfl, Z2⟩
                case measure => simp [intOf]; try omega
              · go_wp2_with fail
                go_quiet (fail)
                have Z2 := Lib.hid (Z.out.drewN nq)
                go_wp2_with fail
                go_roundw
                case rel => exact ⟨j + 1, by omega, by go_num, by rw [HQ1.out]; try rfl, Z2⟩
                case measure => simp [intOf]; try omega
          · obtain rfl : n3 = j := by omega
            have HQ : Hid (inB (L.take n3) nm = true) := by show _ = _; rw [← HN3.out, List.take_length]; exact HX.out
            rw [HQ.out]
            go_wp2_with fail
            go_roundw
            case rel => exact ⟨k + 1, by omega, by go_num, Z⟩
            case measure => simp [intOf]; try omega
      · obtain rfl : n4 = k := by omega
        have F := Lib.hid (F.out.call Z.out.below)
        have G := Lib.hid (G.out.call Z.out.below)
        have B3 := Lib.hid (B3.out.call Z.out.below)
        have OX := Lib.hid (OX.out.call Z.out.below)
        have B5 := Lib.hid (B5.out.call Z.out.below)
        have cB3 := B3.out.cell
        have zB3 := B3.out.lt
        have cB5 := B5.out.cell
        have zB5 := B5.out.lt
        go_wp2_with fail
        clear cB3 zB3 cB5 zB5
        have keepS : ∀ u, From wr.heap.size wr u → (∀ o', u.cell? ⟨q3, o', none⟩ = #[Value.slice sa n1 sc, Value.slice ya n2 yc][o']?) ∧
            (∀ o', u.cell? ⟨q5, o', none⟩ = #[Value.slice xa T.secs.length xc, Value.slice xb T.syms.length xd][o']?) ∧ From wr.heap.size wr u := fun u hu => ⟨(B3.out.call hu.below).cell, (B5.out.call hu.below).cell, hu⟩
        have first := keepS _ (From.start wr)
        have HO7 := Lib.hid (HO.out.below (Nat.le_refl _) G.out.below)
        have HL7 := Lib.hid (HL.out.below (Nat.le_refl _) G.out.below)
        go_region_held3 (fun u => (∀ o', u.cell? ⟨q3, o', none⟩ = #[Value.slice sa n1 sc, Value.slice ya n2 yc][o']?) ∧
            (∀ o', u.cell? ⟨q5, o', none⟩ = #[Value.slice xa T.secs.length xc, Value.slice xb T.syms.length xd][o']?) ∧ From wr.heap.size wr u)
          (first | assumption | exact keepS _ (From.drew (From.start wr)) | exact keepS _ (From.call (‹_ ∧ _ ∧ From _ _ _›).2.2 (by assumption)))
          (first
            | (go_at_call 28; refine (i_ObjectValid _ _ T (OX.out.obj.reads.below (Nat.le_refl _) (‹_ ∧ _ ∧ From _ _ _›).2.2.below) HNT.out).mono ?_; rw [HVT.out]; rintro e wA ⟨rfl, gA⟩)
            | (go_at_call 27; refine (i_NamesGiven _ _ o (HO7.out.below (Nat.le_refl _) (‹_ ∧ _ ∧ From _ _ _›).2.2.below) HN.out).mono ?_; rintro e wB ⟨rB, rfl, oB, gB⟩; have QB := oB.reads)
            | (go_at_call 23; refine (i_HideNames _ _ _ o (namesL gvnB o) (HO7.out.below (Nat.le_refl _) (‹_ ∧ _ ∧ From _ _ _›).2.2.below) (by assumption) HN.out).mono ?_; rw [HSM.out]; rintro e wC ⟨rC, rfl, oC, gC⟩; have QC := oC.reads)
            | (go_at_call 24; refine (sameObject_same _ _ _ o (by assumption) (HO7.out.below (Nat.le_refl _) (‹_ ∧ _ ∧ From _ _ _›).2.2.below)).mono ?_; rintro e wD ⟨rfl, gD⟩))
        have HL0 := ‹_ ∧ _ ∧ From wr.heap.size wr _›.2.2
        have F9 := F.out.call HL0.below
        clear keepS first
        go_wp2_with fail
        go_ret
        exact ⟨rfl, F9.below⟩
  · subst hv
    have hl' : (1048576 : Int) < (l.length : Int) := by omega
    clear hl h
    unfold maxLen at hmax
    go_enter Try.func5, Try.ntmps5
    go_wp2_with fail
    go_ret
    exact ⟨rfl, Below.refl _ _⟩
set_option maxRecDepth 100000 in
theorem lifted_FnHideNames (os : Os) (started : os.Started) (H : Type) (enc : TypeId × Value → H) :
    ReturnsInHanded {} Try.checked os 5 .any (Rows.fnHideNamesSpec.pre6 enc Try.prog Try.f5 Rows.fnHideNamesRow.domain false) (Rows.fnHideNamesSpec.post enc Try.prog Try.f5 false true false false) := by
  refine returnsInHanded_of_change (C := Try.checked) own_knob started (by kernel_rfl) Try.func5
    (ChangeSpec.witness6 (enc := enc) (C := Try.checked) false ⟨#[], #[.slice none 0 0], []⟩ 8 (by kernel_rfl) (by kernel_rfl) (by kernel_rfl) (by kernel_rfl)) ?_
  intro W base args ds gs before hval0 hW hcnd _
  have hval : ∀ (j : Nat) t v, Try.f5.params[j]? = some t → args[j]? = some v → Value.okWide Try.prog W .any base t v := hval0
  have hW' := hW
  obtain ⟨p, q, hA0, hV, rfl, hfz, hnd⟩ := hW
  have hA : DataW.TrodAll enc Try.prog W 0 (fun _ => true) true Try.f5.params.toList args.toList ds p := hA0
  rw [Try.params5] at hA hval
  obtain ⟨v0, vs0, d0, ds0, p0, q0, hargs, rfl, rfl, h0, r0⟩ := trodAll_cons hA
  obtain ⟨rfl, rfl, rfl⟩ := trodAll_nil r0
  obtain rfl : args = #[v0] := by cases args; simp_all
  obtain ⟨rfl, rfl⟩ := trodVars_none hV
  clear hA0 hval0
  have k0 := h0
  have t0 : ∀ x ∈ p0, x.block < W.heap.size := fun x hx => by simpa using hW'.lt x (by simp [hx])
  obtain ⟨l0, o0⟩ := open_bytesAt (hval 0 22 v0 rfl rfl) h0
  refine (walk_FnHideNames W v0 l0 o0).mono fun e W' ⟨he, hg⟩ => ?_
  subst he
  exact ⟨_, rfl, _, _, _, _, _, _, hW', (trodAll_cons_mk (shut_bool Try.underlying4 _) trodAll_mk0), (trodAll_cons_mk (Below.trod laid_out (by kernel_rfl) (of_decide_eq_true (by kernel_rfl)) k0 hg t0) trodAll_mk0), rfl, hg.frame _, fun h => by cases h⟩

set_option maxHeartbeats 2000000 in
theorem facts_FnHideNames : joinedFacts Try.prog 5 Try.f5 Rows.fnHideNamesSpec Rows.fnHideNamesRow = true := by
  unfold joinedFacts
  simp only [Bool.and_eq_true]
  repeat' apply And.intro
  all_goals first
    | with_reducible exact laid_out
    | with_reducible exact may_enter
    | (with_reducible rw [lifts_final]; as_aux_lemma => kernel_rfl)
    | (with_reducible rw [make_cut]; as_aux_lemma => kernel_rfl)
    | as_aux_lemma => kernel_rfl
theorem inst_FnHideNames : Try.f5.isInstance Try.prog Rows.fnHideNamesRow.origin Rows.fnHideNamesRow.targs := of_decide_eq_true (by kernel_rfl)
theorem wrap_FnHideNames : Try.f5.isWrapper Try.prog Rows.fnHideNamesRow.wrapper Rows.fnHideNamesRow.mainSum := by
  unfold Func.isWrapper
  first | (rw [if_pos (by decide +kernel)]; kernel_rfl) | (rw [if_neg (by decide +kernel)]; exact ⟨rfl, rfl⟩)
theorem named_FnHideNames : Try.prog.funcNamed Rows.fnHideNamesRow.func = some 5 := by kernel_rfl
theorem over_FnHideNames : Rows.fnHideNamesRow.holds Try.pinned (OpenSpec.ofChange Rows.fnHideNamesSpec) :=
  OpenClaim.holds_of_wide 5 Try.f5 rfl rfl rfl rfl rfl rfl rfl ⟨rfl, rfl, rfl, rfl, rfl⟩ rfl rfl rfl rfl rfl named_FnHideNames Try.func5 facts_FnHideNames inst_FnHideNames wrap_FnHideNames
    (fun os started H enc _ => lifted_FnHideNames os started H enc)

/-- The statement. -/
theorem holds_FnHideNames : Rows.FnHideNamesSaid :=
  over_FnHideNames
#print axioms holds_FnHideNames
end Go.Proofs.Ythccjimckjecjaa
