/- Lines read by the reference: words, numbers. -/
import Derived.Test.YtecpdhjangojiaaGreatDoorDumpV
namespace Go.Proofs.YtecpdhjangojiaaGreatDoor
open Go.ChangeShapes Go.WideShapes Go.ChangeAt Go.RowKit Go.Joins
set_option linter.unusedSimpArgs false
set_option linter.unusedVariables false
set_option maxRecDepth 100000
theorem wordsL_cons32 (r : List UInt8) : wordsL (32 :: r) = [] :: wordsL r := by
  conv => lhs; unfold wordsL
  rw [if_pos rfl]
theorem wordsL_cons (d : UInt8) (r : List UInt8) (x : List UInt8) (q : List (List UInt8)) (hd : ¬ d = 32) (h : wordsL r = x :: q) : wordsL (d :: r) = (d :: x) :: q := by
  conv => lhs; unfold wordsL
  rw [if_neg hd, h]
theorem wordsL_snoc32 : ∀ (a : List UInt8), wordsL (a ++ [32]) = wordsL a ++ [[]]
  | [] => rfl
  | d :: a => by
    have ih := wordsL_snoc32 a
    rw [List.cons_append]
    by_cases hd : d = 32
    · subst hd
      rw [wordsL_cons32, wordsL_cons32, ih]; rfl
    · cases hw : wordsL a with
      | nil => exact absurd hw (wordsL_ne a)
      | cons x q =>
        rw [hw] at ih
        rw [wordsL_cons d a x q hd hw, wordsL_cons d _ x (q ++ [[]]) hd ih]; rfl
theorem wordsL_snocc (c : UInt8) (hc : ¬ c = 32) : ∀ (a : List UInt8) (X : List (List UInt8)) (y : List UInt8), wordsL a = X ++ [y] → wordsL (a ++ [c]) = X ++ [y ++ [c]]
  | [], X, y, h => by
    have h : [[]] = X ++ [y] := h
    cases X with
    | nil =>
      simp only [List.nil_append, List.cons.injEq, and_true] at h
      subst h
      rw [List.nil_append, wordsL_cons c [] [] [] hc rfl]; rfl
    | cons x X => simp at h
  | d :: a, X, y, h => by
    rw [List.cons_append]
    by_cases hd : d = 32
    · subst hd
      rw [wordsL_cons32] at h ⊢
      cases X with
      | nil => simp at h; exact absurd h.2 (wordsL_ne a)
      | cons x X =>
        simp only [List.cons_append, List.cons.injEq] at h
        obtain ⟨rfl, h⟩ := h
        rw [wordsL_snocc c hc a X y h]; rfl
    · cases hw : wordsL a with
      | nil => exact absurd hw (wordsL_ne a)
      | cons x q =>
        rw [wordsL_cons d a x q hd hw] at h
        cases X with
        | nil =>
          simp only [List.nil_append, List.cons.injEq] at h
          obtain ⟨rfl, rfl⟩ := h
          have ih := wordsL_snocc c hc a [] x hw
          rw [wordsL_cons d _ (x ++ [c]) [] hd ih]; rfl
        | cons z X =>
          simp only [List.cons_append, List.cons.injEq] at h
          obtain ⟨rfl, rfl⟩ := h
          have ih := wordsL_snocc c hc a (x :: X) y hw
          rw [wordsL_cons d _ x (X ++ [y ++ [c]]) hd ih]; rfl
theorem wordsL_step (a : List UInt8) (c : UInt8) (X : List (List UInt8)) (y : List UInt8) (h : wordsL a = X ++ [y]) : wordsL (a ++ [c]) = if c = 32 then X ++ [y] ++ [[]] else X ++ [y ++ [c]] := by
  by_cases hc : c = 32
  · subst hc
    rw [if_pos rfl, wordsL_snoc32, h]
  · rw [if_neg hc, wordsL_snocc c hc a X y h]
theorem wordsL_cost : ∀ l : List UInt8, (wordsL l).length ≤ l.length + 1
  | [] => by simp [wordsL]
  | c :: r => by
    have ih := wordsL_cost r
    unfold wordsL
    split
    · simp; omega
    · split
      · simp
      · rename_i h
        rw [h] at ih
        simp at ih ⊢
        omega
/-- The reference's number, read from place k on. -/
theorem digitsS_at {l : List UInt8} {k : Nat} {c : UInt8} (hc : l[k]? = some c) (n : Int) : digitsS (l.drop k) k n = if c = 45 ∧ k = 0 then digitsS (l.drop (k + 1)) (k + 1) n else if c < 48 ∨ 57 < c ∨ 5 < k then none else digitsS (l.drop (k + 1)) (k + 1) (10 * n + (c.toNat - 48 : Int)) := by
  obtain ⟨hk, rfl⟩ := List.getElem?_eq_some_iff.1 hc
  rw [List.drop_eq_getElem_cons hk, digitsS_cons]
theorem readN_none {l : List UInt8} (h : digitsS l 0 0 = none) : readN l = 99999 := by unfold readN; rw [h]
theorem readN_some {l : List UInt8} {n : Int} (h : digitsS l 0 0 = some n) : readN l = if Lib.itoa (signS l n) = l then signS l n else 99999 := by unfold readN; rw [h]
theorem addSecS_names {M : Nat} {o : ObjD} {n a b c h : List UInt8} (hn : n.length ≤ M) (ho : Named M o) : Named M (addSecS o n a b c h) := by
  refine ⟨fun s hs => ?_, ho.2⟩
  rcases List.mem_append.1 hs with hs | hs
  · exact ho.1 s hs
  · obtain rfl := List.mem_singleton.1 hs
    show (txt n).size ≤ M
    rw [txt_size]; exact hn
theorem addLast_names {M : Nat} {l : List SecD} {f : FixD} (h : ∀ s ∈ l, s.name.size ≤ M) : ∀ s ∈ addLast l f, s.name.size ≤ M := by
  intro s hs
  unfold addLast at hs
  split at hs
  · exact h s hs
  · rename_i y hy
    rcases List.mem_append.1 hs with hs | hs
    · exact h s (List.dropLast_subset _ hs)
    · obtain rfl := List.mem_singleton.1 hs
      exact h y (List.mem_of_getLast? hy)
theorem symS_names {M : Nat} {o : ObjD} {n : List UInt8} {a b c : Int} (hn : n.length ≤ M) (ho : Named M o) : Named M ⟨o.secs, o.syms ++ [⟨txt n, a, b, c⟩]⟩ := by
  refine ⟨ho.1, fun s hs => ?_⟩
  rcases List.mem_append.1 hs with hs | hs
  · exact ho.2 s hs
  · obtain rfl := List.mem_singleton.1 hs
    show (txt n).size ≤ M
    rw [txt_size]; exact hn
theorem row_someD {w : World} {base n : Nat} {e : TypeId} {size : Nat} {v : Value} {xs : List Value} (h : w.ownsRow base e size v n xs) (hn : v ≠ .slice none 0 0) : ∃ g c, v = .slice (some ⟨g, 0, none⟩) n c := by
  rcases h.2 with ⟨h1, h2, h3⟩ | ⟨g, cap, cur, h1, _⟩
  · exact absurd h1 hn
  · exact ⟨g, cap, h1⟩
theorem bytesS_cut (s : ByteArray) (a b : Nat) : bytesS (s.extract a b) = ((bytesS s).take b).drop a := by
  unfold bytesS
  rw [ByteArray.data_extract, Array.toList_extract]
  simp [List.extract_eq_take_drop, List.drop_take]
theorem bytesS_get (s : ByteArray) (k : Nat) (hk : k < s.size) : (bytesS s)[k]'(by rw [bytesS_length]; exact hk) = s[k] := by simp [bytesS]; rfl
set_option maxHeartbeats 1000000 in
theorem s_l8Words (w : World) (s : ByteArray) (hs : s.size ≤ 1073741824) :
    Calls Tryz.prog 27 #[.string s] w (RetL w (wordsL (bytesS s))) := by
  obtain ⟨j0, hj0, ja0, ja1, ja2⟩ := info_parts info_str
  go_enter Tryz.func27, Tryz.ntmps27
  go_wp2_with fail
  have HL0 : Hid (OwnS (w.alloc (.cells #[.string ⟨#[]⟩] 9)) w.heap.size (.slice (some ⟨w.heap.size, 0, none⟩) 1 1) (([] ++ [[]] : List (List UInt8)).map txt)) := by
    show OwnS _ _ _ _
    have h9 := World.ownsRow_lit w #[.string ⟨#[]⟩] (e := 9) (size := 1) (base := w.heap.size) 1 (Nat.le_refl _) (by decide) rfl
    exact h9
  have HF0 := Lib.hid ((From.start w).alloc (.cells #[.string ⟨#[]⟩] 9))
  go_loopw [3, 4] (fun out i wr => ∃ (k : Nat) (X : List (List UInt8)) (y : List UInt8), k ≤ s.size ∧ i = .int .i64 (k : Int) ∧ X.length ≤ k ∧ y.length ≤ k ∧ Hid (wordsL ((bytesS s).take k) = X ++ [y]) ∧ Hid (OwnS wr w.heap.size out ((X ++ [y]).map txt)) ∧ Hid (From w.heap.size w wr)) (fun _ i _ => s.size - (intOf i).toNat)
  case atStart => exact ⟨0, [], [], Nat.zero_le _, rfl, Nat.le_refl _, Nat.le_refl _, rfl, HL0, HF0⟩
  case round =>
    clear HL0 HF0
    obtain ⟨k, X, y, hk, rfl, hX, hy, HW, HO, HF⟩ := hrel
    by_cases hlt : k < s.size
    · have i1 : (k : Int) < (s.size : Int) := by omega
      have i3 : (0 : Int) ≤ (k : Int) := by omega
      have HST := Lib.hid (wordsL_step ((bytesS s).take k) s[k] X y HW.out)
      have HTK : Hid ((bytesS s).take k ++ [s[k]] = (bytesS s).take (k + 1)) := by
        show _ = _
        have hk2 : k < (bytesS s).length := by rw [bytesS_length]; exact hlt
        rw [List.take_succ_eq_append_getElem hk2, bytesS_get]
      obtain ⟨c, hc⟩ : ∃ c, s[k] = c := ⟨_, rfl⟩
      rw [hc] at HST HTK
      obtain ⟨oa, oc, rfl⟩ : ∃ oa oc, u3 = .slice oa (X.length + 1) oc := by
        have h9 := HO.out
        unfold OwnS at h9
        rw [List.length_map, List.length_append] at h9
        exact owns_form h9
      have HO2 : Hid (wr.ownsRow w.heap.size 9 1 (.slice oa (X.length + 1) oc) (X.length + 1) (svs ((X ++ [y]).map txt))) := by
        have h9 := HO.out
        unfold OwnS at h9
        rw [List.length_map, List.length_append] at h9
        exact h9
      clear HO
      by_cases hsp : c = 32
      · subst hsp
        have HW2 : Hid (wordsL ((bytesS s).take (k + 1)) = (X ++ [y]) ++ [[]]) := by show _ = _; rw [← HTK.out, HST.out, if_pos rfl]
        clear HST HTK HW
        go_wp2_with (at_builtin; go_loud (refine wpList_append_own rfl (.tmp 16) (.tmp 17) 23 23 rfl w.heap.size 9 j0 (.string ⟨#[]⟩) 1 16 Tryz.underlying23 hj0 ja0 ja1 ja2 rfl (by decide) _ _ _ rfl (World.ownsRow.alloc HO2.out _) _ 1 [_] rfl (src_new Tryz.underlying23 _ [_] 1 1 1 _ rfl ?c0) ?c1 ?c2 ?c3 ?_))
        case c0 => first | rfl | exact ⟨rfl⟩ | (intro u hu; obtain rfl := List.mem_singleton.1 hu; rfl)
        case c1 => unfold maxLen; omega
        case c2 => omega
        case c3 => have h9 := HF.out.le; first | omega | (simp; omega)
        intro v' w4 hown hgr hpl
        have hL4 : OwnS w4 w.heap.size v' (((X ++ [y]) ++ [[]]).map txt) := by
          have h8 : OwnS w4 w.heap.size v' ((X ++ [y]).map txt ++ [(⟨#[]⟩ : ByteArray)]) := by
            refine owns_snocS ?_
            rw [List.length_map, List.length_append, List.map_append]
            exact hown
          rw [List.map_append]
          exact h8
        have hgb : ∀ k', (Value.slice oa (X.length + 1) oc).ownBlock = some k' → w.heap.size ≤ k' := fun k' hk' => (World.ownsRow.lt HO2.out k' hk').1
        have HF4 := Lib.hid (From.grown (HF.out.alloc (.cells #[.string ⟨#[]⟩] 9)) hgr (fun k' hk' => hgb k' hk'))
        have HL4 := Lib.hid hL4
        have hXl : (X ++ [y]).length ≤ k + 1 := by rw [List.length_append]; simp; omega
        clear hown hgr hpl hL4 hgb
        go_wp2_with fail
        go_roundw
        case rel => exact ⟨k + 1, X ++ [y], [], by omega, by go_num, hXl, Nat.zero_le _, HW2, HL4, HF4⟩
        case measure => simp [intOf]; try omega
      · have hb : ((c.toNat : Int) == 32) = false := by rw [beq_eq_false_iff_ne]; intro e; exact hsp (UInt8.toNat_inj.1 (by simp; omega))
        have HW2 : Hid (wordsL ((bytesS s).take (k + 1)) = X ++ [y ++ [c]]) := by show _ = _; rw [← HTK.out, HST.out, if_neg hsp]
        obtain ⟨g, gc, hv⟩   := row_someD HO2.out (by intro e; simp only [Value.slice.injEq] at e; omega)
        simp only [Value.slice.injEq] at hv
        obtain ⟨rfl, -, rfl⟩ := hv
        have cq : wr.cell? ⟨g, X.length, none⟩ = some (.string (txt y)) := by
          rw [World.ownsRow.cellAt HO2.out X.length (by omega)]
          simp [svs]
        have fq := World.ownsRow.frozenAt HO2.out X.length
        have hx : s.extract k (k + 1) = txt [c] := by
          rw [← txt_bytesS (s.extract k (k + 1)), bytesS_cut, ← HTK.out]
          have : ((bytesS s).take k).length = k := by rw [List.length_take, bytesS_length]; omega
          rw [List.drop_append_of_le_length (by omega), List.drop_of_length_le (by omega)]; rfl
        have ks := txt_sum y [c] (by simp; omega)
        have i4 : (0 : Int) ≤ (X.length : Int) + 1 - 1 := by omega
        have i5 : (k : Int) + 1 ≤ (s.size : Int) := by omega
        have hst := World.ownsRow.stored HO2.out X.length (.string (txt (y ++ [c])))
        have HST2 := Lib.hid hst
        have hgb : w.heap.size ≤ g := (World.ownsRow.lt HO2.out g rfl).1
        clear HST HTK HW hst hsp
        have HG := Lib.hid hgb
        have hXl : y.length + 1 ≤ k + 1 := by omega
        clear hgb
        go_wp2_with fail
        go_region
        go_wp2_with fail
        go_roundw
        case rel =>
          refine ⟨k + 1, X, y ++ [c], by omega, by go_num, by omega, by rw [List.length_append]; exact hXl, HW2, ?_, (HF.out.setCell (p := ⟨g, X.length, none⟩) HG.out _).drew⟩
          show OwnS _ _ _ _
          have h9 := HST2.out.1
          have e9 : (svs ((X ++ [y]).map txt)).set X.length (.string (txt (y ++ [c]))) = svs ((X ++ [y ++ [c]]).map txt) := by
            unfold svs
            simp only [List.map_append, List.map_cons, List.map_nil]
            rw [List.set_append_right _ _ (by simp)]
            simp
          rw [e9] at h9
          unfold OwnS
          rw [List.length_map, List.length_append]
          exact h9
        case measure => simp [intOf]; try omega
    · obtain rfl : s.size = k := by omega
      go_wp2_with fail
      go_ret
      have e : (bytesS s).take s.size = bytesS s := by rw [← bytesS_length, List.take_length]
      have h9 := HW.out
      rw [e] at h9
      exact ⟨_, rfl, by rw [h9]; exact HO.out, HF.out.below⟩
theorem pow_le6 {k : Nat} (h : k ≤ 5) : 10 ^ k ≤ 100000 := Nat.pow_le_pow_right (by decide) h
set_option maxHeartbeats 2000000 in
theorem s_l8Read (w : World) (s : ByteArray) (hs : s.size ≤ 1073741824) :
    Calls Tryz.prog 29 #[.string s] w fun e w' => e = .returned (.int .i64 (readN (bytesS s))) ∧ Below w.heap.size w w' := by
  obtain ⟨l, hl⟩ : ∃ l, bytesS s = l := ⟨_, rfl⟩
  have hll : l.length = s.size := by rw [← hl, bytesS_length]
  have HG : Hid (∀ (k : Nat) (h : k < s.size), l[k]? = some s[k]) := fun k h => by
    subst hl
    rw [List.getElem?_eq_getElem (by rw [bytesS_length]; exact h), bytesS_get s k h]
  have HLL := Lib.hid hll
  have HB := Lib.hid hl
  clear hll
  rw [hl]
  clear hl
  go_enter Tryz.func29, Tryz.ntmps29
  go_wp2_with fail
  go_loopw [3, 4] (fun m i wr => ∃ (k n : Nat), k ≤ s.size ∧ k ≤ 6 ∧ i = .int .i64 (k : Int) ∧ m = .int .i64 (n : Int) ∧ Hid (n < 10 ^ k) ∧ Hid (digitsS l 0 0 = digitsS (l.drop k) k (n : Int)) ∧ wr = w) (fun _ i _ => s.size - (intOf i).toNat)
  case atStart => exact ⟨0, 0, Nat.zero_le _, Nat.zero_le _, rfl, rfl, by show _ < _; decide, by show _ = _; rw [List.drop_zero]; rfl, rfl⟩
  case round =>
    obtain ⟨k, n, hk, hk6, rfl, rfl, HN, HD, rfl⟩ := hrel
    by_cases hlt : k < s.size
    · have i1 : (k : Int) < (s.size : Int) := by omega
      have i3 : (0 : Int) ≤ (k : Int) := by omega
      have hgk := HG.out k hlt
      obtain ⟨c, hc⟩ : ∃ c, s[k] = c := ⟨_, rfl⟩
      rw [hc] at hgk
      have HDA := Lib.hid (digitsS_at hgk (n : Int))
      clear hgk
      by_cases hA : c = 45 ∧ k = 0
      · obtain ⟨rfl, rfl⟩ := hA
        have hb : (((45 : UInt8).toNat : Int) == 45) = true := rfl
        have HD2 : Hid (digitsS l 0 0 = digitsS (l.drop 1) 1 (n : Int)) := by show _ = _; rw [HD.out, HDA.out, if_pos ⟨rfl, rfl⟩]
        have HN2 : Hid (n < 10 ^ 1) := by show _ < _; have := HN.out; omega
        go_wp2_with fail
        go_roundw
        case rel => exact ⟨1, n, by omega, by omega, by go_num, rfl, HN2, HD2, by first | rfl | trivial⟩
        case measure => simp [intOf]; try omega
      have HA := Lib.hid hA
      by_cases hbad : c < 48 ∨ 57 < c ∨ 5 < k
      · have E : Hid (readN l = 99999) := by
          show _ = _
          exact readN_none (by rw [HD.out, HDA.out, if_neg hA, if_pos hbad])
        by_cases h45 : c = 45
        · subst h45
          have hk0 : ((k : Int) == 0) = false := by rw [beq_eq_false_iff_ne]; intro e; exact hA ⟨rfl, by omega⟩
          have hb : (((45 : UInt8).toNat : Int) == 45) = true := rfl
          clear hA hbad
          go_wp2_with fail
          go_ret
          exact ⟨by rw [E.out]; rfl, Below.refl _ _⟩
        have hb : ((c.toNat : Int) == 45) = false := by rw [beq_eq_false_iff_ne]; intro e; exact h45 (UInt8.toNat_inj.1 (by simp; omega))
        clear hA
        by_cases h48 : c < 48
        · have h1 : (c.toNat : Int) < 48 := by have := UInt8.lt_iff_toNat_lt.1 h48; simp at this; omega
          clear hbad
          go_wp2_with fail
          go_ret
          exact ⟨by rw [E.out]; rfl, Below.refl _ _⟩
        have h1 : ¬ (c.toNat : Int) < 48 := by have := fun h => h48 (UInt8.lt_iff_toNat_lt.2 h); simp at this; omega
        by_cases h57 : 57 < c
        · have h2 : (57 : Int) < (c.toNat : Int) := by have := UInt8.lt_iff_toNat_lt.1 h57; simp at this; omega
          clear hbad
          go_wp2_with fail
          go_ret
          exact ⟨by rw [E.out]; rfl, Below.refl _ _⟩
        have h2 : ¬ (57 : Int) < (c.toNat : Int) := by have := fun h => h57 (UInt8.lt_iff_toNat_lt.2 h); simp at this; omega
        have h3 : (5 : Int) < (k : Int) := by rcases hbad with h | h | h <;> first | exact absurd h h48 | exact absurd h h57 | omega
        clear hbad
        go_wp2_with fail
        go_ret
        exact ⟨by rw [E.out]; rfl, Below.refl _ _⟩
      · have hbad2 := hbad
        simp only [not_or] at hbad2
        obtain ⟨h48, h57, h5⟩ := hbad2
        have h1 : ¬ (c.toNat : Int) < 48 := by have := fun h => h48 (UInt8.lt_iff_toNat_lt.2 h); simp at this; omega
        have h2 : ¬ (57 : Int) < (c.toNat : Int) := by have := fun h => h57 (UInt8.lt_iff_toNat_lt.2 h); simp at this; omega
        have h3 : ¬ (5 : Int) < (k : Int) := by omega
        have hb : ((c.toNat : Int) == 45) = false := by rw [beq_eq_false_iff_ne]; omega
        have hp := pow_le6 (k := k) (by omega)
        have hn := HN.out
        have hn1 : n < 100000 := by omega
        have hw8 : IntKind.u8.wrap ((c.toNat : Int) - 48) = (c.toNat : Int) - 48 := by rw [IntKind.wrap_u8]; omega
        obtain ⟨d, hd⟩ : ∃ d : Nat, (c.toNat : Int) - 48 = (d : Int) := ⟨c.toNat - 48, by omega⟩
        have hd9 : d ≤ 9 := by omega
        have HD2 : Hid (digitsS l 0 0 = digitsS (l.drop (k + 1)) (k + 1) ((10 * n + d : Nat) : Int)) := by
          show _ = _
          rw [HD.out, HDA.out, if_neg hA, if_neg hbad, hd]
          congr 1
        have HN2 : Hid (10 * n + d < 10 ^ (k + 1)) := by show _ < _; rw [Nat.pow_succ]; omega
        rw [hd] at hw8
        clear hbad hA h48 h57 hp hn
        go_wp2_with fail
        go_roundw
        case rel => exact ⟨k + 1, 10 * n + d, by omega, by omega, by go_num, by first | rfl | (congr 1; push_cast; rfl), HN2, HD2, by first | rfl | trivial⟩
        case measure => simp [intOf]; try omega
    · obtain rfl : s.size = k := by omega
      have HD2 : Hid (digitsS l 0 0 = some (n : Int)) := by
        show _ = _
        rw [HD.out, List.drop_of_length_le (by rw [HLL.out]; exact Nat.le_refl _)]
        rfl
      have hp : 10 ^ s.size ≤ 1000000 := Nat.le_trans (Nat.pow_le_pow_right (by decide) hk6) (by decide)
      have hn : n < 1000000 := by have := HN.out; omega
      clear hp HD HN
      have HE := Lib.hid (readN_some HD2.out)
      have hcmp : Hid (∀ m : Int, ((txt (Lib.itoa m)).toList = s.toList ↔ Lib.itoa m = l)) := fun m => by rw [toList_bytesS, toList_bytesS, bytesS_txt, HB.out]
      by_cases h0 : s.size = 0
      · have hl0 : l = [] := List.eq_nil_of_length_eq_zero (by rw [HLL.out]; exact h0)
        have e0 : s.toList.isEmpty = true := by rw [toList_bytesS, HB.out, hl0]; rfl
        have E1 : Hid (signS l (n : Int) = (n : Int)) := by show _ = _; rw [hl0]; rfl
        clear h0 hl0
        go_wp2_with fail
        refine (s_l8Number wr (n : Int) (by omega) (by omega)).mono ?_
        rintro e w1 ⟨rfl, k1⟩
        by_cases hq : Lib.itoa (n : Int) = l
        · have hq2 := (hcmp.out (n : Int)).2 hq
          have E : Hid (readN l = (n : Int)) := by show _ = _; rw [HE.out, E1.out, if_pos hq]
          clear hq
          go_wp2_with fail
          go_ret
          exact ⟨by rw [E.out]; rfl, k1⟩
        · have hq2 : ¬ (txt (Lib.itoa (n : Int))).toList = s.toList := fun h => hq ((hcmp.out (n : Int)).1 h)
          have hq3 : ((txt (Lib.itoa (n : Int))).toList == s.toList) = false := by simpa using hq2
          have E : Hid (readN l = 99999) := by show _ = _; rw [HE.out, E1.out, if_neg hq]
          clear hq
          go_wp2_with fail
          go_ret
          exact ⟨by rw [E.out]; rfl, k1⟩
      have e0 : s.toList.isEmpty = false := by
        rw [toList_bytesS, HB.out]
        cases hc : l with
        | nil => have h9 := HLL.out; rw [hc] at h9; exact absurd h9.symm h0
        | cons a b => rfl
      have i0 : (0 : Int) < (s.size : Int) := by omega
      have hg0 := HG.out 0 (by omega)
      obtain ⟨c, hc⟩ : ∃ c, s[0]'(by omega) = c := ⟨_, rfl⟩
      rw [hc] at hg0
      rw [← List.head?_eq_getElem?] at hg0
      have HG0 := Lib.hid hg0
      clear hg0 h0
      by_cases h45 : c = 45
      · subst h45
        have hb : (((45 : UInt8).toNat : Int) == 45) = true := rfl
        have E1 : Hid (signS l (n : Int) = -(n : Int)) := by show _ = _; unfold signS; rw [HG0.out, if_pos rfl]
        go_wp2_with fail
        refine (s_l8Number wr (-(n : Int)) (by omega) (by omega)).mono ?_
        rintro e w1 ⟨rfl, k1⟩
        by_cases hq : Lib.itoa (-(n : Int)) = l
        · have hq2 := (hcmp.out (-(n : Int))).2 hq
          have E : Hid (readN l = (-(n : Int))) := by show _ = _; rw [HE.out, E1.out, if_pos hq]
          clear hq
          go_wp2_with fail
          go_ret
          exact ⟨by rw [E.out]; rfl, k1⟩
        · have hq2 : ¬ (txt (Lib.itoa (-(n : Int)))).toList = s.toList := fun h => hq ((hcmp.out (-(n : Int))).1 h)
          have hq3 : ((txt (Lib.itoa (-(n : Int)))).toList == s.toList) = false := by simpa using hq2
          have E : Hid (readN l = 99999) := by show _ = _; rw [HE.out, E1.out, if_neg hq]
          clear hq
          go_wp2_with fail
          go_ret
          exact ⟨by rw [E.out]; rfl, k1⟩
      · have hb : ((c.toNat : Int) == 45) = false := by rw [beq_eq_false_iff_ne]; intro e; exact h45 (UInt8.toNat_inj.1 (by simp; omega))
        have E1 : Hid (signS l (n : Int) = (n : Int)) := by show _ = _; unfold signS; rw [HG0.out, if_neg (fun e => h45 (by simpa using e))]
        go_wp2_with fail
        refine (s_l8Number wr (n : Int) (by omega) (by omega)).mono ?_
        rintro e w1 ⟨rfl, k1⟩
        by_cases hq : Lib.itoa (n : Int) = l
        · have hq2 := (hcmp.out (n : Int)).2 hq
          have E : Hid (readN l = (n : Int)) := by show _ = _; rw [HE.out, E1.out, if_pos hq]
          clear hq
          go_wp2_with fail
          go_ret
          exact ⟨by rw [E.out]; rfl, k1⟩
        · have hq2 : ¬ (txt (Lib.itoa (n : Int))).toList = s.toList := fun h => hq ((hcmp.out (n : Int)).1 h)
          have hq3 : ((txt (Lib.itoa (n : Int))).toList == s.toList) = false := by simpa using hq2
          have E : Hid (readN l = 99999) := by show _ = _; rw [HE.out, E1.out, if_neg hq]
          clear hq
          go_wp2_with fail
          go_ret
          exact ⟨by rw [E.out]; rfl, k1⟩
end Go.Proofs.YtecpdhjangojiaaGreatDoor
