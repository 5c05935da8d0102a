/- Lines read: what the library's functions give (Atoi, Split), and the program's numbersOf. -/
import Derived.Test.YtecpdhjangojiaaGreatDoorDumpN
import Derived.Test.YtecpdhjangojiaaGreatDoorInv
import Derived.Lib.SplitLaws
import Derived.Lib.AtoiErrMem
namespace Go.Proofs.YtecpdhjangojiaaGreatDoor
open Go.ChangeShapes Go.WideShapes Go.ChangeAt Go.RowKit Go.Joins
set_option linter.unusedSimpArgs false
set_option linter.unusedVariables false
set_option maxRecDepth 100000
theorem var_call {w w' : World} {n : String} {c : Array Value} (h : w.var? Tryz.prog n = some c) (hb : Below w.heap.size w w') : w'.var? Tryz.prog n = some c := by
  unfold World.var? at *
  cases hg : (Tryz.prog).globalNamed n with
  | none => simp [hg] at h
  | some g =>
    simp only [hg, Option.bind_some] at h ⊢
    have hlt : g < w.heap.size := by
      rcases Nat.lt_or_ge g w.heap.size with h' | h'
      · exact h'
      · rw [Array.getElem?_eq_none h'] at h; simp at h
    rw [hb.block g hlt]
    exact h
/-- What the library's variables hold. -/
structure Env (w : World) : Prop where
  tab : Tab w
  syn : ∃ tp p, w.var? Tryz.prog "strconv.ErrSyntax" = some #[.iface tp p]
  rng : ∃ tp p, w.var? Tryz.prog "strconv.ErrRange" = some #[.iface tp p]
  mx : ∃ m, w.cell? ⟨0, 0, none⟩ = some (.int .i64 m)
theorem Env.call {w w' : World} (h : Env w) (hb : Below w.heap.size w w') : Env w' := by
  obtain ⟨h1, ⟨a, b, h2⟩, ⟨c, d, h3⟩, m, h4⟩ := h
  exact ⟨h1.call hb, ⟨a, b, var_call h2 hb⟩, ⟨c, d, var_call h3 hb⟩, m, (hb.cell (p := ⟨0, 0, none⟩) (World.block_lt_of_cell? w _ h4)).trans h4⟩
/-- What Atoi hands back. -/
def AtoiR (o : Option Int) (r : Value) : Prop := match o with
  | some v => r = .tuple #[.int .i64 v, .nilIface] ∧ -9223372036854775808 ≤ v ∧ v ≤ 9223372036854775807
  | none => ∃ x t p, r = .tuple #[.int .i64 x, .iface t p]
theorem atoi_call (s : ByteArray) (hs : s.size ≤ 281474976710656) (w : World) (he : Env w) :
    Calls Tryz.prog 73 #[.string s] w fun e w' => ∃ r, e = .returned r ∧ AtoiR (atoiO (bytesS s)) r ∧ Below w.heap.size w w' := by
  obtain ⟨-, ⟨a, b, h2⟩, ⟨c, d, h3⟩, -⟩ := he
  cases h : Lib.atoiAll s.data.toList with
  | ok v =>
    refine (Any.strconv_Atoi_ok Tryz.laysC172 s (by omega) v h w).mono ?_
    rintro e w' ⟨rfl, hw⟩
    refine ⟨_, rfl, ?_, ?_⟩
    · have e1 : atoiO (bytesS s) = some v := by unfold atoiO bytesS; rw [h]
      rw [e1]
      exact ⟨rfl, Lib.atoiAll_bounds h⟩
    · rcases hw with rfl | ⟨t, rfl⟩
      · exact Below.refl _ _
      · exact Lib.bytesWorld_below w _ t
  | range =>
    refine (Any.strconv_Atoi_range_var Tryz.laysC172 s (by omega) h c d w h3).mono ?_
    rintro e w' ⟨N, rfl, -, -, hb⟩
    refine ⟨_, rfl, ?_, hb⟩
    have e1 : atoiO (bytesS s) = none := by unfold atoiO bytesS; rw [h]
    rw [e1]
    exact ⟨_, _, _, rfl⟩
  | _ =>
    refine (Any.strconv_Atoi_syntax_var Tryz.laysC172 s (by omega) h a b w h2).mono ?_
    rintro e w' ⟨N, rfl, -, -, hb⟩
    refine ⟨_, rfl, ?_, hb⟩
    have e1 : atoiO (bytesS s) = none := by unfold atoiO bytesS; rw [h]
    rw [e1]
    exact ⟨_, _, _, rfl⟩
/-- The numbers of words. -/
def numsO : List ByteArray → Option (List Int)
  | [] => some []
  | s :: r => match atoiO (bytesS s) with
    | none => none
    | some v => (numsO r).map (v :: ·)
theorem numsO_step : ∀ (l : List ByteArray) (k : Nat) (hk : k < l.length) (ns : List Int), numsO (l.take k) = some ns → numsO (l.take (k + 1)) = (atoiO (bytesS l[k])).map fun v => ns ++ [v]
  | [], k, hk, _, _ => absurd hk (Nat.not_lt_zero _)
  | s :: l, 0, hk, ns, h => by
    simp only [List.take_zero, numsO, Option.some.injEq] at h
    subst h
    simp only [Nat.zero_add, List.take_succ_cons, List.take_zero, numsO, List.getElem_cons_zero]
    cases atoiO (bytesS s) <;> rfl
  | s :: l, k + 1, hk, ns, h => by
    simp only [List.take_succ_cons, numsO, List.getElem_cons_succ] at h ⊢
    cases ha : atoiO (bytesS s) with
    | none => rw [ha] at h; cases h
    | some v =>
      rw [ha] at h
      simp only [Option.map_eq_some_iff] at h
      obtain ⟨ms, h1, rfl⟩ := h
      have ih := numsO_step l k (by simpa using hk) ms h1
      simp only [ih]
      cases atoiO (bytesS (l[k]'(by simpa using hk))) <;> rfl
theorem numsO_none : ∀ (l : List ByteArray) (k : Nat), numsO (l.take k) = none → numsO l = none
  | [], k, h => by simp [numsO] at h
  | s :: l, 0, h => by simp [numsO] at h
  | s :: l, k + 1, h => by
    simp only [List.take_succ_cons, numsO] at h ⊢
    cases ha : atoiO (bytesS s) with
    | none => rfl
    | some v =>
      rw [ha] at h
      simp only [Option.map_eq_none_iff] at h ⊢
      exact numsO_none l k h
theorem numsO_length : ∀ (l : List ByteArray) (ns : List Int), numsO l = some ns → ns.length = l.length
  | [], ns, h => by simp only [numsO, Option.some.injEq] at h; subst h; rfl
  | s :: l, ns, h => by
    simp only [numsO] at h
    split at h
    · cases h
    · simp only [Option.map_eq_some_iff] at h
      obtain ⟨ms, h1, rfl⟩ := h
      rw [List.length_cons, List.length_cons, numsO_length l ms h1]
/-- Numbers, and whether all are. -/
def RetNums (w : World) (o : Option (List Int)) (e : Ending) (w' : World) : Prop := ∃ r, e = .returned (.tuple #[r, .bool o.isSome]) ∧ OwnI w' w.heap.size r (o.getD []) ∧ Below w.heap.size w w'
set_option maxHeartbeats 2000000 in
theorem i_numbersOf (w : World) (v : Value) (l : List ByteArray) (h : StrsAt w v l) (hs : ∀ s ∈ l, s.size ≤ 281474976710656) (hl : l.length ≤ 1000) (he : Env w) :
    Calls Tryz.prog 51 #[v] w (RetNums w (numsO l)) := by
  obtain ⟨j0, hj0, ja0, ja1, ja2⟩ := info_parts info_int
  have HS := Lib.hid hs
  have HE := Lib.hid he
  obtain ⟨a, cap, rfl, hcap, hmax, -, hcell⟩ := h.form
  have HC := Lib.hid hcell
  clear h hcell hs he
  unfold maxLen at hmax
  obtain ⟨n, hn⟩ : ∃ n, l.length = n := ⟨_, rfl⟩
  rw [hn] at hcap hl ⊢
  have HN := Lib.hid hn
  clear hn
  go_enter Tryz.func51, Tryz.ntmps51
  go_wp2_with fail
  go_loopw [4, 12] (fun out i wr => ∃ (k : Nat) (ns : List Int), k ≤ n ∧ i = .int .i64 (k : Int) ∧ ns.length = k ∧ Hid (numsO (l.take k) = some ns) ∧ Hid (OwnI wr w.heap.size out ns) ∧ Hid (From w.heap.size w wr)) (fun _ i _ => n - (intOf i).toNat)
  case atStart =>
    exact ⟨0, [], Nat.zero_le _, rfl, rfl, rfl, (by
      show OwnI _ _ _ _
      have h9 := World.ownsRow_lit w #[] (e := 3) (size := 1) (base := w.heap.size) 0 (Nat.le_refl _) (Nat.zero_le _) rfl
      unfold OwnI
      simpa [ivs] using h9), (From.start w).alloc _⟩
  case round =>
    obtain ⟨k, ns, hk, rfl, hnk, HNS, HO, HF⟩ := hrel
    by_cases hlt : k < n
    · have hlt' : k < l.length := by rw [HN.out]; exact hlt
      obtain ⟨b, off, rfl, hc⟩ := HC.out (by omega)
      have c0 := hc k hlt'
      have hbl : b < w.heap.size := World.block_lt_of_cell? w _ c0
      have g0 := (HF.out.below.cell (p := ⟨b, off + k, none⟩) hbl).trans c0
      have i1 : (k : Int) < (n : Int) := by omega
      have i3 : (0 : Int) ≤ (k : Int) := by omega
      have hsz := HS.out _ (List.getElem_mem hlt')
      have HST := Lib.hid (numsO_step l k hlt' ns HNS.out)
      have HTL := Lib.hid (numsO_none l (k + 1))
      obtain ⟨x, hx⟩ : ∃ x, l[k] = x := ⟨_, rfl⟩
      rw [hx] at g0 hsz HST
      have HEr := Lib.hid (HE.out.call HF.out.below)
      clear hc c0 hx
      go_wp2_with fail
      refine (atoi_call x hsz wr HEr.out).mono ?_
      rintro e w2 ⟨r, rfl, hr, k2⟩
      have HO := Lib.hid (owns_call HO.out k2)
      have HF := Lib.hid (HF.out.call k2)
      clear k2 HEr g0
      cases ha : atoiO (bytesS x) with
      | none =>
        rw [ha] at hr
        obtain ⟨y, t, p, rfl⟩ := hr
        have hz : Hid (numsO l = none) := HTL.out (by rw [HST.out, ha]; rfl)
        clear ha
        go_wp2_with fail
        go_ret2
        exact ⟨_, by rw [hz.out]; rfl, by rw [hz.out]; exact World.ownsRow_nil _ _ _ _, HF.out.below⟩
      | some y =>
        rw [ha] at hr
        obtain ⟨rfl, -⟩ := hr
        have HNS2 : Hid (numsO (l.take (k + 1)) = some (ns ++ [y])) := by show _ = _; rw [HST.out, ha]; rfl
        clear ha HNS
        go_wp2_with (at_builtin; go_loud (refine wpList_append_own rfl (.tmp 23) (.tmp 25) 77 77 rfl w.heap.size 3 j0 (.int .i64 0) 1 8 Tryz.underlying77 hj0 ja0 ja1 ja2 rfl (by decide) _ _ _ rfl (World.ownsRow.alloc HO.out _) _ 1 [_] rfl (src_new Tryz.underlying77 _ [_] 1 1 1 _ rfl ?c0) ?c1 ?c2 ?c3 ?_))
        case c0 => first | rfl | exact ⟨rfl⟩ | (intro u hu; obtain rfl := List.mem_singleton.1 hu; rfl)
        case c1 => unfold maxLen; omega
        case c2 => omega
        case c3 => have h9 := HF.out.le; first | omega | (simp; omega)
        intro v' w4 hown hgr hpl
        have HO4 := Lib.hid (owns_snocI (by rw [hnk]; exact hown))
        have HF4 := Lib.hid (From.grown (HF.out.alloc (.cells #[.int .i64 y] 3)) hgr (fun k' hk' => (World.ownsRow.lt HO.out k' hk').1))
        have hl4 : (ns ++ [y]).length = k + 1 := by rw [List.length_append, hnk]; rfl
        clear hown hgr hpl HO HF
        go_wp2_with fail
        go_roundw
        case rel => exact ⟨k + 1, ns ++ [y], by omega, by go_num, hl4, HNS2, HO4, HF4⟩
        case measure => simp [intOf]; try omega
    · obtain rfl : n = k := by omega
      have hz : Hid (numsO l = some ns) := by
        show _ = _
        have h9 := HNS.out
        rw [← HN.out, List.take_length] at h9
        exact h9
      clear HNS
      go_wp2_with fail
      go_ret2
      exact ⟨_, by rw [hz.out]; rfl, by rw [hz.out]; exact HO.out, HF.out.below⟩
/-! Split at a space. -/
theorem splitK_succ (sep : List UInt8) (save k : Nat) (s : List UInt8) : Lib.splitK sep save (k + 1) s = if Lib.index s sep == -1 then [s] else s.take ((Lib.index s sep).toNat + save) :: Lib.splitK sep save k (s.drop ((Lib.index s sep).toNat + sep.length)) := rfl
theorem split_words : ∀ (n : Nat) (s : List UInt8), s.length ≤ n → Lib.splitK [32] 0 (Lib.count s [32]) s = wordsL s
  | n, s, hn => by
    rcases Lib.index_spec s [32] with ⟨h, hno⟩ | ⟨i, h, hi, ho, hN⟩
    · rw [Lib.count_miss h]
      have h32 : (32 : UInt8) ∉ s := fun hm => by
        obtain ⟨j, hj, e⟩ := List.mem_iff_getElem.1 hm
        have := hno j (by omega)
        unfold Lib.occAt at this
        rw [List.drop_eq_getElem_cons hj, e] at this
        simp at this
      have := wordsL_line [] s h32 (fun x hx => by cases hx)
      unfold lineOf spaced at this
      rw [List.append_nil] at this
      rw [this]
      rfl
    · have hg := Lib.occAt_head (t := []) rfl ho
      obtain ⟨hil, hie⟩ := List.getElem?_eq_some_iff.1 hg
      have h32 : (32 : UInt8) ∉ s.take i := fun hm => by
        obtain ⟨j, hj, e⟩ := List.mem_iff_getElem.1 hm
        rw [List.length_take] at hj
        rw [List.getElem_take] at e
        have := hN j (by omega)
        unfold Lib.occAt at this
        rw [List.drop_eq_getElem_cons (by omega), e] at this
        simp at this
      cases n with
      | zero => omega
      | succ n =>
        have ih := split_words n (s.drop (i + 1)) (by rw [List.length_drop]; omega)
        have es : s = s.take i ++ 32 :: s.drop (i + 1) := by
          rw [← hie, ← List.drop_eq_getElem_cons hil, List.take_append_drop]
        rw [Lib.count_hit (by simp) h, Nat.add_comm 1]
        have e1 : wordsL s = s.take i :: wordsL (s.drop (i + 1)) := by
          conv => lhs; rw [es]
          have h2 : wordsL (32 :: s.drop (i + 1)) = [] :: wordsL (s.drop (i + 1)) := by
            conv => lhs; unfold wordsL
            rw [if_pos rfl]
          have := wordsL_word (s.take i) (32 :: s.drop (i + 1)) h32 [] _ h2
          rw [this, List.append_nil]
        rw [e1, ← ih]
        rw [splitK_succ, h, if_neg (by simp)]
        simp
  termination_by n => n
theorem split_call (s : ByteArray) (hs : s.size < 4294967281) (w : World) (he : Env w) :
    Calls Tryz.prog 49 #[.string s, .string ⟨#[32]⟩] w fun e w' => ∃ ws : List ByteArray, e = .returned (.slice (some ⟨w.heap.size, 0, none⟩) ws.length ws.length) ∧ w' = w.alloc (.cells (svs ws).toArray 9) ∧ ws.map bytesS = wordsL (bytesS s) ∧ ws.length ≤ s.size + 1 := by
  obtain ⟨-, -, -, m, hm⟩ := he
  refine (Any.strings_Split { Tryz.laysM146 with } Tryz.laysM146.i9 s ⟨#[32]⟩ m w hs hm (by decide)).mono ?_
  rintro e w' ⟨rfl, rfl⟩
  have hl := Lib.splitB_all ⟨#[32]⟩ (by decide) 0 (Lib.countB s ⟨#[32]⟩) s rfl
  refine ⟨Lib.splitB ⟨#[32]⟩ 0 (Lib.countB s ⟨#[32]⟩) s, by rw [hl], rfl, ?_, ?_⟩
  · have h1 := Lib.splitB_data ⟨#[32]⟩ 0 (Lib.countB s ⟨#[32]⟩) s
    have h2 := split_words s.data.toList.length s.data.toList (Nat.le_refl _)
    unfold bytesS
    rw [← h2]
    exact h1
  · rw [hl]
    have := Lib.countB_le ⟨#[32]⟩ (by decide) s.size s (Nat.le_refl _)
    omega
end Go.Proofs.YtecpdhjangojiaaGreatDoor
