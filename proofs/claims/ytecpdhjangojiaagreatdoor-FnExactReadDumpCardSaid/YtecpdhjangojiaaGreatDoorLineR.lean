/- Lines read, one after another: the reference's ReadDump. -/
import Derived.Test.YtecpdhjangojiaaGreatDoorLineS
import Derived.Test.YtecpdhjangojiaaGreatDoorDumpS
import Derived.BigQuiet
namespace Go.Proofs.YtecpdhjangojiaaGreatDoor
open Go.ChangeShapes Go.WideShapes Go.ChangeAt Go.RowKit Go.Joins
set_option linter.unusedSimpArgs false
set_option linter.unusedVariables false
set_option maxRecDepth 100000
theorem l8Read_txt (w : World) (x : List UInt8) (hx : x.length ≤ 1073741824) (a : Int) (ha : readN x = a) : Calls Tryz.prog 29 #[.string (txt x)] w fun e w' => e = .returned (.int .i64 a) ∧ Below w.heap.size w w' := by
  have := s_l8Read w (txt x) (by rw [txt_size]; exact hx)
  rw [bytesS_txt, ha] at this
  exact this
theorem l1In_at (n lo hi : Int) (b : Bool) (h : withinB n lo hi = b) (w : World) : Calls Tryz.prog 28 #[.int .i64 n, .int .i64 lo, .int .i64 hi] w fun e w' => e = .returned (.bool b) ∧ w = w' := by
  have := l1In_any n lo hi w
  rw [h] at this
  exact this
theorem txtList_iff (x l : List UInt8) : (txt x).toList = l ↔ x = l := by rw [toList_bytesS, bytesS_txt]
theorem few_sec {k : Nat} {o : ObjD} (h : Few k o) (s : SecD) (hs : s.fix = []) : Few (k + 1) ⟨o.secs ++ [s], o.syms⟩ := by
  refine ⟨?_, Nat.le_succ_of_le h.2.1, fun y hy => ?_⟩
  · have := h.1
    simp only [List.length_append, List.length_cons, List.length_nil]; omega
  · rcases List.mem_append.1 hy with hy | hy
    · exact Nat.le_succ_of_le (h.2.2 y hy)
    · obtain rfl := List.mem_singleton.1 hy
      rw [hs]; exact Nat.zero_le _
theorem few_sym {k : Nat} {o : ObjD} (h : Few k o) (s : SymD) : Few (k + 1) ⟨o.secs, o.syms ++ [s]⟩ := by
  refine ⟨Nat.le_succ_of_le h.1, ?_, fun y hy => Nat.le_succ_of_le (h.2.2 y hy)⟩
  have := h.2.1
  simp only [List.length_append, List.length_cons, List.length_nil]; omega
theorem five_six : ∀ {ws : List (List UInt8)} {x0 : List UInt8}, ws[0]? = some x0 → (ws.length = 5 ∨ ws.length = 6) → ∃ x1 x2 x3 x4 tl, ws = x0 :: x1 :: x2 :: x3 :: x4 :: tl ∧ (ws.length = 6 → ∃ h, tl = [h]) ∧ (ws.length = 5 → tl = [])
  | [y0, y1, y2, y3, y4], x0, h0, _ => by
    simp only [List.getElem?_cons_zero, Option.some.injEq] at h0
    subst h0
    exact ⟨y1, y2, y3, y4, [], rfl, (fun h => by cases h), fun _ => rfl⟩
  | [y0, y1, y2, y3, y4, y5], x0, h0, _ => by
    simp only [List.getElem?_cons_zero, Option.some.injEq] at h0
    subst h0
    exact ⟨y1, y2, y3, y4, [y5], rfl, (fun _ => ⟨y5, rfl⟩), fun h => by cases h⟩
  | [], _, _, h => by simp at h
  | [_], _, _, h => by simp at h
  | [_, _], _, _, h => by simp at h
  | [_, _, _], _, _, h => by simp at h
  | [_, _, _, _], _, _, h => by simp at h
  | _ :: _ :: _ :: _ :: _ :: _ :: _ :: _, _, _, h => by simp at h
theorem wordsS_fix {o : ObjD} (h : o.secs ≠ []) (n a b c : List UInt8) : wordsS o [fixT, n, a, b, c] = some ⟨addLast o.secs (readN n, readN a, readN b, readN c), o.syms⟩ := by
  simp only [wordsS]
  rw [if_neg (by decide), if_pos ⟨trivial, h⟩]
theorem wordsS_none {o : ObjD} : ∀ {ws : List (List UInt8)} {x0 : List UInt8}, ws[0]? = some x0 → ¬ (x0 = secT ∧ (ws.length = 5 ∨ ws.length = 6)) → ¬ (x0 = fixT ∧ ws.length = 5 ∧ o.secs ≠ []) → ¬ (x0 = symT ∧ ws.length = 5) → wordsS o ws = none
  | [y0, y1, y2, y3, y4], x0, h0, h1, h2, h3 => by
    simp only [List.getElem?_cons_zero, Option.some.injEq] at h0
    subst h0
    show (if y0 = secT then _ else if y0 = fixT ∧ o.secs ≠ [] then _ else if y0 = symT then _ else none) = none
    rw [if_neg (fun h => h1 ⟨h, .inl rfl⟩), if_neg (fun h => h2 ⟨h.1, rfl, h.2⟩), if_neg (fun h => h3 ⟨h, rfl⟩)]
  | [y0, y1, y2, y3, y4, y5], x0, h0, h1, h2, h3 => by
    simp only [List.getElem?_cons_zero, Option.some.injEq] at h0
    subst h0
    show (if y0 = secT then _ else none) = none
    rw [if_neg (fun h => h1 ⟨h, .inr rfl⟩)]
  | [], _, _, _, _, _ => rfl
  | [_], _, _, _, _, _ => rfl
  | [_, _], _, _, _, _, _ => rfl
  | [_, _, _], _, _, _, _, _ => rfl
  | [_, _, _, _], _, _, _, _, _ => rfl
  | _ :: _ :: _ :: _ :: _ :: _ :: _ :: _, _, _, _, _, _ => rfl
set_option maxHeartbeats 16000000 in
theorem s_ReadDump (w : World) (v : Value) (l : List ByteArray) (h : StrsAt w v l) (hs : ∀ s ∈ l, s.size ≤ 1073741824) (hl : l.length ≤ 1073741824) :
    Calls Tryz.prog 7 #[v] w (RetDump w (readD lineS (l.map bytesS))) := by
  have HS := Lib.hid hs
  have HV0 := Lib.hid h
  obtain ⟨a, cap, rfl, hcap, hmax, -, hcell⟩ := h.form
  have HC := Lib.hid hcell
  clear h hcell hs
  unfold maxLen at hmax
  obtain ⟨n, hn⟩ : ∃ n, l.length = n := ⟨_, rfl⟩
  rw [hn] at hcap hl ⊢
  have HN := Lib.hid hn
  clear hn
  go_enter Tryz.func7, Tryz.ntmps7
  go_wp2_with fail
  obtain ⟨X, hX⟩ : ∃ X, w.heap.size = X := ⟨_, rfl⟩
  have hsz : (w.alloc (.cells #[.slice none 0 0, .slice none 0 0] 28)).heap.size = X + 1 := by rw [← hX]; simp
  have HR0 := Lib.hid ((Blk.newAt w #[.slice none 0 0, .slice none 0 0] 28 X hX.symm).alloc (.cells #[.slice none 0 0, .slice none 0 0] 28))
  have HB0 := Lib.hid (Blk.newAt (w.alloc (.cells #[.slice none 0 0, .slice none 0 0] 28)) #[.slice none 0 0, .slice none 0 0] 28 (X + 1) hsz.symm)
  have HF0 := Lib.hid (((From.start w).alloc (.cells #[.slice none 0 0, .slice none 0 0] 28)).alloc (.cells #[.slice none 0 0, .slice none 0 0] 28))
  have hsz2 : ((w.alloc (.cells #[.slice none 0 0, .slice none 0 0] 28)).alloc (.cells #[.slice none 0 0, .slice none 0 0] 28)).heap.size = X + 2 := by rw [← hX]; simp
  rw [hX] at HF0
  generalize hw0 : (w.alloc (.cells #[.slice none 0 0, .slice none 0 0] 28)).alloc (.cells #[.slice none 0 0, .slice none 0 0] 28) = w0 at *
  have HX0 : Hid (BoxO w0 (X + 1) (X + 2) ⟨[], []⟩) := ⟨_, _, [], HB0.out, rfl, ⟨World.ownsRow_nil _ _ _ _, (fun x hx => by cases hx), by simp [blksOf, Value.ownBlock]⟩, World.ownsRow_nil _ _ _ _, by omega, by omega⟩
  clear hw0 HB0 hsz hsz2
  try simp only [hX]
  go_loopw [5] (fun i wr => ∃ (k : Nat) (o : ObjD), k ≤ n ∧ i = .int .i64 (k : Int) ∧ Hid (readF lineS ⟨[], []⟩ ((l.take k).map bytesS) = some o) ∧ Hid (BoxO wr (X + 1) (X + 2) o) ∧ Hid (Few k o) ∧ Hid (Named 1073741824 o) ∧ Hid (Blk wr X #[.slice none 0 0, .slice none 0 0] 28) ∧ Hid (From X w wr)) (fun i _ => n - (intOf i).toNat)
  case atStart => exact ⟨0, ⟨[], []⟩, Nat.zero_le _, rfl, rfl, HX0, ⟨Nat.zero_le _, Nat.zero_le _, (fun s hs => by cases hs)⟩, ⟨(fun s hs => by cases hs), (fun s hs => by cases hs)⟩, HR0, HF0⟩
  case round =>
    clear HX0 HR0 HF0
    obtain ⟨k, o, hk, rfl, HRF, HX, HW, HNM, HR, HF⟩ := hrel
    by_cases hlt : k < n
    · have i1 : (k : Int) < (n : Int) := by omega
      have i0 : (0 : Int) ≤ (k : Int) := by omega
      have hlt' : k < l.length := by have := HN.out; omega
      obtain ⟨b, off, rfl, hc⟩ := HC.out (by omega)
      have hF : Below w.heap.size w wr := by rw [hX]; exact HF.out.below
      have hck := hc k hlt'
      have g0 := (hF.cell (p := ⟨b, off + k, none⟩) (World.block_lt_of_cell? w _ hck)).trans hck
      clear hc hck
      have hsk := HS.out _ (List.getElem_mem hlt')
      have HST := Lib.hid (readF_step lineS l k hlt' _ _ HRF.out)
      generalize l[k] = x at *
      have HST2 : Hid (∀ o1, wordsS o (wordsL (bytesS x)) = some o1 → readF lineS ⟨[], []⟩ ((l.take (k + 1)).map bytesS) = some o1) := fun o1 h1 => by rw [HST.out]; exact h1
      have HSN : Hid (wordsS o (wordsL (bytesS x)) = none → readD lineS (l.map bytesS) = none) := fun h1 => by
        unfold readD
        rw [readF_stop lineS l (k + 1) _ (by rw [HST.out]; exact h1)]
      clear HST hF
      go_wp2_with fail
      refine (s_l8Words wr x hsk).mono ?_
      rintro e w1 ⟨r, rfl, hr, hb1⟩
      clear g0
      have HSZ : Hid (∀ y ∈ wordsL (bytesS x), y.length ≤ 1073741824) := fun y hy => by
        have h1 := wordsL_le (bytesS x) y hy
        rw [bytesS_length] at h1
        omega
      have hwl := wordsL_cost (bytesS x)
      rw [bytesS_length] at hwl
      have hwn := wordsL_ne (bytesS x)
      generalize wordsL (bytesS x) = ws at *
      obtain ⟨L, hL⟩ : ∃ L, ws.length = L := ⟨_, rfl⟩
      have hL0 : 0 < L := by rw [← hL]; exact List.length_pos_iff.2 hwn
      have hrow : w1.ownsRow wr.heap.size 9 1 r L (svs (ws.map txt)) := by have h9 := hr; unfold OwnS at h9; rw [List.length_map, hL] at h9; exact h9
      obtain ⟨W, wk, rfl⟩ := row_someD hrow (by intro e; subst e; obtain ⟨a', c', h9⟩ := owns_form hrow; injection h9 with h1 h2 h3; omega)
      have hWl := (World.ownsRow.lt hrow W rfl).2
      have HWC : Hid (∀ (j : Nat) (y : List UInt8), ws[j]? = some y → w1.cell? ⟨W, j, none⟩ = some (.string (txt y))) := fun j y hy => by
        have hj : j < L := by obtain ⟨h9, -⟩ := List.getElem?_eq_some_iff.1 hy; omega
        rw [World.ownsRow.cellAt hrow j (by omega)]
        unfold svs
        rw [List.getElem?_map, List.getElem?_map, hy]; rfl
      have hLL : L ≤ 1073741825 := by omega
      have HLN := Lib.hid hL
      have HX1 := Lib.hid (HX.out.call hb1)
      have HR := Lib.hid (HR.out.call hb1)
      have HF := Lib.hid (HF.out.call hb1)
      have HXW : Hid (X ≤ w1.heap.size) := HF.out.le
      clear hr hrow hwl hwn hL hb1 HX HRF hlt' hsk
      obtain ⟨x0, hx0⟩ : ∃ y, ws[0]? = some y := ⟨_, List.getElem?_eq_getElem (by rw [HLN.out]; exact hL0)⟩
      have HX00 := Lib.hid hx0
      have cw0 := HWC.out 0 x0 hx0
      clear hx0
      obtain ⟨sb, hsb⟩ : ∃ sb : Bool, decide (x0 = secT ∧ (L = 5 ∨ L = 6)) = sb := ⟨_, rfl⟩
      have HSB := Lib.hid hsb
      clear hsb
      have iL0 : (0 : Int) < (L : Int) := by omega
      go_upto_region 7 with fail
      go_cut [26] from 14 to 154 (fun c wx => c = .bool sb ∧ wx = w1)
      case first =>
        by_cases h1 : x0 = secT
        · have e1 := (txtList_iff x0 [115, 101, 99, 116, 105, 111, 110]).2 h1
          by_cases h2 : L = 5 ∨ L = 6
          · have E : Hid (sb = true) := by show _ = _; rw [← HSB.out]; simp [h1, h2]
            have hwi : withinB (L : Int) 5 6 = true := (withinB_iff _ _ _).2 (by omega)
            clear h1
            go_wp2_with fail
            refine (l1In_at _ _ _ _ hwi w1).mono ?_
            rintro e w' ⟨rfl, rfl⟩
            go_wp2_with fail
            go_meet
            case rel => exact ⟨by rw [E.out], rfl⟩
          · have E : Hid (sb = false) := by show _ = _; rw [← HSB.out]; simp [h2]
            have hwi : withinB (L : Int) 5 6 = false := by
              cases hq : withinB (L : Int) 5 6 with
              | false => rfl
              | true => have := (withinB_iff _ _ _).1 hq; omega
            clear h1
            go_wp2_with fail
            refine (l1In_at _ _ _ _ hwi w1).mono ?_
            rintro e w' ⟨rfl, rfl⟩
            go_wp2_with fail
            go_meet
            case rel => exact ⟨by rw [E.out], rfl⟩
        · have e1 := fun e => h1 ((txtList_iff x0 [115, 101, 99, 116, 105, 111, 110]).1 e)
          have e2 : ((txt x0).toList == [115, 101, 99, 116, 105, 111, 110]) = false := by simpa using e1
          have E : Hid (sb = false) := by show _ = _; rw [← HSB.out]; simp [h1]
          clear h1
          go_wp2_with fail
          go_meet
          case rel => exact ⟨by rw [E.out], rfl⟩
      case rest =>
        obtain ⟨rfl, rfl⟩ := hcut
        obtain ⟨w1, rfl⟩ : ∃ w1, w1 = wc := ⟨_, rfl⟩
        cases sb with
        | true =>
          obtain ⟨h1, h2⟩ := of_decide_eq_true HSB.out
          subst h1
          obtain ⟨x1, x2, x3, x4, tl, hws, ht6, ht5⟩ := five_six HX00.out (by rw [HLN.out]; exact h2)
          rw [HLN.out] at ht6 ht5
          have HWS := Lib.hid hws
          have HT6 := Lib.hid ht6
          have HT5 := Lib.hid ht5
          have cw1 := HWC.out 1 x1 (by rw [hws]; rfl)
          have cw2 := HWC.out 2 x2 (by rw [hws]; rfl)
          have cw3 := HWC.out 3 x3 (by rw [hws]; rfl)
          have cw4 := HWC.out 4 x4 (by rw [hws]; rfl)
          have hz1 := HSZ.out x1 (by rw [hws]; simp)
          have hz2 := HSZ.out x2 (by rw [hws]; simp)
          have hz3 := HSZ.out x3 (by rw [hws]; simp)
          have hz4 := HSZ.out x4 (by rw [hws]; simp)
          obtain ⟨na, hna⟩ : ∃ a, readN x2 = a := ⟨_, rfl⟩
          obtain ⟨nb, hnb⟩ : ∃ a, readN x3 = a := ⟨_, rfl⟩
          obtain ⟨nc, hnc⟩ : ∃ a, readN x4 = a := ⟨_, rfl⟩
          have HNA := Lib.hid hna
          have HNB := Lib.hid hnb
          have HNC := Lib.hid hnc
          have hL56 : 5 ≤ L ∧ L ≤ 6 := by omega
          obtain ⟨hL5, hL6⟩ := hL56
          have iL1 : (1 : Int) < (L : Int) := by omega
          have iL2 : (2 : Int) < (L : Int) := by omega
          have iL3 : (3 : Int) < (L : Int) := by omega
          have iL4 : (4 : Int) < (L : Int) := by omega
          clear hws ht6 ht5 hna hnb hnc h2
          go_upto_region 8 with fail
          let f0 : Nat → Value := fun i => match i with
            | 0 => .slice (some ⟨W, 0, none⟩) L wk
            | 1 => .pointer (some ⟨W, 1, none⟩)
            | 2 => .string (txt x1)
            | 3 => .slice (some ⟨W, 0, none⟩) L wk
            | 4 => .pointer (some ⟨W, 2, none⟩)
            | 5 => .string (txt x2)
            | 6 => .int .i64 na
            | 7 => .slice (some ⟨W, 0, none⟩) L wk
            | 8 => .pointer (some ⟨W, 3, none⟩)
            | 9 => .string (txt x3)
            | 10 => .int .i64 nb
            | 11 => .agg #[.string (txt x1), .int .i64 na, .int .i64 nb, .slice none 0 0, .int .i64 0, .slice none 0 0]
            | _ => undef
          let V : (Nat → Bool) → Nat → Value → World → Prop := fun f i v u => (i = 12 → ∃ q c, v = .pointer (some ⟨q, 0, none⟩) ∧ w1.heap.size ≤ q ∧ Blk u q c 52 ∧ c.size = 6 ∧ (f 13 = true → c = #[.string (txt x1), .int .i64 na, .int .i64 nb, .slice none 0 0, .int .i64 0, .slice none 0 0])) ∧ (i ≠ 12 → v = f0 i)
          have hsame : ∀ k, k ≠ 13 → ∀ (f : Nat → Bool) j x u, V f j x u → V (setl f k) j x u := by
            intro k hk f j x u h
            refine ⟨fun e => ?_, h.2⟩
            obtain ⟨q, c, h1, h2, h3, h4, h5⟩ := h.1 e
            exact ⟨q, c, h1, h2, h3, h4, fun hf => h5 (by rwa [setl_ne (Ne.symm hk)] at hf)⟩
          have halloc : ∀ k, k ≠ 13 → ∀ (f : Nat → Bool) j x u u', f 13 = false → Below u.heap.size u u' → V f j x u → V (setl f k) j x u' := by
            intro k hk f j x u u' hf hb h
            refine ⟨fun e => ?_, h.2⟩
            obtain ⟨q, c, h1, h2, h3, h4, h5⟩ := h.1 e
            exact ⟨q, c, h1, h2, h3.call hb, h4, fun hf' => by rw [setl_ne (Ne.symm hk), hf] at hf'; cases hf'⟩
          refine wp_region_flag V (fun _ _ u => From w1.heap.size w1 u) [[], [0], [1], [], [3], [4], [5], [], [7], [8], [9], [2, 6, 10], [], [11, 12]] [[], [0], [0, 1], [], [3], [3, 4], [3, 4, 5], [], [7], [7, 8], [3, 4, 5, 6, 7, 8, 9], [0, 1, 2, 3, 4, 5, 6, 7, 8, 9, 10], [], [0, 1, 2, 3, 4, 5, 6, 7, 8, 9, 10, 11, 12]] [12] (by kernel_rfl) (by kernel_rfl) (by kernel_rfl) (by kernel_rfl) (by kernel_rfl) (From.start w1).drew ?ho ?hq
          case ho =>
            refine ⟨?_, ?_, ?_, ?_, ?_, ?_, ?_, ?_, ?_, ?_, ?_, ?_, ?_, ?_, trivial⟩
            · intro n f a9 u K' hfr hn hl hS hv hK'
              have eA8 : a9.tmps.getD 6 undef = .slice (some ⟨W, 0, none⟩) L wk := hfr 6 (not_dst (by kernel_rfl))
              have eB8 : (a9.tmps[6]?).getD undef = .slice (some ⟨W, 0, none⟩) L wk := by simpa using eA8
              refine owe_run rfl (wp_val (v := .slice (some ⟨W, 0, none⟩) L wk) ?_ (hK' _ _ hS (fun j d hd hj h => hsame 0 (by decide) f j _ u h) (fun _ => ⟨fun e => absurd e (by decide), fun _ => rfl⟩)))
              first
                | (go_simp; done)
                | (go_simp; rfl)
            · intro n f a9 u K' hfr hn hl hS hv hK'
              have eA0 : a9.tmps.getD 36 undef = .slice (some ⟨W, 0, none⟩) L wk := hv.1.2 (by decide)
              have eB0 : (a9.tmps[36]?).getD undef = .slice (some ⟨W, 0, none⟩) L wk := by simpa using eA0
              refine owe_run rfl (wp_val (v := .pointer (some ⟨W, 1, none⟩)) ?_ (hK' _ _ hS (fun j d hd hj h => hsame 1 (by decide) f j _ u h) (fun _ => ⟨fun e => absurd e (by decide), fun _ => rfl⟩)))
              first
                | (go_simp; done)
                | (go_simp; rfl)
            · intro n f a9 u K' hfr hn hl hS hv hK'
              have eA0 : a9.tmps.getD 37 undef = .pointer (some ⟨W, 1, none⟩) := hv.1.2 (by decide)
              have eB0 : (a9.tmps[37]?).getD undef = .pointer (some ⟨W, 1, none⟩) := by simpa using eA0
              have cu := (hS.below.cell (p := ⟨W, 1, none⟩) hWl).trans cw1
              refine owe_run rfl (wp_val (v := .string (txt x1)) ?_ (hK' _ _ hS (fun j d hd hj h => hsame 2 (by decide) f j _ u h) (fun _ => ⟨fun e => absurd e (by decide), fun _ => rfl⟩)))
              first
                | (go_simp; done)
                | (go_simp; rfl)
            · intro n f a9 u K' hfr hn hl hS hv hK'
              have eA8 : a9.tmps.getD 6 undef = .slice (some ⟨W, 0, none⟩) L wk := hfr 6 (not_dst (by kernel_rfl))
              have eB8 : (a9.tmps[6]?).getD undef = .slice (some ⟨W, 0, none⟩) L wk := by simpa using eA8
              refine owe_run rfl (wp_val (v := .slice (some ⟨W, 0, none⟩) L wk) ?_ (hK' _ _ hS (fun j d hd hj h => hsame 3 (by decide) f j _ u h) (fun _ => ⟨fun e => absurd e (by decide), fun _ => rfl⟩)))
              first
                | (go_simp; done)
                | (go_simp; rfl)
            · intro n f a9 u K' hfr hn hl hS hv hK'
              have eA0 : a9.tmps.getD 39 undef = .slice (some ⟨W, 0, none⟩) L wk := hv.1.2 (by decide)
              have eB0 : (a9.tmps[39]?).getD undef = .slice (some ⟨W, 0, none⟩) L wk := by simpa using eA0
              refine owe_run rfl (wp_val (v := .pointer (some ⟨W, 2, none⟩)) ?_ (hK' _ _ hS (fun j d hd hj h => hsame 4 (by decide) f j _ u h) (fun _ => ⟨fun e => absurd e (by decide), fun _ => rfl⟩)))
              first
                | (go_simp; done)
                | (go_simp; rfl)
            · intro n f a9 u K' hfr hn hl hS hv hK'
              have eA0 : a9.tmps.getD 40 undef = .pointer (some ⟨W, 2, none⟩) := hv.1.2 (by decide)
              have eB0 : (a9.tmps[40]?).getD undef = .pointer (some ⟨W, 2, none⟩) := by simpa using eA0
              have cu := (hS.below.cell (p := ⟨W, 2, none⟩) hWl).trans cw2
              refine owe_run rfl (wp_val (v := .string (txt x2)) ?_ (hK' _ _ hS (fun j d hd hj h => hsame 5 (by decide) f j _ u h) (fun _ => ⟨fun e => absurd e (by decide), fun _ => rfl⟩)))
              first
                | (go_simp; done)
                | (go_simp; rfl)
            · intro n f a9 u K' hfr hn hl hS hv hK'
              have eA0 : a9.tmps.getD 41 undef = .string (txt x2) := hv.1.2 (by decide)
              have eB0 : (a9.tmps[41]?).getD undef = .string (txt x2) := by simpa using eA0
              refine owe_run rfl (wp_fn rfl (args1 eA0) (enter_fn Tryz.func29 (by kernel_rfl) rfl _ _) ((l8Read_txt u x2 hz2 na HNA.out).mono ?_))
              rintro e u2 ⟨rfl, k2⟩
              exact ⟨_, rfl, hK' _ _ (hS.call k2) (fun j d hd hj h => halloc 6 (by decide) f j _ u _ (hl.2.2 13 (by decide)) k2 h) (fun _ => ⟨fun e => absurd e (by decide), fun _ => rfl⟩)⟩
            · intro n f a9 u K' hfr hn hl hS hv hK'
              have eA8 : a9.tmps.getD 6 undef = .slice (some ⟨W, 0, none⟩) L wk := hfr 6 (not_dst (by kernel_rfl))
              have eB8 : (a9.tmps[6]?).getD undef = .slice (some ⟨W, 0, none⟩) L wk := by simpa using eA8
              refine owe_run rfl (wp_val (v := .slice (some ⟨W, 0, none⟩) L wk) ?_ (hK' _ _ hS (fun j d hd hj h => hsame 7 (by decide) f j _ u h) (fun _ => ⟨fun e => absurd e (by decide), fun _ => rfl⟩)))
              first
                | (go_simp; done)
                | (go_simp; rfl)
            · intro n f a9 u K' hfr hn hl hS hv hK'
              have eA0 : a9.tmps.getD 43 undef = .slice (some ⟨W, 0, none⟩) L wk := hv.1.2 (by decide)
              have eB0 : (a9.tmps[43]?).getD undef = .slice (some ⟨W, 0, none⟩) L wk := by simpa using eA0
              refine owe_run rfl (wp_val (v := .pointer (some ⟨W, 3, none⟩)) ?_ (hK' _ _ hS (fun j d hd hj h => hsame 8 (by decide) f j _ u h) (fun _ => ⟨fun e => absurd e (by decide), fun _ => rfl⟩)))
              first
                | (go_simp; done)
                | (go_simp; rfl)
            · intro n f a9 u K' hfr hn hl hS hv hK'
              have eA0 : a9.tmps.getD 44 undef = .pointer (some ⟨W, 3, none⟩) := hv.1.2 (by decide)
              have eB0 : (a9.tmps[44]?).getD undef = .pointer (some ⟨W, 3, none⟩) := by simpa using eA0
              have cu := (hS.below.cell (p := ⟨W, 3, none⟩) hWl).trans cw3
              refine owe_run rfl (wp_val (v := .string (txt x3)) ?_ (hK' _ _ hS (fun j d hd hj h => hsame 9 (by decide) f j _ u h) (fun _ => ⟨fun e => absurd e (by decide), fun _ => rfl⟩)))
              first
                | (go_simp; done)
                | (go_simp; rfl)
            · intro n f a9 u K' hfr hn hl hS hv hK'
              have eA0 : a9.tmps.getD 45 undef = .string (txt x3) := hv.1.2 (by decide)
              have eB0 : (a9.tmps[45]?).getD undef = .string (txt x3) := by simpa using eA0
              refine owe_run rfl (wp_fn rfl (args1 eA0) (enter_fn Tryz.func29 (by kernel_rfl) rfl _ _) ((l8Read_txt u x3 hz3 nb HNB.out).mono ?_))
              rintro e u2 ⟨rfl, k2⟩
              exact ⟨_, rfl, hK' _ _ (hS.call k2) (fun j d hd hj h => halloc 10 (by decide) f j _ u _ (hl.2.2 13 (by decide)) k2 h) (fun _ => ⟨fun e => absurd e (by decide), fun _ => rfl⟩)⟩
            · intro n f a9 u K' hfr hn hl hS hv hK'
              have eA0 : a9.tmps.getD 38 undef = .string (txt x1) := hv.1.2 (by decide)
              have eB0 : (a9.tmps[38]?).getD undef = .string (txt x1) := by simpa using eA0
              have eA1 : a9.tmps.getD 42 undef = .int .i64 na := hv.2.1.2 (by decide)
              have eB1 : (a9.tmps[42]?).getD undef = .int .i64 na := by simpa using eA1
              have eA2 : a9.tmps.getD 46 undef = .int .i64 nb := hv.2.2.1.2 (by decide)
              have eB2 : (a9.tmps[46]?).getD undef = .int .i64 nb := by simpa using eA2
              refine owe_run rfl (wp_val (v := .agg #[.string (txt x1), .int .i64 na, .int .i64 nb, .slice none 0 0, .int .i64 0, .slice none 0 0]) ?_ (hK' _ _ hS (fun j d hd hj h => hsame 11 (by decide) f j _ u h) (fun _ => ⟨fun e => absurd e (by decide), fun _ => rfl⟩)))
              first
                | (go_simp; done)
                | (go_simp; rfl)
            · intro n f a9 u K' hfr hn hl hS hv hK'
              refine owe_run rfl (wp_val (v := .pointer (some ⟨u.heap.size, 0, none⟩)) (w' := u.alloc (.cells #[.string ⟨#[]⟩, .int .i64 0, .int .i64 0, .slice none 0 0, .int .i64 0, .slice none 0 0] 52)) ?_ (hK' _ _ (hS.alloc _) (fun j d hd hj h => halloc 12 (by decide) f j _ u _ (hl.2.2 13 (by decide)) ((From.start u).alloc _).below h) (fun _ => ⟨fun _ => ⟨_, _, rfl, hS.le, Blk.new u _ _, rfl, fun hf => by rw [setl_ne (by decide), hl.2.2 13 (by decide)] at hf; cases hf⟩, fun e => absurd rfl e⟩)))
              first
                | (go_simp; done)
                | (go_simp; rfl)
            · intro n f a9 u K' hfr hn hl hS hv hK'
              have h0 : a9.tmps.getD 47 undef = .agg #[.string (txt x1), .int .i64 na, .int .i64 nb, .slice none 0 0, .int .i64 0, .slice none 0 0] := hv.1.2 (by decide)
              obtain ⟨q, c, h2, h3, h4, h5, -⟩ := hv.2.1.1 rfl
              obtain ⟨z0, z1, z2, z3, z4, z5, rfl⟩ : ∃ z0 z1 z2 z3 z4 z5, c = #[z0, z1, z2, z3, z4, z5] := by
                rcases c with ⟨_ | ⟨z0, _ | ⟨z1, _ | ⟨z2, _ | ⟨z3, _ | ⟨z4, _ | ⟨z5, _ | ⟨zz, zr⟩⟩⟩⟩⟩⟩⟩⟩ <;> simp at h5
                exact ⟨z0, z1, z2, z3, z4, z5, rfl⟩
              have h0' : (a9.tmps[47]?).getD undef = .agg #[.string (txt x1), .int .i64 na, .int .i64 nb, .slice none 0 0, .int .i64 0, .slice none 0 0] := by simpa using h0
              have h2' : (a9.tmps[7]?).getD undef = .pointer (some ⟨q, 0, none⟩) := by simpa using h2
              have cq := h4.cell
              have fq := h4.frozen
              have hB2 : Blk ((((((u.setCell ⟨q, 0, none⟩ (.string (txt x1))).setCell ⟨q, 1, none⟩ (.int .i64 na)).setCell ⟨q, 2, none⟩ (.int .i64 nb)).setCell ⟨q, 3, none⟩ (.slice none 0 0)).setCell ⟨q, 4, none⟩ (.int .i64 0)).setCell ⟨q, 5, none⟩ (.slice none 0 0)) q #[.string (txt x1), .int .i64 na, .int .i64 nb, .slice none 0 0, .int .i64 0, .slice none 0 0] 52 := by
                have := ((((((h4.set (o := 0) (.string (txt x1))).set (o := 1) (.int .i64 na)).set (o := 2) (.int .i64 nb)).set (o := 3) (.slice none 0 0)).set (o := 4) (.int .i64 0)).set (o := 5) (.slice none 0 0))
                simpa using this
              refine owe_run rfl (wp_skp (w' := ((((((u.setCell ⟨q, 0, none⟩ (.string (txt x1))).setCell ⟨q, 1, none⟩ (.int .i64 na)).setCell ⟨q, 2, none⟩ (.int .i64 nb)).setCell ⟨q, 3, none⟩ (.slice none 0 0)).setCell ⟨q, 4, none⟩ (.int .i64 0)).setCell ⟨q, 5, none⟩ (.slice none 0 0))) ?_ (hK' undef _ ((((((hS.setCell (p := ⟨q, 0, none⟩) h3 _).setCell (p := ⟨q, 1, none⟩) h3 _).setCell (p := ⟨q, 2, none⟩) h3 _).setCell (p := ⟨q, 3, none⟩) h3 _).setCell (p := ⟨q, 4, none⟩) h3 _).setCell (p := ⟨q, 5, none⟩) h3 _) (fun j d hd hj h => ?_) (fun h => absurd rfl h)))
              · first
                  | (go_simp; done)
                  | (go_simp; rfl)
              · rcases j with _ | _ | _ | _ | _ | _ | _ | _ | _ | _ | _ | _ | _ | _ | j
                all_goals first
                  | exact absurd hj (by decide)
                  | exact ⟨fun e => absurd e (by omega), h.2⟩
                  | (have e13 := hd.symm.trans (show _ = some 7 by kernel_rfl)
                     simp only [Option.some.injEq] at e13
                     subst e13
                     exact ⟨fun _ => ⟨q, _, h2, h3, hB2, rfl, fun _ => rfl⟩, fun e => absurd rfl e⟩)
          case hq =>
            intro gg9 u8 hS hv
            obtain ⟨Y, c, hg9, hYW, hB, -, hc⟩ := (hv.2.2.2.2.2.2.2.2.2.2.2.2.1 (by decide)).1 rfl
            obtain rfl := hc (by decide)
            have HY8 := Lib.hid hB
            have HF8 := Lib.hid hS
            clear hv hB hS hc hsame halloc V f0
            simp only [List.map, putG, List.setIfInBounds_toArray, List.set_cons_succ, List.set_cons_zero, Nat.zero_add, Nat.reduceAdd, hg9]
            clear hg9
            generalize gg9 = gg at *
            have cY := HY8.out.cell
            have zY := HY8.out.lt
            have fY := HY8.out.frozen
            obtain ⟨z, hz⟩ : ∃ z : Int, (if na = 3 then nc else 0) = z := ⟨_, rfl⟩
            have HZ := Lib.hid hz
            clear hz
            go_upto_if 50 with fail
            go_cut [] from 14 to 154 (fun wx => Hid (Blk wx Y #[.string (txt x1), .int .i64 na, .int .i64 nb, .slice none 0 0, .int .i64 z, .slice none 0 0] 52) ∧ Hid (From w1.heap.size w1 wx))
            case first =>
              by_cases h3 : na = 3
              · have e3 : (na == 3) = true := by rw [beq_iff_eq]; exact h3
                have EZ : Hid (z = nc) := by show _ = _; rw [← HZ.out, if_pos h3]
                have cu := (HF8.out.below.cell (p := ⟨W, 4, none⟩) hWl).trans cw4
                clear h3
                go_wp2_with fail
                refine (l8Read_txt _ x4 hz4 nc HNC.out).mono ?_
                rintro e w9 ⟨rfl, k9⟩
                have HY9 := Lib.hid (HY8.out.call k9)
                have HF9 := Lib.hid (HF8.out.call k9)
                clear cY zY fY cu HY8 HF8 k9
                have cY := HY9.out.cell
                have zY := HY9.out.lt
                have fY := HY9.out.frozen
                go_wp2_with fail
                go_meet
                case rel => exact ⟨by rw [EZ.out]; exact HY9.out.set (o := 4) (.int .i64 nc), HF9.out.setCell (p := ⟨Y, 4, none⟩) hYW _⟩
              · have e3 : (na == 3) = false := by rw [beq_eq_false_iff_ne]; exact h3
                have EZ : Hid (z = 0) := by show _ = _; rw [← HZ.out, if_neg h3]
                clear h3
                go_wp2_with fail
                go_meet
                case rel => exact ⟨by rw [EZ.out]; exact HY8.out, HF8.out⟩
            case rest =>
              clear cY zY fY HY8 HF8
              obtain ⟨HY8, HF8⟩ := hcut
              obtain ⟨w2, rfl⟩ : ∃ w2, w2 = wc := ⟨_, rfl⟩
              have cY := HY8.out.cell
              have zY := HY8.out.lt
              have fY := HY8.out.frozen
              obtain ⟨bs, hbs⟩ : ∃ bs : List UInt8, (readHexL (tl.headD [])).getD [] = bs := ⟨_, rfl⟩
              have HBS := Lib.hid hbs
              clear hbs
              go_upto_if 58 with fail
              go_cut [8, 9] from 14 to 154 (fun a8 a9 wx => ∃ (va : Option Addr) (vn vc9 : Nat), Hid (Blk wx Y #[.string (txt x1), .int .i64 na, .int .i64 nb, .slice va vn vc9, .int .i64 z, .slice none 0 0] 52) ∧ Hid (OwnB wx w1.heap.size (.slice va vn vc9) bs) ∧ Hid (From w1.heap.size w1 wx))
              case first =>
                by_cases h6 : L = 6
                · obtain ⟨hx, htl⟩ := HT6.out h6
                  have e6 : ((L : Int) == 6) = true := by rw [beq_iff_eq]; omega
                  have iL5 : (5 : Int) < (L : Int) := by omega
                  have hxs := HSZ.out hx (by rw [HWS.out, htl]; simp)
                  have cu := (HF8.out.below.cell (p := ⟨W, 5, none⟩) hWl).trans (HWC.out 5 hx (by rw [HWS.out, htl]; rfl))
                  have EB : Hid ((readHexL (bytesT (txt hx))).getD [] = bs) := by
                    show _ = _
                    rw [← HBS.out, htl]
                    show (readHexL (bytesS (txt hx))).getD [] = _
                    rw [bytesS_txt]; rfl
                  clear h6 htl
                  go_wp2_with fail
                  refine (s_ReadHex w2 (txt hx) (by rw [txt_size]; exact hxs)).mono ?_
                  rintro e w9 ⟨r9, rfl, hr9, k9⟩
                  rw [EB.out] at hr9
                  obtain ⟨va, vc, rfl⟩ := owns_form hr9
                  have HV9 := Lib.hid hr9
                  have HY9 := Lib.hid (HY8.out.call k9)
                  have HF9 := Lib.hid (HF8.out.call k9)
                  have HVY : Hid (∀ k, (Value.slice va bs.length vc).ownBlock = some k → Y < k ∧ w1.heap.size ≤ k) := fun k hk => ⟨by have := (World.ownsRow.lt hr9 k hk).1; omega, by have := (World.ownsRow.lt hr9 k hk).1; have := HF8.out.le; omega⟩
                  have HW29 : Hid (w1.heap.size ≤ w2.heap.size) := HF8.out.le
                  clear cY zY fY cu HY8 HF8 k9 hr9
                  have cY := HY9.out.cell
                  have zY := HY9.out.lt
                  have fY := HY9.out.frozen
                  go_wp2_with fail
                  go_meet
                  case rel => exact ⟨va, bs.length, vc, HY9.out.set (o := 3) (.slice va bs.length vc), owns_other (owns_mono HV9.out HW29.out) (Other.setCell (bs := [Y]) (by simp) _) (fun k hk hm => by
                    obtain rfl := List.mem_singleton.1 hm
                    have := (HVY.out _ hk).1
                    omega), HF9.out.setCell (p := ⟨Y, 3, none⟩) hYW _⟩
                · have e6 : ((L : Int) == 6) = false := by rw [beq_eq_false_iff_ne]; omega
                  have EB : Hid (bs = []) := by
                    show _ = _
                    rw [← HBS.out, HT5.out (by omega)]
                    rfl
                  clear h6
                  go_wp2_with fail
                  go_meet
                  case rel => exact ⟨none, 0, 0, HY8.out, by rw [EB.out]; exact World.ownsRow_nil _ _ _ _, HF8.out⟩
              case rest =>
                clear cY zY fY HY8 HF8
                obtain ⟨va, vn, vc9, HY8, HV8, HF8⟩ := hcut
                obtain ⟨w3, rfl⟩ : ∃ w3, w3 = wc := ⟨_, rfl⟩
                have cY := HY8.out.cell
                have zY := HY8.out.lt
                obtain ⟨vs, vy, LS, hb, hoLS, hs9, hy9, -, hBs⟩ := HX1.out
                have HOL := Lib.hid hoLS
                have HLT : Hid (∀ k ∈ vs.ownBlock.toList ++ blksOf LS, k < w1.heap.size) := fun k hk => (hs9.lt k hk).2
                have hk9 := HF8.out.below
                have HB9 := Lib.hid (hb.call hk9)
                have HS9 := Lib.hid (hs9.call hk9)
                have HY9 := Lib.hid (owns_call hy9 hk9)
                have HR9 := Lib.hid (HR.out.call hk9)
                have HF9 := Lib.hid (HF.out.call hk9)
                have HX2 : Hid (X + 2 ≤ w1.heap.size) := hBs
                have hln : LS.length ≤ k := by have h1 := HW.out.1; rw [hoLS, List.length_map] at h1; exact h1
                obtain ⟨nS, hnS⟩ : ∃ m, LS.length = m := ⟨_, rfl⟩
                obtain ⟨sa, sc, rfl⟩ : ∃ sa sc, vs = .slice sa nS sc := by rw [← hnS]; exact owns_form hs9.row
                have hrow : w3.ownsRow (X + 2) 52 6 (.slice sa nS sc) nS (LS.flatMap secL) := by have h1 := HS9.out.row; rw [hnS] at h1; exact h1
                have HRW := Lib.hid hrow
                have HNS := Lib.hid hnS
                rw [hnS] at hln
                clear hb hoLS hs9 hy9 hk9 hBs hnS hrow
                obtain ⟨i0, hi0, ia0, ia1, ia2⟩ := info_parts info_sec
                have cB := HB9.out.cell
                have zB := HB9.out.lt
                have BS9 : Hid (X + 2 ≤ w3.heap.size) := by show _ ≤ _; have := HX2.out; have := HF8.out.le; omega
                go_wp2_with (at_builtin; go_loud (refine wpList_append_own rfl (.tmp 69) (.tmp 71) 25 25 rfl (X + 2) 52 i0 _ 6 88 Tryz.underlying25 hi0 ia0 ia1 ia2 rfl (by decide) _ _ _ rfl (World.ownsRow.alloc HRW.out _) _ 1 [_, _, _, _, _, _] rfl (src_new Tryz.underlying25 _ [_, _, _, _, _, _] 6 1 1 _ rfl ?c0) ?c1 ?c2 ?c3 ?_))
                case c0 => exact ⟨rfl, rfl, rfl, rfl, rfl, rfl⟩
                case c1 => unfold maxLen; omega
                case c2 => omega
                case c3 => have h9 := BS9.out; first | omega | (simp; omega)
                intro v' w6 hown hgr hpl
                have hU := ((From.start w3).alloc (.cells #[.string (txt x1), .int .i64 na, .int .i64 nb, .slice va vn vc9, .int .i64 z, .slice none 0 0] 52)).below
                have hqr : some (X + 1) ≠ (Value.slice sa nS sc).ownBlock := fun e => by have := (World.ownsRow.lt HRW.out (X + 1) e.symm).1; omega
                have hXr : some X ≠ (Value.slice sa nS sc).ownBlock := fun e => by have := (World.ownsRow.lt HRW.out X e.symm).1; omega
                have HB10 := Lib.hid ((HB9.out.call hU).grown hgr hqr)
                have HBOX := Lib.hid (box_sec (m := w1.heap.size) (x := ((⟨txt x1, na, nb, bs, z, []⟩ : SecD), .slice va vn vc9, .slice none 0 0)) (HB9.out.call hU) HOL.out (HS9.out.call hU) (owns_call HY9.out hU) (by omega) (Nat.le_trans BS9.out hU.size) HLT.out HX2.out (owns_call HV8.out hU) (World.ownsRow_nil _ _ _ _) hgr (by rw [HNS.out]; exact hown) (by simpa using hpl))
                have HR10 := Lib.hid (((HR9.out.call hU).grown hgr hXr).other (p := ⟨X + 1, 0, none⟩) (by show X + 1 ≠ X; omega) v')
                have HF10 := Lib.hid (((HF9.out.call hU).grown hgr (fun k hk => by have := (World.ownsRow.lt HRW.out k hk).1; omega)).setCell (p := ⟨X + 1, 0, none⟩) (by show X ≤ X + 1; omega) v')
                have HLI : Hid (wordsS o ws = some ⟨o.secs ++ [⟨txt x1, na, nb, bs, z, []⟩], o.syms⟩) := by
                  show _ = _
                  rw [← HBS.out, ← HZ.out, ← HNA.out, ← HNB.out, ← HNC.out, HWS.out]
                  have h56 : L = 5 ∨ L = 6 := by omega
                  rcases h56 with h5 | h6
                  · rw [HT5.out h5]; rfl
                  · obtain ⟨hx, htl⟩ := HT6.out h6
                    rw [htl]; rfl
                have HNM2 : Hid (Named 1073741824 ⟨o.secs ++ [⟨txt x1, na, nb, bs, z, []⟩], o.syms⟩) := by
                  refine ⟨fun s hs => ?_, HNM.out.2⟩
                  rcases List.mem_append.1 hs with hs | hs
                  · exact HNM.out.1 s hs
                  · obtain rfl := List.mem_singleton.1 hs
                    show (txt x1).size ≤ _
                    rw [txt_size]; exact hz1
                obtain ⟨ve, vf, rfl⟩ : ∃ ve vf, v' = .slice ve (nS + 1) vf := owns_form hown
                clear cB zB cY zY hU hqr hXr hown hgr hpl HB9 HS9 HY9 HR9 HF9 HRW HV8
                have cB := HB10.out.cell
                have zB := HB10.out.lt
                have fB := HB10.out.frozen
                go_wp2_with fail
                go_roundw
                case rel => exact ⟨k + 1, _, by omega, by go_num, HST2.out _ HLI.out, HBOX, few_sec HW.out _ rfl, HNM2, HR10, HF10⟩
                case measure => simp [intOf]; try omega
        | false =>
          have h0 := of_decide_eq_false HSB.out
          have HS0 := Lib.hid h0
          clear h0
          obtain ⟨vs, vy, LS, hb1, hoLS, hs1, hy1, -, hBs⟩ := HX1.out
          have HOL := Lib.hid hoLS
          have HB1 := Lib.hid hb1
          have HS1 := Lib.hid hs1
          have HY1 := Lib.hid hy1
          have HF1 : Hid (From w1.heap.size w1 w1) := From.start w1
          obtain ⟨sn, hsn⟩ : ∃ n, LS.length = n := ⟨_, rfl⟩
          obtain ⟨sa, sc, rfl⟩ : ∃ sa sc, vs = .slice sa sn sc := by rw [← hsn]; exact owns_form hs1.row
          have hfl : sn ≤ k := by have h1 := HW.out.1; rw [hoLS, List.length_map, hsn] at h1; exact h1
          have HSNN := Lib.hid hsn
          have hX2 : X + 2 ≤ w1.heap.size := hBs
          have hSE : Hid (o.secs = [] ↔ sn = 0) := by
            show _ ↔ _
            rw [HOL.out, ← HSNN.out]
            constructor
            · intro h; have := congrArg List.length h; simpa using this
            · intro h; rw [List.eq_nil_of_length_eq_zero h]; rfl
          clear hb1 hoLS hs1 hy1 hBs hsn
          have cB := HB1.out.cell
          have zB := HB1.out.lt
          obtain ⟨fb, hfb⟩ : ∃ fb : Bool, decide (x0 = fixT ∧ L = 5 ∧ 0 < sn) = fb := ⟨_, rfl⟩
          have HFB := Lib.hid hfb
          clear hfb
          go_upto_region 15 with fail
          go_cut [74] from 14 to 154 (fun c wx => c = .bool fb ∧ wx = w1)
          case first =>
            by_cases h1 : x0 = fixT
            · have e1 := (txtList_iff x0 [102, 105, 120, 117, 112]).2 h1
              by_cases h2 : L = 5
              · have e2 : ((L : Int) == 5) = true := by rw [beq_iff_eq]; omega
                by_cases h3 : 0 < sn
                · have e3 : (0 : Int) < (sn : Int) := by omega
                  have E : Hid (fb = true) := by show _ = _; rw [← HFB.out]; simp [h1, h2, h3]
                  clear h1 h2
                  go_wp2_with fail
                  go_meet
                  case rel => exact ⟨by rw [E.out], rfl⟩
                · have e3 : ¬ (0 : Int) < (sn : Int) := by omega
                  have E : Hid (fb = false) := by show _ = _; rw [← HFB.out]; simp [h3]
                  clear h1 h2
                  go_wp2_with fail
                  go_meet
                  case rel => exact ⟨by rw [E.out], rfl⟩
              · have e2 : ((L : Int) == 5) = false := by rw [beq_eq_false_iff_ne]; omega
                have E : Hid (fb = false) := by show _ = _; rw [← HFB.out]; simp [h2]
                clear h1 h2
                go_wp2_with fail
                go_meet
                case rel => exact ⟨by rw [E.out], rfl⟩
            · have e1 := fun e => h1 ((txtList_iff x0 [102, 105, 120, 117, 112]).1 e)
              have e2 : ((txt x0).toList == [102, 105, 120, 117, 112]) = false := by simpa using e1
              have E : Hid (fb = false) := by show _ = _; rw [← HFB.out]; simp [h1]
              clear h1
              go_wp2_with fail
              go_meet
              case rel => exact ⟨by rw [E.out], rfl⟩
          case rest =>
            obtain ⟨rfl, rfl⟩ := hcut
            obtain ⟨w1, rfl⟩ : ∃ w1, w1 = wc := ⟨_, rfl⟩
            cases fb with
            | true =>
              obtain ⟨h1, h2, h3⟩ := of_decide_eq_true HFB.out
              subst h1
              obtain ⟨x1, x2, x3, x4, tl, hws, -, ht5⟩ := five_six HX00.out (.inl (by rw [HLN.out]; exact h2))
              obtain rfl := ht5 (by rw [HLN.out]; exact h2)
              subst h2
              have HWS := Lib.hid hws
              have cw1 := HWC.out 1 x1 (by rw [hws]; rfl)
              have cw2 := HWC.out 2 x2 (by rw [hws]; rfl)
              have cw3 := HWC.out 3 x3 (by rw [hws]; rfl)
              have cw4 := HWC.out 4 x4 (by rw [hws]; rfl)
              have hz1 := HSZ.out x1 (by rw [hws]; simp)
              have hz2 := HSZ.out x2 (by rw [hws]; simp)
              have hz3 := HSZ.out x3 (by rw [hws]; simp)
              have hz4 := HSZ.out x4 (by rw [hws]; simp)
              clear hws
              obtain ⟨na, hna⟩ : ∃ a, readN x1 = a := ⟨_, rfl⟩
              obtain ⟨nb, hnb⟩ : ∃ a, readN x2 = a := ⟨_, rfl⟩
              obtain ⟨nc, hnc⟩ : ∃ a, readN x3 = a := ⟨_, rfl⟩
              obtain ⟨nd, hnd⟩ : ∃ a, readN x4 = a := ⟨_, rfl⟩
              have HNA := Lib.hid hna
              have HNB := Lib.hid hnb
              have HNC := Lib.hid hnc
              have HND := Lib.hid hnd
              clear hna hnb hnc hnd
              have e9 : IntKind.i64.wrap ((sn : Int) - 1) = (sn : Int) - 1 := IntWalk.i64_in _ (by omega)
              obtain ⟨kk, hk9⟩ : ∃ k, sn = k + 1 := ⟨sn - 1, by omega⟩
              have hk1 : (sn : Int) - 1 = (kk : Int) := by omega
              have i5 : (kk : Int) < (sn : Int) := by omega
              have i6 : (0 : Int) ≤ (kk : Int) := by omega
              have HK := Lib.hid hk9
              clear hk9
              go_upto_region 17 with fail
              try simp only [hk1]
              clear hk1 e9
              obtain ⟨pg, rfl⟩ : ∃ pg, sa = some ⟨pg, 0, none⟩ := by
                rcases HS1.out.row.2 with ⟨h, _⟩ | ⟨g, cap, cur, h, _⟩
                · injection h with h1 h2 h3; omega
                · injection h with h1 h2 h3; exact ⟨g, h1⟩
              obtain ⟨D, ⟨⟨xn, xk, xl, xb, xs, F⟩, vb, vf⟩, rfl⟩ : ∃ D x, LS = D ++ [x] := by
                have h1 := HSNN.out
                have h2 : LS ≠ [] := fun e => by rw [e, HK.out] at h1; cases h1
                exact ⟨_, _, (List.dropLast_concat_getLast h2).symm⟩
              have hdk : D.length = kk := by have h8 := HSNN.out; have h9 := HK.out; simp only [List.length_append, List.length_cons, List.length_nil] at h8; omega
              have HDK := Lib.hid hdk
              have hlm := HS1.out.each ((⟨xn, xk, xl, xb, xs, F⟩ : SecD), vb, vf) (by simp)
              obtain ⟨j, hj⟩ : ∃ j, F.length = j := ⟨_, rfl⟩
              obtain ⟨fa, fc, rfl⟩ : ∃ fa fc, vf = .slice fa j fc := by rw [← hj]; exact owns_form hlm.2
              have hmf : w1.ownsRow (X + 2) 56 4 (.slice fa j fc) j (fixCells F) := by have h9 := hlm.2; unfold OwnF at h9; simp only [hj] at h9; exact h9
              have hjN : j ≤ k := by
                have h9 := HW.out.2.2 ⟨xn, xk, xl, xb, xs, F⟩ (by rw [HOL.out]; simp)
                rw [← hj]; exact h9
              have hc5 : w1.cell? ⟨pg, kk * 6 + 5, none⟩ = some (.slice fa j fc) := by
                have h9 := HS1.out.cell HSNN.out.symm 5 _ rfl
                rw [hdk] at h9
                exact h9
              have hpgl := World.block_lt_of_cell? w1 _ hc5
              have hpgB : X + 2 ≤ pg := (World.ownsRow.lt HS1.out.row pg rfl).1
              have HMF := Lib.hid hmf
              have HFJ := Lib.hid hj
              have hqf : X + 1 ∉ (Value.slice fa j fc).ownBlock.toList := fun h9 => by have := (World.ownsRow.lt hmf (X + 1) (by simpa using h9)).1; omega
              clear hlm hmf hdk hj cB zB cw0
              obtain ⟨j0, hj0, ja0, ja1, ja2⟩ := info_parts info_fix
              let f0 : Nat → Value := fun i => match i with
                | 0 => .pointer (some ⟨X + 1, 0, none⟩)
                | 1 => .slice (some ⟨pg, 0, none⟩) sn sc
                | 2 => .int .i64 (kk : Int)
                | 3 => .pointer (some ⟨X + 1, 0, none⟩)
                | 4 => .slice (some ⟨pg, 0, none⟩) sn sc
                | 5 => .int .i64 (kk : Int)
                | 6 => .pointer (some ⟨pg, kk * 6, none⟩)
                | 7 => .pointer (some ⟨pg, kk * 6 + 5, none⟩)
                | 8 => .slice fa j fc
                | 9 => .slice (some ⟨W, 0, none⟩) 5 wk
                | 10 => .pointer (some ⟨W, 1, none⟩)
                | 11 => .string (txt x1)
                | 12 => .int .i64 na
                | 13 => .slice (some ⟨W, 0, none⟩) 5 wk
                | 14 => .pointer (some ⟨W, 2, none⟩)
                | 15 => .string (txt x2)
                | 16 => .int .i64 nb
                | 17 => .slice (some ⟨W, 0, none⟩) 5 wk
                | 18 => .pointer (some ⟨W, 3, none⟩)
                | 19 => .string (txt x3)
                | 20 => .int .i64 nc
                | 21 => .slice (some ⟨W, 0, none⟩) 5 wk
                | 22 => .pointer (some ⟨W, 4, none⟩)
                | 23 => .string (txt x4)
                | 24 => .int .i64 nd
                | 25 => .agg #[.int .i64 na, .int .i64 nb, .int .i64 nc, .int .i64 nd]
                | 28 => .pointer (some ⟨pg, kk * 6, none⟩)
                | 29 => .pointer (some ⟨pg, kk * 6 + 5, none⟩)
                | _ => undef
              let Mid : World → Value → Prop := fun u v' => ∃ u0, Below w1.heap.size w1 u0 ∧ u0.grownBy u (Value.slice fa j fc).ownBlock ∧ u.ownsRow (X + 2) 56 4 v' (j + 1) ((fixCells F) ++ fixL (na, nb, nc, nd)) ∧ (v'.ownBlock = (Value.slice fa j fc).ownBlock ∨ v'.ownBlock = some u0.heap.size)
              have hW9 := HF1.out.le
              refine wp_region_get (fun i v u => (i = 26 → ∃ z', v = .slice (some ⟨z', 0, none⟩) 1 1 ∧ Blk u z' #[.int .i64 na, .int .i64 nb, .int .i64 nc, .int .i64 nd] 56) ∧ (i = 27 → Mid u v) ∧ (i ≠ 26 → i ≠ 27 → v = f0 i))
                (fun _ f u => (f 27 = false → Below w1.heap.size w1 u) ∧ (f 30 = false → Other (Value.slice fa j fc).ownBlock.toList w1 u) ∧ (f 30 = true → ∃ v' u1, u = u1.setCell ⟨pg, kk * 6 + 5, none⟩ v' ∧ Mid u1 v'))
                [[], [0], [], [], [3], [], [4, 5], [6], [7], [], [9], [10], [11], [], [13], [14], [15], [], [17], [18], [19], [], [21], [22], [23], [12, 16, 20, 24], [25], [8, 26], [1, 2], [28], [27, 29]] [[], [0], [], [], [3], [], [3, 4, 5], [3, 4, 5, 6], [3, 4, 5, 6, 7], [], [9], [9, 10], [9, 10, 11], [], [13], [13, 14], [9, 10, 11, 12, 13, 14, 15], [], [17], [17, 18], [9, 10, 11, 12, 13, 14, 15, 16, 17, 18, 19], [], [21], [21, 22], [9, 10, 11, 12, 13, 14, 15, 16, 17, 18, 19, 20, 21, 22, 23], [9, 10, 11, 12, 13, 14, 15, 16, 17, 18, 19, 20, 21, 22, 23, 24], [9, 10, 11, 12, 13, 14, 15, 16, 17, 18, 19, 20, 21, 22, 23, 24, 25], [3, 4, 5, 6, 7, 8, 9, 10, 11, 12, 13, 14, 15, 16, 17, 18, 19, 20, 21, 22, 23, 24, 25, 26], [0, 1, 2, 3, 4, 5, 6, 7, 8, 9, 10, 11, 12, 13, 14, 15, 16, 17, 18, 19, 20, 21, 22, 23, 24, 25, 26, 27], [0, 1, 2, 3, 4, 5, 6, 7, 8, 9, 10, 11, 12, 13, 14, 15, 16, 17, 18, 19, 20, 21, 22, 23, 24, 25, 26, 27, 28], [0, 1, 2, 3, 4, 5, 6, 7, 8, 9, 10, 11, 12, 13, 14, 15, 16, 17, 18, 19, 20, 21, 22, 23, 24, 25, 26, 27, 28, 29]] [] (by kernel_rfl) (by kernel_rfl) (by kernel_rfl) (by kernel_rfl) (by kernel_rfl)
                ⟨fun _ => ((From.start w1).drew).below, fun _ => Other.below ((From.start w1).drew).below, fun h => by cases h⟩ ?ho ?hq
              case ho =>
                refine ⟨?_, ?_, ?_, ?_, ?_, ?_, ?_, ?_, ?_, ?_, ?_, ?_, ?_, ?_, ?_, ?_, ?_, ?_, ?_, ?_, ?_, ?_, ?_, ?_, ?_, ?_, ?_, ?_, ?_, ?_, ?_, trivial⟩
                · intro n f a9 u K' hfr hn hl hS hv hK'
                  have eA8 : a9.tmps.getD 4 undef = .pointer (some ⟨X + 1, 0, none⟩) := hfr 4 (no_dst (by kernel_rfl))
                  have eB8 : (a9.tmps[4]?).getD undef = .pointer (some ⟨X + 1, 0, none⟩) := by simpa using eA8
                  refine owe_run rfl (wp_val (v := .pointer (some ⟨X + 1, 0, none⟩)) ?_ (hK' _ _ ⟨fun h => hS.1 (setl_off h), fun h => hS.2.1 (setl_off h), fun h => hS.2.2 (by rwa [setl_ne (by decide)] at h)⟩ (fun _ _ _ h => h) (fun _ => ⟨fun e => absurd e (by decide), fun e => absurd e (by decide), fun _ _ => rfl⟩)))
                  first
                    | (go_simp; done)
                    | (go_simp; rfl)
                · intro n f a9 u K' hfr hn hl hS hv hK'
                  have eA0 : a9.tmps.getD 94 undef = .pointer (some ⟨X + 1, 0, none⟩) := hv.1.2.2 (by decide) (by decide)
                  have eB0 : (a9.tmps[94]?).getD undef = .pointer (some ⟨X + 1, 0, none⟩) := by simpa using eA0
                  have ho9 := hS.2.1 (hl.2.2 30 (by decide))
                  have hbo := HB1.out.otherB ho9 hqf
                  have cu := hbo.cell
                  have zu := hbo.lt
                  refine owe_run rfl (wp_val (v := .slice (some ⟨pg, 0, none⟩) sn sc) ?_ (hK' _ _ ⟨fun h => hS.1 (setl_off h), fun h => hS.2.1 (setl_off h), fun h => hS.2.2 (by rwa [setl_ne (by decide)] at h)⟩ (fun _ _ _ h => h) (fun _ => ⟨fun e => absurd e (by decide), fun e => absurd e (by decide), fun _ _ => rfl⟩)))
                  first
                    | (go_simp; done)
                    | (go_simp; rfl)
                · intro n f a9 u K' hfr hn hl hS hv hK'
                  have eA8 : a9.tmps.getD 10 undef = .int .i64 (kk : Int) := hfr 10 (no_dst (by kernel_rfl))
                  have eB8 : (a9.tmps[10]?).getD undef = .int .i64 (kk : Int) := by simpa using eA8
                  refine owe_run rfl (wp_val (v := .int .i64 (kk : Int)) ?_ (hK' _ _ ⟨fun h => hS.1 (setl_off h), fun h => hS.2.1 (setl_off h), fun h => hS.2.2 (by rwa [setl_ne (by decide)] at h)⟩ (fun _ _ _ h => h) (fun _ => ⟨fun e => absurd e (by decide), fun e => absurd e (by decide), fun _ _ => rfl⟩)))
                  first
                    | (go_simp; done)
                    | (go_simp; rfl)
                · intro n f a9 u K' hfr hn hl hS hv hK'
                  have eA8 : a9.tmps.getD 4 undef = .pointer (some ⟨X + 1, 0, none⟩) := hfr 4 (no_dst (by kernel_rfl))
                  have eB8 : (a9.tmps[4]?).getD undef = .pointer (some ⟨X + 1, 0, none⟩) := by simpa using eA8
                  refine owe_run rfl (wp_val (v := .pointer (some ⟨X + 1, 0, none⟩)) ?_ (hK' _ _ ⟨fun h => hS.1 (setl_off h), fun h => hS.2.1 (setl_off h), fun h => hS.2.2 (by rwa [setl_ne (by decide)] at h)⟩ (fun _ _ _ h => h) (fun _ => ⟨fun e => absurd e (by decide), fun e => absurd e (by decide), fun _ _ => rfl⟩)))
                  first
                    | (go_simp; done)
                    | (go_simp; rfl)
                · intro n f a9 u K' hfr hn hl hS hv hK'
                  have eA0 : a9.tmps.getD 97 undef = .pointer (some ⟨X + 1, 0, none⟩) := hv.1.2.2 (by decide) (by decide)
                  have eB0 : (a9.tmps[97]?).getD undef = .pointer (some ⟨X + 1, 0, none⟩) := by simpa using eA0
                  have hb9 := hS.1 (hl.2.2 27 (by decide))
                  have cu := (HB1.out.call hb9).cell
                  have zu := (HB1.out.call hb9).lt
                  refine owe_run rfl (wp_val (v := .slice (some ⟨pg, 0, none⟩) sn sc) ?_ (hK' _ _ ⟨fun h => hS.1 (setl_off h), fun h => hS.2.1 (setl_off h), fun h => hS.2.2 (by rwa [setl_ne (by decide)] at h)⟩ (fun _ _ _ h => h) (fun _ => ⟨fun e => absurd e (by decide), fun e => absurd e (by decide), fun _ _ => rfl⟩)))
                  first
                    | (go_simp; done)
                    | (go_simp; rfl)
                · intro n f a9 u K' hfr hn hl hS hv hK'
                  have eA8 : a9.tmps.getD 10 undef = .int .i64 (kk : Int) := hfr 10 (no_dst (by kernel_rfl))
                  have eB8 : (a9.tmps[10]?).getD undef = .int .i64 (kk : Int) := by simpa using eA8
                  refine owe_run rfl (wp_val (v := .int .i64 (kk : Int)) ?_ (hK' _ _ ⟨fun h => hS.1 (setl_off h), fun h => hS.2.1 (setl_off h), fun h => hS.2.2 (by rwa [setl_ne (by decide)] at h)⟩ (fun _ _ _ h => h) (fun _ => ⟨fun e => absurd e (by decide), fun e => absurd e (by decide), fun _ _ => rfl⟩)))
                  first
                    | (go_simp; done)
                    | (go_simp; rfl)
                · intro n f a9 u K' hfr hn hl hS hv hK'
                  have eA0 : a9.tmps.getD 98 undef = .slice (some ⟨pg, 0, none⟩) sn sc := hv.1.2.2 (by decide) (by decide)
                  have eB0 : (a9.tmps[98]?).getD undef = .slice (some ⟨pg, 0, none⟩) sn sc := by simpa using eA0
                  have eA1 : a9.tmps.getD 99 undef = .int .i64 (kk : Int) := hv.2.1.2.2 (by decide) (by decide)
                  have eB1 : (a9.tmps[99]?).getD undef = .int .i64 (kk : Int) := by simpa using eA1
                  refine owe_run rfl (wp_val (v := .pointer (some ⟨pg, kk * 6, none⟩)) ?_ (hK' _ _ ⟨fun h => hS.1 (setl_off h), fun h => hS.2.1 (setl_off h), fun h => hS.2.2 (by rwa [setl_ne (by decide)] at h)⟩ (fun _ _ _ h => h) (fun _ => ⟨fun e => absurd e (by decide), fun e => absurd e (by decide), fun _ _ => rfl⟩)))
                  first
                    | (go_simp; done)
                    | (go_simp; rfl)
                · intro n f a9 u K' hfr hn hl hS hv hK'
                  have eA0 : a9.tmps.getD 100 undef = .pointer (some ⟨pg, kk * 6, none⟩) := hv.1.2.2 (by decide) (by decide)
                  have eB0 : (a9.tmps[100]?).getD undef = .pointer (some ⟨pg, kk * 6, none⟩) := by simpa using eA0
                  refine owe_run rfl (wp_val (v := .pointer (some ⟨pg, kk * 6 + 5, none⟩)) ?_ (hK' _ _ ⟨fun h => hS.1 (setl_off h), fun h => hS.2.1 (setl_off h), fun h => hS.2.2 (by rwa [setl_ne (by decide)] at h)⟩ (fun _ _ _ h => h) (fun _ => ⟨fun e => absurd e (by decide), fun e => absurd e (by decide), fun _ _ => rfl⟩)))
                  first
                    | (go_simp; done)
                    | (go_simp; rfl)
                · intro n f a9 u K' hfr hn hl hS hv hK'
                  have eA0 : a9.tmps.getD 101 undef = .pointer (some ⟨pg, kk * 6 + 5, none⟩) := hv.1.2.2 (by decide) (by decide)
                  have eB0 : (a9.tmps[101]?).getD undef = .pointer (some ⟨pg, kk * 6 + 5, none⟩) := by simpa using eA0
                  have hb9 := hS.1 (hl.2.2 27 (by decide))
                  have cu : u.cell? ⟨pg, kk * 6 + 5, none⟩ = some (.slice fa j fc) := (hb9.cell (p := ⟨pg, kk * 6 + 5, none⟩) hpgl).trans hc5
                  refine owe_run rfl (wp_val (v := .slice fa j fc) ?_ (hK' _ _ ⟨fun h => hS.1 (setl_off h), fun h => hS.2.1 (setl_off h), fun h => hS.2.2 (by rwa [setl_ne (by decide)] at h)⟩ (fun _ _ _ h => h) (fun _ => ⟨fun e => absurd e (by decide), fun e => absurd e (by decide), fun _ _ => rfl⟩)))
                  first
                    | (go_simp; done)
                    | (go_simp; rfl)
                · intro n f a9 u K' hfr hn hl hS hv hK'
                  have eA8 : a9.tmps.getD 6 undef = .slice (some ⟨W, 0, none⟩) 5 wk := hfr 6 (no_dst (by kernel_rfl))
                  have eB8 : (a9.tmps[6]?).getD undef = .slice (some ⟨W, 0, none⟩) 5 wk := by simpa using eA8
                  refine owe_run rfl (wp_val (v := .slice (some ⟨W, 0, none⟩) 5 wk) ?_ (hK' _ _ ⟨fun h => hS.1 (setl_off h), fun h => hS.2.1 (setl_off h), fun h => hS.2.2 (by rwa [setl_ne (by decide)] at h)⟩ (fun _ _ _ h => h) (fun _ => ⟨fun e => absurd e (by decide), fun e => absurd e (by decide), fun _ _ => rfl⟩)))
                  first
                    | (go_simp; done)
                    | (go_simp; rfl)
                · intro n f a9 u K' hfr hn hl hS hv hK'
                  have eA0 : a9.tmps.getD 103 undef = .slice (some ⟨W, 0, none⟩) 5 wk := hv.1.2.2 (by decide) (by decide)
                  have eB0 : (a9.tmps[103]?).getD undef = .slice (some ⟨W, 0, none⟩) 5 wk := by simpa using eA0
                  refine owe_run rfl (wp_val (v := .pointer (some ⟨W, 1, none⟩)) ?_ (hK' _ _ ⟨fun h => hS.1 (setl_off h), fun h => hS.2.1 (setl_off h), fun h => hS.2.2 (by rwa [setl_ne (by decide)] at h)⟩ (fun _ _ _ h => h) (fun _ => ⟨fun e => absurd e (by decide), fun e => absurd e (by decide), fun _ _ => rfl⟩)))
                  first
                    | (go_simp; done)
                    | (go_simp; rfl)
                · intro n f a9 u K' hfr hn hl hS hv hK'
                  have eA0 : a9.tmps.getD 104 undef = .pointer (some ⟨W, 1, none⟩) := hv.1.2.2 (by decide) (by decide)
                  have eB0 : (a9.tmps[104]?).getD undef = .pointer (some ⟨W, 1, none⟩) := by simpa using eA0
                  have hb9 := hS.1 (hl.2.2 27 (by decide))
                  have cu := (hb9.cell (p := ⟨W, 1, none⟩) hWl).trans cw1
                  refine owe_run rfl (wp_val (v := .string (txt x1)) ?_ (hK' _ _ ⟨fun h => hS.1 (setl_off h), fun h => hS.2.1 (setl_off h), fun h => hS.2.2 (by rwa [setl_ne (by decide)] at h)⟩ (fun _ _ _ h => h) (fun _ => ⟨fun e => absurd e (by decide), fun e => absurd e (by decide), fun _ _ => rfl⟩)))
                  first
                    | (go_simp; done)
                    | (go_simp; rfl)
                · intro n f a9 u K' hfr hn hl hS hv hK'
                  have eA0 : a9.tmps.getD 105 undef = .string (txt x1) := hv.1.2.2 (by decide) (by decide)
                  have eB0 : (a9.tmps[105]?).getD undef = .string (txt x1) := by simpa using eA0
                  refine owe_run rfl (wp_fn rfl (args1 eA0) (enter_fn Tryz.func29 (by kernel_rfl) rfl _ _) ((l8Read_txt u x1 hz1 na HNA.out).mono ?_))
                  rintro e u2 ⟨rfl, k2⟩
                  exact ⟨_, rfl, hK' _ _ ⟨fun h => (have hb := hS.1 (setl_off h); ((⟨hb, hb.size⟩ : From _ w1 u).call k2).below), fun h => (hS.2.1 (setl_off h)).trans (Other.below k2), fun h => (by rw [setl_ne (by decide), hl.2.2 30 (by decide)] at h; cases h)⟩ (fun j y hj h => ⟨fun e => (have ⟨z, e1, e2⟩ := h.1 e; ⟨z, e1, e2.call k2⟩), fun e => by subst e; exact absurd hj (by decide), h.2.2⟩) (fun _ => ⟨fun e => absurd e (by decide), fun e => absurd e (by decide), fun _ _ => rfl⟩)⟩
                · intro n f a9 u K' hfr hn hl hS hv hK'
                  have eA8 : a9.tmps.getD 6 undef = .slice (some ⟨W, 0, none⟩) 5 wk := hfr 6 (no_dst (by kernel_rfl))
                  have eB8 : (a9.tmps[6]?).getD undef = .slice (some ⟨W, 0, none⟩) 5 wk := by simpa using eA8
                  refine owe_run rfl (wp_val (v := .slice (some ⟨W, 0, none⟩) 5 wk) ?_ (hK' _ _ ⟨fun h => hS.1 (setl_off h), fun h => hS.2.1 (setl_off h), fun h => hS.2.2 (by rwa [setl_ne (by decide)] at h)⟩ (fun _ _ _ h => h) (fun _ => ⟨fun e => absurd e (by decide), fun e => absurd e (by decide), fun _ _ => rfl⟩)))
                  first
                    | (go_simp; done)
                    | (go_simp; rfl)
                · intro n f a9 u K' hfr hn hl hS hv hK'
                  have eA0 : a9.tmps.getD 107 undef = .slice (some ⟨W, 0, none⟩) 5 wk := hv.1.2.2 (by decide) (by decide)
                  have eB0 : (a9.tmps[107]?).getD undef = .slice (some ⟨W, 0, none⟩) 5 wk := by simpa using eA0
                  refine owe_run rfl (wp_val (v := .pointer (some ⟨W, 2, none⟩)) ?_ (hK' _ _ ⟨fun h => hS.1 (setl_off h), fun h => hS.2.1 (setl_off h), fun h => hS.2.2 (by rwa [setl_ne (by decide)] at h)⟩ (fun _ _ _ h => h) (fun _ => ⟨fun e => absurd e (by decide), fun e => absurd e (by decide), fun _ _ => rfl⟩)))
                  first
                    | (go_simp; done)
                    | (go_simp; rfl)
                · intro n f a9 u K' hfr hn hl hS hv hK'
                  have eA0 : a9.tmps.getD 108 undef = .pointer (some ⟨W, 2, none⟩) := hv.1.2.2 (by decide) (by decide)
                  have eB0 : (a9.tmps[108]?).getD undef = .pointer (some ⟨W, 2, none⟩) := by simpa using eA0
                  have hb9 := hS.1 (hl.2.2 27 (by decide))
                  have cu := (hb9.cell (p := ⟨W, 2, none⟩) hWl).trans cw2
                  refine owe_run rfl (wp_val (v := .string (txt x2)) ?_ (hK' _ _ ⟨fun h => hS.1 (setl_off h), fun h => hS.2.1 (setl_off h), fun h => hS.2.2 (by rwa [setl_ne (by decide)] at h)⟩ (fun _ _ _ h => h) (fun _ => ⟨fun e => absurd e (by decide), fun e => absurd e (by decide), fun _ _ => rfl⟩)))
                  first
                    | (go_simp; done)
                    | (go_simp; rfl)
                · intro n f a9 u K' hfr hn hl hS hv hK'
                  have eA0 : a9.tmps.getD 109 undef = .string (txt x2) := hv.1.2.2 (by decide) (by decide)
                  have eB0 : (a9.tmps[109]?).getD undef = .string (txt x2) := by simpa using eA0
                  refine owe_run rfl (wp_fn rfl (args1 eA0) (enter_fn Tryz.func29 (by kernel_rfl) rfl _ _) ((l8Read_txt u x2 hz2 nb HNB.out).mono ?_))
                  rintro e u2 ⟨rfl, k2⟩
                  exact ⟨_, rfl, hK' _ _ ⟨fun h => (have hb := hS.1 (setl_off h); ((⟨hb, hb.size⟩ : From _ w1 u).call k2).below), fun h => (hS.2.1 (setl_off h)).trans (Other.below k2), fun h => (by rw [setl_ne (by decide), hl.2.2 30 (by decide)] at h; cases h)⟩ (fun j y hj h => ⟨fun e => (have ⟨z, e1, e2⟩ := h.1 e; ⟨z, e1, e2.call k2⟩), fun e => by subst e; exact absurd hj (by decide), h.2.2⟩) (fun _ => ⟨fun e => absurd e (by decide), fun e => absurd e (by decide), fun _ _ => rfl⟩)⟩
                · intro n f a9 u K' hfr hn hl hS hv hK'
                  have eA8 : a9.tmps.getD 6 undef = .slice (some ⟨W, 0, none⟩) 5 wk := hfr 6 (no_dst (by kernel_rfl))
                  have eB8 : (a9.tmps[6]?).getD undef = .slice (some ⟨W, 0, none⟩) 5 wk := by simpa using eA8
                  refine owe_run rfl (wp_val (v := .slice (some ⟨W, 0, none⟩) 5 wk) ?_ (hK' _ _ ⟨fun h => hS.1 (setl_off h), fun h => hS.2.1 (setl_off h), fun h => hS.2.2 (by rwa [setl_ne (by decide)] at h)⟩ (fun _ _ _ h => h) (fun _ => ⟨fun e => absurd e (by decide), fun e => absurd e (by decide), fun _ _ => rfl⟩)))
                  first
                    | (go_simp; done)
                    | (go_simp; rfl)
                · intro n f a9 u K' hfr hn hl hS hv hK'
                  have eA0 : a9.tmps.getD 111 undef = .slice (some ⟨W, 0, none⟩) 5 wk := hv.1.2.2 (by decide) (by decide)
                  have eB0 : (a9.tmps[111]?).getD undef = .slice (some ⟨W, 0, none⟩) 5 wk := by simpa using eA0
                  refine owe_run rfl (wp_val (v := .pointer (some ⟨W, 3, none⟩)) ?_ (hK' _ _ ⟨fun h => hS.1 (setl_off h), fun h => hS.2.1 (setl_off h), fun h => hS.2.2 (by rwa [setl_ne (by decide)] at h)⟩ (fun _ _ _ h => h) (fun _ => ⟨fun e => absurd e (by decide), fun e => absurd e (by decide), fun _ _ => rfl⟩)))
                  first
                    | (go_simp; done)
                    | (go_simp; rfl)
                · intro n f a9 u K' hfr hn hl hS hv hK'
                  have eA0 : a9.tmps.getD 112 undef = .pointer (some ⟨W, 3, none⟩) := hv.1.2.2 (by decide) (by decide)
                  have eB0 : (a9.tmps[112]?).getD undef = .pointer (some ⟨W, 3, none⟩) := by simpa using eA0
                  have hb9 := hS.1 (hl.2.2 27 (by decide))
                  have cu := (hb9.cell (p := ⟨W, 3, none⟩) hWl).trans cw3
                  refine owe_run rfl (wp_val (v := .string (txt x3)) ?_ (hK' _ _ ⟨fun h => hS.1 (setl_off h), fun h => hS.2.1 (setl_off h), fun h => hS.2.2 (by rwa [setl_ne (by decide)] at h)⟩ (fun _ _ _ h => h) (fun _ => ⟨fun e => absurd e (by decide), fun e => absurd e (by decide), fun _ _ => rfl⟩)))
                  first
                    | (go_simp; done)
                    | (go_simp; rfl)
                · intro n f a9 u K' hfr hn hl hS hv hK'
                  have eA0 : a9.tmps.getD 113 undef = .string (txt x3) := hv.1.2.2 (by decide) (by decide)
                  have eB0 : (a9.tmps[113]?).getD undef = .string (txt x3) := by simpa using eA0
                  refine owe_run rfl (wp_fn rfl (args1 eA0) (enter_fn Tryz.func29 (by kernel_rfl) rfl _ _) ((l8Read_txt u x3 hz3 nc HNC.out).mono ?_))
                  rintro e u2 ⟨rfl, k2⟩
                  exact ⟨_, rfl, hK' _ _ ⟨fun h => (have hb := hS.1 (setl_off h); ((⟨hb, hb.size⟩ : From _ w1 u).call k2).below), fun h => (hS.2.1 (setl_off h)).trans (Other.below k2), fun h => (by rw [setl_ne (by decide), hl.2.2 30 (by decide)] at h; cases h)⟩ (fun j y hj h => ⟨fun e => (have ⟨z, e1, e2⟩ := h.1 e; ⟨z, e1, e2.call k2⟩), fun e => by subst e; exact absurd hj (by decide), h.2.2⟩) (fun _ => ⟨fun e => absurd e (by decide), fun e => absurd e (by decide), fun _ _ => rfl⟩)⟩
                · intro n f a9 u K' hfr hn hl hS hv hK'
                  have eA8 : a9.tmps.getD 6 undef = .slice (some ⟨W, 0, none⟩) 5 wk := hfr 6 (no_dst (by kernel_rfl))
                  have eB8 : (a9.tmps[6]?).getD undef = .slice (some ⟨W, 0, none⟩) 5 wk := by simpa using eA8
                  refine owe_run rfl (wp_val (v := .slice (some ⟨W, 0, none⟩) 5 wk) ?_ (hK' _ _ ⟨fun h => hS.1 (setl_off h), fun h => hS.2.1 (setl_off h), fun h => hS.2.2 (by rwa [setl_ne (by decide)] at h)⟩ (fun _ _ _ h => h) (fun _ => ⟨fun e => absurd e (by decide), fun e => absurd e (by decide), fun _ _ => rfl⟩)))
                  first
                    | (go_simp; done)
                    | (go_simp; rfl)
                · intro n f a9 u K' hfr hn hl hS hv hK'
                  have eA0 : a9.tmps.getD 115 undef = .slice (some ⟨W, 0, none⟩) 5 wk := hv.1.2.2 (by decide) (by decide)
                  have eB0 : (a9.tmps[115]?).getD undef = .slice (some ⟨W, 0, none⟩) 5 wk := by simpa using eA0
                  refine owe_run rfl (wp_val (v := .pointer (some ⟨W, 4, none⟩)) ?_ (hK' _ _ ⟨fun h => hS.1 (setl_off h), fun h => hS.2.1 (setl_off h), fun h => hS.2.2 (by rwa [setl_ne (by decide)] at h)⟩ (fun _ _ _ h => h) (fun _ => ⟨fun e => absurd e (by decide), fun e => absurd e (by decide), fun _ _ => rfl⟩)))
                  first
                    | (go_simp; done)
                    | (go_simp; rfl)
                · intro n f a9 u K' hfr hn hl hS hv hK'
                  have eA0 : a9.tmps.getD 116 undef = .pointer (some ⟨W, 4, none⟩) := hv.1.2.2 (by decide) (by decide)
                  have eB0 : (a9.tmps[116]?).getD undef = .pointer (some ⟨W, 4, none⟩) := by simpa using eA0
                  have hb9 := hS.1 (hl.2.2 27 (by decide))
                  have cu := (hb9.cell (p := ⟨W, 4, none⟩) hWl).trans cw4
                  refine owe_run rfl (wp_val (v := .string (txt x4)) ?_ (hK' _ _ ⟨fun h => hS.1 (setl_off h), fun h => hS.2.1 (setl_off h), fun h => hS.2.2 (by rwa [setl_ne (by decide)] at h)⟩ (fun _ _ _ h => h) (fun _ => ⟨fun e => absurd e (by decide), fun e => absurd e (by decide), fun _ _ => rfl⟩)))
                  first
                    | (go_simp; done)
                    | (go_simp; rfl)
                · intro n f a9 u K' hfr hn hl hS hv hK'
                  have eA0 : a9.tmps.getD 117 undef = .string (txt x4) := hv.1.2.2 (by decide) (by decide)
                  have eB0 : (a9.tmps[117]?).getD undef = .string (txt x4) := by simpa using eA0
                  refine owe_run rfl (wp_fn rfl (args1 eA0) (enter_fn Tryz.func29 (by kernel_rfl) rfl _ _) ((l8Read_txt u x4 hz4 nd HND.out).mono ?_))
                  rintro e u2 ⟨rfl, k2⟩
                  exact ⟨_, rfl, hK' _ _ ⟨fun h => (have hb := hS.1 (setl_off h); ((⟨hb, hb.size⟩ : From _ w1 u).call k2).below), fun h => (hS.2.1 (setl_off h)).trans (Other.below k2), fun h => (by rw [setl_ne (by decide), hl.2.2 30 (by decide)] at h; cases h)⟩ (fun j y hj h => ⟨fun e => (have ⟨z, e1, e2⟩ := h.1 e; ⟨z, e1, e2.call k2⟩), fun e => by subst e; exact absurd hj (by decide), h.2.2⟩) (fun _ => ⟨fun e => absurd e (by decide), fun e => absurd e (by decide), fun _ _ => rfl⟩)⟩
                · intro n f a9 u K' hfr hn hl hS hv hK'
                  have eA0 : a9.tmps.getD 106 undef = .int .i64 na := hv.1.2.2 (by decide) (by decide)
                  have eB0 : (a9.tmps[106]?).getD undef = .int .i64 na := by simpa using eA0
                  have eA1 : a9.tmps.getD 110 undef = .int .i64 nb := hv.2.1.2.2 (by decide) (by decide)
                  have eB1 : (a9.tmps[110]?).getD undef = .int .i64 nb := by simpa using eA1
                  have eA2 : a9.tmps.getD 114 undef = .int .i64 nc := hv.2.2.1.2.2 (by decide) (by decide)
                  have eB2 : (a9.tmps[114]?).getD undef = .int .i64 nc := by simpa using eA2
                  have eA3 : a9.tmps.getD 118 undef = .int .i64 nd := hv.2.2.2.1.2.2 (by decide) (by decide)
                  have eB3 : (a9.tmps[118]?).getD undef = .int .i64 nd := by simpa using eA3
                  refine owe_run rfl (wp_val (v := .agg #[.int .i64 na, .int .i64 nb, .int .i64 nc, .int .i64 nd]) ?_ (hK' _ _ ⟨fun h => hS.1 (setl_off h), fun h => hS.2.1 (setl_off h), fun h => hS.2.2 (by rwa [setl_ne (by decide)] at h)⟩ (fun _ _ _ h => h) (fun _ => ⟨fun e => absurd e (by decide), fun e => absurd e (by decide), fun _ _ => rfl⟩)))
                  first
                    | (go_simp; done)
                    | (go_simp; rfl)
                · intro n f a9 u K' hfr hn hl hS hv hK'
                  have eA0 : a9.tmps.getD 119 undef = .agg #[.int .i64 na, .int .i64 nb, .int .i64 nc, .int .i64 nd] := hv.1.2.2 (by decide) (by decide)
                  have eB0 : (a9.tmps[119]?).getD undef = .agg #[.int .i64 na, .int .i64 nb, .int .i64 nc, .int .i64 nd] := by simpa using eA0
                  have k1 : Below u.heap.size u (u.alloc (.cells #[.int .i64 na, .int .i64 nb, .int .i64 nc, .int .i64 nd] 56)) := ((From.start u).alloc _).below
                  refine owe_run rfl (wp_val (v := .slice (some ⟨u.heap.size, 0, none⟩) 1 1) (w' := u.alloc (.cells #[.int .i64 na, .int .i64 nb, .int .i64 nc, .int .i64 nd] 56)) ?_ (hK' _ _ ⟨fun h => (have hb := hS.1 (setl_off h); ((⟨hb, hb.size⟩ : From _ w1 u).alloc _).below), fun h => (hS.2.1 (setl_off h)).trans (Other.below k1), fun h => (by rw [setl_ne (by decide), hl.2.2 30 (by decide)] at h; cases h)⟩ (fun j y hj h => ⟨fun e => (have ⟨z, e1, e2⟩ := h.1 e; ⟨z, e1, e2.call k1⟩), fun e => by subst e; exact absurd hj (by decide), h.2.2⟩) (fun _ => ⟨fun _ => ⟨_, rfl, Blk.new u _ _⟩, fun e => absurd e (by decide), fun e _ => absurd rfl e⟩)))
                  first
                    | (go_simp; done)
                    | (go_simp; rfl)
                · intro n f a9 u K' hfr hn hl hS hv hK'
                  have eA0 : a9.tmps.getD 102 undef = .slice fa j fc := hv.1.2.2 (by decide) (by decide)
                  obtain ⟨z', e8, hz8⟩ := hv.2.1.1 rfl
                  have hb9 := hS.1 hl.1
                  have hown : u.ownsRow (X + 2) 56 4 (.slice fa j fc) j (fixCells F) := owns_call HMF.out hb9
                  have hsz := hb9.size
                  refine step_append_newD rfl (.tmp 102) (.tmp 120) 50 50 rfl (X + 2) 56 j0 _ 4 32 Tryz.underlying50 hj0 ja0 ja1 ja2 rfl (by decide) _ _ _ eA0 hown _ 1 (fixL (na, nb, nc, nd)) e8 (src_blk Tryz.underlying50 u z' (fixL (na, nb, nc, nd)) 4 1 1 56 hz8 rfl (by intro u hu; simp only [fixL, List.mem_cons, List.not_mem_nil, or_false] at hu; rcases hu with rfl | rfl | rfl | rfl <;> rfl)) (by unfold maxLen; omega) (by omega) (by omega) ?_
                  intro v' w1 hown1 hgr1 hpl
                  have hmid : Mid w1 v' := ⟨u, hb9, hgr1, hown1, hpl⟩
                  exact hK' _ _ ⟨fun h => (by rw [setl_at] at h; cases h), fun h => (hS.2.1 (setl_off h)).trans (Other.grown hgr1 (fun k' hk' => by simpa using hk')), fun h => (by rw [setl_ne (by decide), hl.2.2 30 (by decide)] at h; cases h)⟩ (fun j y hj h => ⟨fun e => by subst e; exact absurd hj (by decide), fun e => by subst e; exact absurd hj (by decide), h.2.2⟩) (fun _ => ⟨fun e => absurd e (by decide), fun _ => hmid, fun _ e => absurd rfl e⟩)
                · intro n f a9 u K' hfr hn hl hS hv hK'
                  have eA0 : a9.tmps.getD 95 undef = .slice (some ⟨pg, 0, none⟩) sn sc := hv.1.2.2 (by decide) (by decide)
                  have eB0 : (a9.tmps[95]?).getD undef = .slice (some ⟨pg, 0, none⟩) sn sc := by simpa using eA0
                  have eA1 : a9.tmps.getD 96 undef = .int .i64 (kk : Int) := hv.2.1.2.2 (by decide) (by decide)
                  have eB1 : (a9.tmps[96]?).getD undef = .int .i64 (kk : Int) := by simpa using eA1
                  refine owe_run rfl (wp_val (v := .pointer (some ⟨pg, kk * 6, none⟩)) ?_ (hK' _ _ ⟨fun h => hS.1 (setl_off h), fun h => hS.2.1 (setl_off h), fun h => hS.2.2 (by rwa [setl_ne (by decide)] at h)⟩ (fun _ _ _ h => h) (fun _ => ⟨fun e => absurd e (by decide), fun e => absurd e (by decide), fun _ _ => rfl⟩)))
                  first
                    | (go_simp; done)
                    | (go_simp; rfl)
                · intro n f a9 u K' hfr hn hl hS hv hK'
                  have eA0 : a9.tmps.getD 122 undef = .pointer (some ⟨pg, kk * 6, none⟩) := hv.1.2.2 (by decide) (by decide)
                  have eB0 : (a9.tmps[122]?).getD undef = .pointer (some ⟨pg, kk * 6, none⟩) := by simpa using eA0
                  refine owe_run rfl (wp_val (v := .pointer (some ⟨pg, kk * 6 + 5, none⟩)) ?_ (hK' _ _ ⟨fun h => hS.1 (setl_off h), fun h => hS.2.1 (setl_off h), fun h => hS.2.2 (by rwa [setl_ne (by decide)] at h)⟩ (fun _ _ _ h => h) (fun _ => ⟨fun e => absurd e (by decide), fun e => absurd e (by decide), fun _ _ => rfl⟩)))
                  first
                    | (go_simp; done)
                    | (go_simp; rfl)
                · intro n f a9 u K' hfr hn hl hS hv hK'
                  have hmid := hv.1.2.1 rfl
                  have eA1 : a9.tmps.getD 123 undef = .pointer (some ⟨pg, kk * 6 + 5, none⟩) := hv.2.1.2.2 (by decide) (by decide)
                  have eB1 : (a9.tmps[123]?).getD undef = .pointer (some ⟨pg, kk * 6 + 5, none⟩) := by simpa using eA1
                  obtain ⟨v', hv'⟩ : ∃ v', (a9.tmps[121]?).getD undef = v' := ⟨_, rfl⟩
                  have e9 : a9.tmps.getD 121 undef = v' := by rw [← hv']; simp
                  rw [e9] at hmid
                  have hmid2 := hmid
                  obtain ⟨u0, hb0, hgr0, hown0, hpl0⟩ := hmid
                  obtain ⟨va9, vc9, e10⟩ : ∃ va9 vc9, v' = .slice va9 (j + 1) vc9 := owns_form hown0
                  subst e10
                  have ho9 : Other (Value.slice fa j fc).ownBlock.toList w1 u := (Other.below hb0).trans (Other.grown hgr0 (fun k' hk' => by simpa using hk'))
                  have hf9 : OwnF u (X + 2) (Value.slice va9 (j + 1) vc9) (F ++ [((na, nb, nc, nd) : FixD)]) := fix_snoc (by rw [HFJ.out]; exact hown0)
                  have hp9 : ∀ k', (Value.slice va9 (j + 1) vc9).ownBlock = some k' → (Value.slice fa j fc).ownBlock = some k' ∨ w1.heap.size ≤ k' := fun k' hk' => by
                    rcases hpl0 with e | e
                    · exact .inl (e ▸ hk')
                    · rw [e] at hk'; simp only [Option.some.injEq] at hk'; have := hb0.size; right; omega
                  have hrow := (HS1.out.addFix HSNN.out.symm ho9 hf9 hp9).2
                  have cq := World.ownsRow.cellAt hrow (kk * 6 + 5) (by have := HK.out; omega)
                  have cq2 : u.cell? ⟨pg, kk * 6 + 5, none⟩ = some (.slice fa j fc) := by
                    rw [cq, ← HDK.out]
                    exact flat_at secL 6 secL_length _ _ _ _ (by decide)
                  have fq := World.ownsRow.frozenAt hrow (kk * 6 + 5)
                  clear cq
                  refine owe_run rfl (wp_skp (w' := u.setCell ⟨pg, kk * 6 + 5, none⟩ (.slice va9 (j + 1) vc9)) ?_ (hK' undef _ ⟨fun h => (by rw [setl_ne (by decide), hl.2.1 27 (by decide)] at h; cases h), fun h => (by rw [setl_at] at h; cases h), fun _ => ⟨_, u, rfl, hmid2⟩⟩ (fun j y hj h => ⟨fun e => by subst e; exact absurd hj (by decide), fun e => by subst e; exact absurd hj (by decide), h.2.2⟩) (fun h => absurd rfl h)))
                  first
                    | (go_simp; done)
                    | (go_simp; rfl)
              case hq =>
                intro gg9 u hS hv
                clear hv f0
                obtain ⟨v', u1, rfl, u0, hb0, hgr0, hown0, hpl0⟩ := hS.2.2 (by decide)
                clear hS Mid
                have ho9 : Other (Value.slice fa j fc).ownBlock.toList w1 u1 := (Other.below hb0).trans (Other.grown hgr0 (fun k' hk' => by simpa using hk'))
                have hf9 : OwnF u1 (X + 2) (v') (F ++ [((na, nb, nc, nd) : FixD)]) := fix_snoc (by rw [HFJ.out]; exact hown0)
                have hp9 : ∀ k', (v').ownBlock = some k' → (Value.slice fa j fc).ownBlock = some k' ∨ w1.heap.size ≤ k' := fun k' hk' => by
                  rcases hpl0 with e | e
                  · exact .inl (e ▸ hk')
                  · rw [e] at hk'; simp only [Option.some.injEq] at hk'; have := hb0.size; right; omega
                have hbx := box_fix HB1.out HOL.out HSNN.out.symm HS1.out HY1.out (by omega) (by omega) ho9 hf9 hp9
                rw [HDK.out] at hbx
                have HBOX := Lib.hid hbx.1
                have hXl : X ∉ pg :: (Value.slice fa j fc).ownBlock.toList := fun hg => by
                  rcases List.mem_cons.1 hg with hg | hg
                  · omega
                  · have := (World.ownsRow.lt HMF.out X (by simpa using hg)).1; omega
                have HR10 := Lib.hid (HR.out.otherB hbx.2 hXl)
                have HF10 := Lib.hid (HF.out.other hbx.2 (fun g hg => by
                  rcases List.mem_cons.1 hg with rfl | hg
                  · omega
                  · have := (World.ownsRow.lt HMF.out g (by simpa using hg)).1
                    omega))
                have HLI : Hid (wordsS o ws = some ⟨addLast o.secs (na, nb, nc, nd), o.syms⟩) := by
                  show _ = _
                  rw [HWS.out, ← HNA.out, ← HNB.out, ← HNC.out, ← HND.out]
                  exact wordsS_fix (by rw [HOL.out]; simp) _ _ _ _
                have HNM2 : Hid (Named 1073741824 ⟨addLast o.secs (na, nb, nc, nd), o.syms⟩) := ⟨addLast_names HNM.out.1, HNM.out.2⟩
                clear hbx hb0 hgr0 hown0 hpl0 ho9 hf9 hp9 HB1 HS1 HY1 HMF hXl
                generalize u1.setCell ⟨pg, kk * 6 + 5, none⟩ v' = u2 at *
                simp only [List.map, putG, List.setIfInBounds_toArray, List.set_cons_succ, List.set_cons_zero, Nat.zero_add, Nat.reduceAdd]
                go_wp2_with fail
                go_roundw
                case rel => exact ⟨k + 1, _, by omega, by go_num, HST2.out _ HLI.out, HBOX, few_addLast HW.out _, HNM2, HR10, HF10⟩
                case measure => simp [intOf]; try omega
            | false =>
              have h0 := of_decide_eq_false HFB.out
              have HS2 := Lib.hid h0
              clear h0
              obtain ⟨yb, hyb⟩ : ∃ yb : Bool, decide (x0 = symT ∧ L = 5) = yb := ⟨_, rfl⟩
              have HYB := Lib.hid hyb
              clear hyb cB zB
              go_upto_region 18 with fail
              go_cut [124] from 14 to 154 (fun c wx => c = .bool yb ∧ wx = w1)
              case first =>
                by_cases h1 : x0 = symT
                · have e1 := (txtList_iff x0 [115, 121, 109, 98, 111, 108]).2 h1
                  by_cases h2 : L = 5
                  · have e2 : ((L : Int) == 5) = true := by rw [beq_iff_eq]; omega
                    have E : Hid (yb = true) := by show _ = _; rw [← HYB.out]; simp [h1, h2]
                    clear h1 h2
                    go_wp2_with fail
                    go_meet
                    case rel => exact ⟨by rw [E.out], rfl⟩
                  · have e2 : ((L : Int) == 5) = false := by rw [beq_eq_false_iff_ne]; omega
                    have E : Hid (yb = false) := by show _ = _; rw [← HYB.out]; simp [h2]
                    clear h1 h2
                    go_wp2_with fail
                    go_meet
                    case rel => exact ⟨by rw [E.out], rfl⟩
                · have e1 := fun e => h1 ((txtList_iff x0 [115, 121, 109, 98, 111, 108]).1 e)
                  have e2 : ((txt x0).toList == [115, 121, 109, 98, 111, 108]) = false := by simpa using e1
                  have E : Hid (yb = false) := by show _ = _; rw [← HYB.out]; simp [h1]
                  clear h1
                  go_wp2_with fail
                  go_meet
                  case rel => exact ⟨by rw [E.out], rfl⟩
              case rest =>
                obtain ⟨rfl, rfl⟩ := hcut
                obtain ⟨w1, rfl⟩ : ∃ w1, w1 = wc := ⟨_, rfl⟩
                cases yb with
                | true =>
                  obtain ⟨h1, h2⟩ := of_decide_eq_true HYB.out
                  subst h1
                  obtain ⟨x1, x2, x3, x4, tl, hws, -, ht5⟩ := five_six HX00.out (.inl (by rw [HLN.out]; exact h2))
                  obtain rfl := ht5 (by rw [HLN.out]; exact h2)
                  subst h2
                  have HWS := Lib.hid hws
                  have cw1 := HWC.out 1 x1 (by rw [hws]; rfl)
                  have cw2 := HWC.out 2 x2 (by rw [hws]; rfl)
                  have cw3 := HWC.out 3 x3 (by rw [hws]; rfl)
                  have cw4 := HWC.out 4 x4 (by rw [hws]; rfl)
                  have hz1 := HSZ.out x1 (by rw [hws]; simp)
                  have hz2 := HSZ.out x2 (by rw [hws]; simp)
                  have hz3 := HSZ.out x3 (by rw [hws]; simp)
                  have hz4 := HSZ.out x4 (by rw [hws]; simp)
                  clear hws
                  obtain ⟨na, hna⟩ : ∃ a, readN x2 = a := ⟨_, rfl⟩
                  obtain ⟨nb, hnb⟩ : ∃ a, readN x3 = a := ⟨_, rfl⟩
                  obtain ⟨nc, hnc⟩ : ∃ a, readN x4 = a := ⟨_, rfl⟩
                  have HNA := Lib.hid hna
                  have HNB := Lib.hid hnb
                  have HNC := Lib.hid hnc
                  clear hna hnb hnc
                  go_upto_region 19 with fail
                  obtain ⟨ny, hny⟩ : ∃ ny, o.syms.length = ny := ⟨_, rfl⟩
                  have hy1 := HY1.out
                  obtain ⟨ya, yc, rfl⟩ : ∃ ya yc, vy = .slice ya ny yc := by rw [← hny]; exact owns_form hy1
                  have HN2 := Lib.hid hny
                  have hfl : ny ≤ k := by rw [← hny]; exact HW.out.2.1
                  have hy2 : w1.ownsRow (X + 2) 58 4 (.slice ya ny yc) ny (o.syms.flatMap symL) := by rw [← hny] at hy1 ⊢; exact hy1
                  have hqr : some (X + 1) ≠ (Value.slice ya ny yc).ownBlock := fun e => by have := (World.ownsRow.lt hy2 (X + 1) e.symm).1; omega
                  have hXr : some X ≠ (Value.slice ya ny yc).ownBlock := fun e => by have := (World.ownsRow.lt hy2 X e.symm).1; omega
                  clear HY1
                  have HY1 := Lib.hid hy2
                  clear hy1 hy2 hny
                  obtain ⟨j0, hj0, ja0, ja1, ja2⟩ := info_parts info_sym
                  let f0 : Nat → Value := fun i => match i with
                    | 0 => .pointer (some ⟨X + 1, 1, none⟩)
                    | 1 => .slice ya ny yc
                    | 2 => .slice (some ⟨W, 0, none⟩) 5 wk
                    | 3 => .pointer (some ⟨W, 1, none⟩)
                    | 4 => .string (txt x1)
                    | 5 => .slice (some ⟨W, 0, none⟩) 5 wk
                    | 6 => .pointer (some ⟨W, 2, none⟩)
                    | 7 => .string (txt x2)
                    | 8 => .int .i64 na
                    | 9 => .slice (some ⟨W, 0, none⟩) 5 wk
                    | 10 => .pointer (some ⟨W, 3, none⟩)
                    | 11 => .string (txt x3)
                    | 12 => .int .i64 nb
                    | 13 => .slice (some ⟨W, 0, none⟩) 5 wk
                    | 14 => .pointer (some ⟨W, 4, none⟩)
                    | 15 => .string (txt x4)
                    | 16 => .int .i64 nc
                    | 17 => .agg #[.string (txt x1), .int .i64 na, .int .i64 nb, .int .i64 nc]
                    | 20 => .pointer (some ⟨X + 1, 1, none⟩)
                    | _ => undef
                  let Mid : World → Value → Prop := fun u v' => ∃ u0, Below w1.heap.size w1 u0 ∧ u0.grownBy u (Value.slice ya ny yc).ownBlock ∧ u.ownsRow (X + 2) 58 4 v' (ny + 1) ((o.syms.flatMap symL) ++ symL (⟨txt x1, na, nb, nc⟩ : SymD)) ∧ (v'.ownBlock = (Value.slice ya ny yc).ownBlock ∨ v'.ownBlock = some u0.heap.size)
                  have hW9 := HF1.out.le
                  refine wp_region_get (fun i v u => (i = 18 → ∃ z', v = .slice (some ⟨z', 0, none⟩) 1 1 ∧ Blk u z' #[.string (txt x1), .int .i64 na, .int .i64 nb, .int .i64 nc] 58) ∧ (i = 19 → Mid u v) ∧ (i ≠ 18 → i ≠ 19 → v = f0 i))
                    (fun _ f u => (f 19 = false → Below w1.heap.size w1 u) ∧ (f 21 = true → ∃ v' u1, u = u1.setCell ⟨X + 1, 1, none⟩ v' ∧ Mid u1 v'))
                    [[], [0], [], [2], [3], [], [5], [6], [7], [], [9], [10], [11], [], [13], [14], [15], [4, 8, 12, 16], [17], [1, 18], [], [19, 20]] [[], [0], [], [2], [2, 3], [], [5], [5, 6], [5, 6, 7], [], [9], [9, 10], [5, 6, 7, 8, 9, 10, 11], [], [13], [13, 14], [5, 6, 7, 8, 9, 10, 11, 12, 13, 14, 15], [2, 3, 4, 5, 6, 7, 8, 9, 10, 11, 12, 13, 14, 15, 16], [2, 3, 4, 5, 6, 7, 8, 9, 10, 11, 12, 13, 14, 15, 16, 17], [0, 1, 2, 3, 4, 5, 6, 7, 8, 9, 10, 11, 12, 13, 14, 15, 16, 17, 18], [0, 1, 2, 3, 4, 5, 6, 7, 8, 9, 10, 11, 12, 13, 14, 15, 16, 17, 18, 19], [0, 1, 2, 3, 4, 5, 6, 7, 8, 9, 10, 11, 12, 13, 14, 15, 16, 17, 18, 19, 20]] [] (by kernel_rfl) (by kernel_rfl) (by kernel_rfl) (by kernel_rfl) (by kernel_rfl)
                    ⟨fun _ => ((From.start w1).drew).below, fun h => by cases h⟩ ?ho ?hq
                  case ho =>
                    refine ⟨?_, ?_, ?_, ?_, ?_, ?_, ?_, ?_, ?_, ?_, ?_, ?_, ?_, ?_, ?_, ?_, ?_, ?_, ?_, ?_, ?_, ?_, trivial⟩
                    · intro n f a9 u K' hfr hn hl hS hv hK'
                      have eA8 : a9.tmps.getD 4 undef = .pointer (some ⟨X + 1, 0, none⟩) := hfr 4 (no_dst (by kernel_rfl))
                      have eB8 : (a9.tmps[4]?).getD undef = .pointer (some ⟨X + 1, 0, none⟩) := by simpa using eA8
                      refine owe_run rfl (wp_val (v := .pointer (some ⟨X + 1, 1, none⟩)) ?_ (hK' _ _ ⟨fun h => hS.1 (setl_off h), fun h => hS.2 (by rwa [setl_ne (by decide)] at h)⟩ (fun _ _ _ h => h) (fun _ => ⟨fun e => absurd e (by decide), fun e => absurd e (by decide), fun _ _ => rfl⟩)))
                      first
                        | (go_simp; done)
                        | (go_simp; rfl)
                    · intro n f a9 u K' hfr hn hl hS hv hK'
                      have eA0 : a9.tmps.getD 134 undef = .pointer (some ⟨X + 1, 1, none⟩) := hv.1.2.2 (by decide) (by decide)
                      have eB0 : (a9.tmps[134]?).getD undef = .pointer (some ⟨X + 1, 1, none⟩) := by simpa using eA0
                      have hb9 := hS.1 (hl.2.2 19 (by decide))
                      have cu := (HB1.out.call hb9).cell
                      have zu := (HB1.out.call hb9).lt
                      refine owe_run rfl (wp_val (v := .slice ya ny yc) ?_ (hK' _ _ ⟨fun h => hS.1 (setl_off h), fun h => hS.2 (by rwa [setl_ne (by decide)] at h)⟩ (fun _ _ _ h => h) (fun _ => ⟨fun e => absurd e (by decide), fun e => absurd e (by decide), fun _ _ => rfl⟩)))
                      first
                        | (go_simp; done)
                        | (go_simp; rfl)
                    · intro n f a9 u K' hfr hn hl hS hv hK'
                      have eA8 : a9.tmps.getD 6 undef = .slice (some ⟨W, 0, none⟩) 5 wk := hfr 6 (no_dst (by kernel_rfl))
                      have eB8 : (a9.tmps[6]?).getD undef = .slice (some ⟨W, 0, none⟩) 5 wk := by simpa using eA8
                      refine owe_run rfl (wp_val (v := .slice (some ⟨W, 0, none⟩) 5 wk) ?_ (hK' _ _ ⟨fun h => hS.1 (setl_off h), fun h => hS.2 (by rwa [setl_ne (by decide)] at h)⟩ (fun _ _ _ h => h) (fun _ => ⟨fun e => absurd e (by decide), fun e => absurd e (by decide), fun _ _ => rfl⟩)))
                      first
                        | (go_simp; done)
                        | (go_simp; rfl)
                    · intro n f a9 u K' hfr hn hl hS hv hK'
                      have eA0 : a9.tmps.getD 136 undef = .slice (some ⟨W, 0, none⟩) 5 wk := hv.1.2.2 (by decide) (by decide)
                      have eB0 : (a9.tmps[136]?).getD undef = .slice (some ⟨W, 0, none⟩) 5 wk := by simpa using eA0
                      refine owe_run rfl (wp_val (v := .pointer (some ⟨W, 1, none⟩)) ?_ (hK' _ _ ⟨fun h => hS.1 (setl_off h), fun h => hS.2 (by rwa [setl_ne (by decide)] at h)⟩ (fun _ _ _ h => h) (fun _ => ⟨fun e => absurd e (by decide), fun e => absurd e (by decide), fun _ _ => rfl⟩)))
                      first
                        | (go_simp; done)
                        | (go_simp; rfl)
                    · intro n f a9 u K' hfr hn hl hS hv hK'
                      have eA0 : a9.tmps.getD 137 undef = .pointer (some ⟨W, 1, none⟩) := hv.1.2.2 (by decide) (by decide)
                      have eB0 : (a9.tmps[137]?).getD undef = .pointer (some ⟨W, 1, none⟩) := by simpa using eA0
                      have hb9 := hS.1 (hl.2.2 19 (by decide))
                      have cu := (hb9.cell (p := ⟨W, 1, none⟩) hWl).trans cw1
                      refine owe_run rfl (wp_val (v := .string (txt x1)) ?_ (hK' _ _ ⟨fun h => hS.1 (setl_off h), fun h => hS.2 (by rwa [setl_ne (by decide)] at h)⟩ (fun _ _ _ h => h) (fun _ => ⟨fun e => absurd e (by decide), fun e => absurd e (by decide), fun _ _ => rfl⟩)))
                      first
                        | (go_simp; done)
                        | (go_simp; rfl)
                    · intro n f a9 u K' hfr hn hl hS hv hK'
                      have eA8 : a9.tmps.getD 6 undef = .slice (some ⟨W, 0, none⟩) 5 wk := hfr 6 (no_dst (by kernel_rfl))
                      have eB8 : (a9.tmps[6]?).getD undef = .slice (some ⟨W, 0, none⟩) 5 wk := by simpa using eA8
                      refine owe_run rfl (wp_val (v := .slice (some ⟨W, 0, none⟩) 5 wk) ?_ (hK' _ _ ⟨fun h => hS.1 (setl_off h), fun h => hS.2 (by rwa [setl_ne (by decide)] at h)⟩ (fun _ _ _ h => h) (fun _ => ⟨fun e => absurd e (by decide), fun e => absurd e (by decide), fun _ _ => rfl⟩)))
                      first
                        | (go_simp; done)
                        | (go_simp; rfl)
                    · intro n f a9 u K' hfr hn hl hS hv hK'
                      have eA0 : a9.tmps.getD 139 undef = .slice (some ⟨W, 0, none⟩) 5 wk := hv.1.2.2 (by decide) (by decide)
                      have eB0 : (a9.tmps[139]?).getD undef = .slice (some ⟨W, 0, none⟩) 5 wk := by simpa using eA0
                      refine owe_run rfl (wp_val (v := .pointer (some ⟨W, 2, none⟩)) ?_ (hK' _ _ ⟨fun h => hS.1 (setl_off h), fun h => hS.2 (by rwa [setl_ne (by decide)] at h)⟩ (fun _ _ _ h => h) (fun _ => ⟨fun e => absurd e (by decide), fun e => absurd e (by decide), fun _ _ => rfl⟩)))
                      first
                        | (go_simp; done)
                        | (go_simp; rfl)
                    · intro n f a9 u K' hfr hn hl hS hv hK'
                      have eA0 : a9.tmps.getD 140 undef = .pointer (some ⟨W, 2, none⟩) := hv.1.2.2 (by decide) (by decide)
                      have eB0 : (a9.tmps[140]?).getD undef = .pointer (some ⟨W, 2, none⟩) := by simpa using eA0
                      have hb9 := hS.1 (hl.2.2 19 (by decide))
                      have cu := (hb9.cell (p := ⟨W, 2, none⟩) hWl).trans cw2
                      refine owe_run rfl (wp_val (v := .string (txt x2)) ?_ (hK' _ _ ⟨fun h => hS.1 (setl_off h), fun h => hS.2 (by rwa [setl_ne (by decide)] at h)⟩ (fun _ _ _ h => h) (fun _ => ⟨fun e => absurd e (by decide), fun e => absurd e (by decide), fun _ _ => rfl⟩)))
                      first
                        | (go_simp; done)
                        | (go_simp; rfl)
                    · intro n f a9 u K' hfr hn hl hS hv hK'
                      have eA0 : a9.tmps.getD 141 undef = .string (txt x2) := hv.1.2.2 (by decide) (by decide)
                      have eB0 : (a9.tmps[141]?).getD undef = .string (txt x2) := by simpa using eA0
                      refine owe_run rfl (wp_fn rfl (args1 eA0) (enter_fn Tryz.func29 (by kernel_rfl) rfl _ _) ((l8Read_txt u x2 hz2 na HNA.out).mono ?_))
                      rintro e u2 ⟨rfl, k2⟩
                      exact ⟨_, rfl, hK' _ _ ⟨fun h => (have hb := hS.1 (setl_off h); ((⟨hb, hb.size⟩ : From _ w1 u).call k2).below), fun h => (by rw [setl_ne (by decide), hl.2.2 21 (by decide)] at h; cases h)⟩ (fun j y hj h => ⟨fun e => (have ⟨z, e1, e2⟩ := h.1 e; ⟨z, e1, e2.call k2⟩), fun e => by subst e; exact absurd hj (by decide), h.2.2⟩) (fun _ => ⟨fun e => absurd e (by decide), fun e => absurd e (by decide), fun _ _ => rfl⟩)⟩
                    · intro n f a9 u K' hfr hn hl hS hv hK'
                      have eA8 : a9.tmps.getD 6 undef = .slice (some ⟨W, 0, none⟩) 5 wk := hfr 6 (no_dst (by kernel_rfl))
                      have eB8 : (a9.tmps[6]?).getD undef = .slice (some ⟨W, 0, none⟩) 5 wk := by simpa using eA8
                      refine owe_run rfl (wp_val (v := .slice (some ⟨W, 0, none⟩) 5 wk) ?_ (hK' _ _ ⟨fun h => hS.1 (setl_off h), fun h => hS.2 (by rwa [setl_ne (by decide)] at h)⟩ (fun _ _ _ h => h) (fun _ => ⟨fun e => absurd e (by decide), fun e => absurd e (by decide), fun _ _ => rfl⟩)))
                      first
                        | (go_simp; done)
                        | (go_simp; rfl)
                    · intro n f a9 u K' hfr hn hl hS hv hK'
                      have eA0 : a9.tmps.getD 143 undef = .slice (some ⟨W, 0, none⟩) 5 wk := hv.1.2.2 (by decide) (by decide)
                      have eB0 : (a9.tmps[143]?).getD undef = .slice (some ⟨W, 0, none⟩) 5 wk := by simpa using eA0
                      refine owe_run rfl (wp_val (v := .pointer (some ⟨W, 3, none⟩)) ?_ (hK' _ _ ⟨fun h => hS.1 (setl_off h), fun h => hS.2 (by rwa [setl_ne (by decide)] at h)⟩ (fun _ _ _ h => h) (fun _ => ⟨fun e => absurd e (by decide), fun e => absurd e (by decide), fun _ _ => rfl⟩)))
                      first
                        | (go_simp; done)
                        | (go_simp; rfl)
                    · intro n f a9 u K' hfr hn hl hS hv hK'
                      have eA0 : a9.tmps.getD 144 undef = .pointer (some ⟨W, 3, none⟩) := hv.1.2.2 (by decide) (by decide)
                      have eB0 : (a9.tmps[144]?).getD undef = .pointer (some ⟨W, 3, none⟩) := by simpa using eA0
                      have hb9 := hS.1 (hl.2.2 19 (by decide))
                      have cu := (hb9.cell (p := ⟨W, 3, none⟩) hWl).trans cw3
                      refine owe_run rfl (wp_val (v := .string (txt x3)) ?_ (hK' _ _ ⟨fun h => hS.1 (setl_off h), fun h => hS.2 (by rwa [setl_ne (by decide)] at h)⟩ (fun _ _ _ h => h) (fun _ => ⟨fun e => absurd e (by decide), fun e => absurd e (by decide), fun _ _ => rfl⟩)))
                      first
                        | (go_simp; done)
                        | (go_simp; rfl)
                    · intro n f a9 u K' hfr hn hl hS hv hK'
                      have eA0 : a9.tmps.getD 145 undef = .string (txt x3) := hv.1.2.2 (by decide) (by decide)
                      have eB0 : (a9.tmps[145]?).getD undef = .string (txt x3) := by simpa using eA0
                      refine owe_run rfl (wp_fn rfl (args1 eA0) (enter_fn Tryz.func29 (by kernel_rfl) rfl _ _) ((l8Read_txt u x3 hz3 nb HNB.out).mono ?_))
                      rintro e u2 ⟨rfl, k2⟩
                      exact ⟨_, rfl, hK' _ _ ⟨fun h => (have hb := hS.1 (setl_off h); ((⟨hb, hb.size⟩ : From _ w1 u).call k2).below), fun h => (by rw [setl_ne (by decide), hl.2.2 21 (by decide)] at h; cases h)⟩ (fun j y hj h => ⟨fun e => (have ⟨z, e1, e2⟩ := h.1 e; ⟨z, e1, e2.call k2⟩), fun e => by subst e; exact absurd hj (by decide), h.2.2⟩) (fun _ => ⟨fun e => absurd e (by decide), fun e => absurd e (by decide), fun _ _ => rfl⟩)⟩
                    · intro n f a9 u K' hfr hn hl hS hv hK'
                      have eA8 : a9.tmps.getD 6 undef = .slice (some ⟨W, 0, none⟩) 5 wk := hfr 6 (no_dst (by kernel_rfl))
                      have eB8 : (a9.tmps[6]?).getD undef = .slice (some ⟨W, 0, none⟩) 5 wk := by simpa using eA8
                      refine owe_run rfl (wp_val (v := .slice (some ⟨W, 0, none⟩) 5 wk) ?_ (hK' _ _ ⟨fun h => hS.1 (setl_off h), fun h => hS.2 (by rwa [setl_ne (by decide)] at h)⟩ (fun _ _ _ h => h) (fun _ => ⟨fun e => absurd e (by decide), fun e => absurd e (by decide), fun _ _ => rfl⟩)))
                      first
                        | (go_simp; done)
                        | (go_simp; rfl)
                    · intro n f a9 u K' hfr hn hl hS hv hK'
                      have eA0 : a9.tmps.getD 147 undef = .slice (some ⟨W, 0, none⟩) 5 wk := hv.1.2.2 (by decide) (by decide)
                      have eB0 : (a9.tmps[147]?).getD undef = .slice (some ⟨W, 0, none⟩) 5 wk := by simpa using eA0
                      refine owe_run rfl (wp_val (v := .pointer (some ⟨W, 4, none⟩)) ?_ (hK' _ _ ⟨fun h => hS.1 (setl_off h), fun h => hS.2 (by rwa [setl_ne (by decide)] at h)⟩ (fun _ _ _ h => h) (fun _ => ⟨fun e => absurd e (by decide), fun e => absurd e (by decide), fun _ _ => rfl⟩)))
                      first
                        | (go_simp; done)
                        | (go_simp; rfl)
                    · intro n f a9 u K' hfr hn hl hS hv hK'
                      have eA0 : a9.tmps.getD 148 undef = .pointer (some ⟨W, 4, none⟩) := hv.1.2.2 (by decide) (by decide)
                      have eB0 : (a9.tmps[148]?).getD undef = .pointer (some ⟨W, 4, none⟩) := by simpa using eA0
                      have hb9 := hS.1 (hl.2.2 19 (by decide))
                      have cu := (hb9.cell (p := ⟨W, 4, none⟩) hWl).trans cw4
                      refine owe_run rfl (wp_val (v := .string (txt x4)) ?_ (hK' _ _ ⟨fun h => hS.1 (setl_off h), fun h => hS.2 (by rwa [setl_ne (by decide)] at h)⟩ (fun _ _ _ h => h) (fun _ => ⟨fun e => absurd e (by decide), fun e => absurd e (by decide), fun _ _ => rfl⟩)))
                      first
                        | (go_simp; done)
                        | (go_simp; rfl)
                    · intro n f a9 u K' hfr hn hl hS hv hK'
                      have eA0 : a9.tmps.getD 149 undef = .string (txt x4) := hv.1.2.2 (by decide) (by decide)
                      have eB0 : (a9.tmps[149]?).getD undef = .string (txt x4) := by simpa using eA0
                      refine owe_run rfl (wp_fn rfl (args1 eA0) (enter_fn Tryz.func29 (by kernel_rfl) rfl _ _) ((l8Read_txt u x4 hz4 nc HNC.out).mono ?_))
                      rintro e u2 ⟨rfl, k2⟩
                      exact ⟨_, rfl, hK' _ _ ⟨fun h => (have hb := hS.1 (setl_off h); ((⟨hb, hb.size⟩ : From _ w1 u).call k2).below), fun h => (by rw [setl_ne (by decide), hl.2.2 21 (by decide)] at h; cases h)⟩ (fun j y hj h => ⟨fun e => (have ⟨z, e1, e2⟩ := h.1 e; ⟨z, e1, e2.call k2⟩), fun e => by subst e; exact absurd hj (by decide), h.2.2⟩) (fun _ => ⟨fun e => absurd e (by decide), fun e => absurd e (by decide), fun _ _ => rfl⟩)⟩
                    · intro n f a9 u K' hfr hn hl hS hv hK'
                      have eA0 : a9.tmps.getD 138 undef = .string (txt x1) := hv.1.2.2 (by decide) (by decide)
                      have eB0 : (a9.tmps[138]?).getD undef = .string (txt x1) := by simpa using eA0
                      have eA1 : a9.tmps.getD 142 undef = .int .i64 na := hv.2.1.2.2 (by decide) (by decide)
                      have eB1 : (a9.tmps[142]?).getD undef = .int .i64 na := by simpa using eA1
                      have eA2 : a9.tmps.getD 146 undef = .int .i64 nb := hv.2.2.1.2.2 (by decide) (by decide)
                      have eB2 : (a9.tmps[146]?).getD undef = .int .i64 nb := by simpa using eA2
                      have eA3 : a9.tmps.getD 150 undef = .int .i64 nc := hv.2.2.2.1.2.2 (by decide) (by decide)
                      have eB3 : (a9.tmps[150]?).getD undef = .int .i64 nc := by simpa using eA3
                      refine owe_run rfl (wp_val (v := .agg #[.string (txt x1), .int .i64 na, .int .i64 nb, .int .i64 nc]) ?_ (hK' _ _ ⟨fun h => hS.1 (setl_off h), fun h => hS.2 (by rwa [setl_ne (by decide)] at h)⟩ (fun _ _ _ h => h) (fun _ => ⟨fun e => absurd e (by decide), fun e => absurd e (by decide), fun _ _ => rfl⟩)))
                      first
                        | (go_simp; done)
                        | (go_simp; rfl)
                    · intro n f a9 u K' hfr hn hl hS hv hK'
                      have eA0 : a9.tmps.getD 151 undef = .agg #[.string (txt x1), .int .i64 na, .int .i64 nb, .int .i64 nc] := hv.1.2.2 (by decide) (by decide)
                      have eB0 : (a9.tmps[151]?).getD undef = .agg #[.string (txt x1), .int .i64 na, .int .i64 nb, .int .i64 nc] := by simpa using eA0
                      have k1 : Below u.heap.size u (u.alloc (.cells #[.string (txt x1), .int .i64 na, .int .i64 nb, .int .i64 nc] 58)) := ((From.start u).alloc _).below
                      refine owe_run rfl (wp_val (v := .slice (some ⟨u.heap.size, 0, none⟩) 1 1) (w' := u.alloc (.cells #[.string (txt x1), .int .i64 na, .int .i64 nb, .int .i64 nc] 58)) ?_ (hK' _ _ ⟨fun h => (have hb := hS.1 (setl_off h); ((⟨hb, hb.size⟩ : From _ w1 u).alloc _).below), fun h => (by rw [setl_ne (by decide), hl.2.2 21 (by decide)] at h; cases h)⟩ (fun j y hj h => ⟨fun e => (have ⟨z, e1, e2⟩ := h.1 e; ⟨z, e1, e2.call k1⟩), fun e => by subst e; exact absurd hj (by decide), h.2.2⟩) (fun _ => ⟨fun _ => ⟨_, rfl, Blk.new u _ _⟩, fun e => absurd e (by decide), fun e _ => absurd rfl e⟩)))
                      first
                        | (go_simp; done)
                        | (go_simp; rfl)
                    · intro n f a9 u K' hfr hn hl hS hv hK'
                      have eA0 : a9.tmps.getD 135 undef = .slice ya ny yc := hv.1.2.2 (by decide) (by decide)
                      obtain ⟨z', e8, hz8⟩ := hv.2.1.1 rfl
                      have hb9 := hS.1 hl.1
                      have hown : u.ownsRow (X + 2) 58 4 (.slice ya ny yc) ny (o.syms.flatMap symL) := owns_call HY1.out hb9
                      have hsz := hb9.size
                      refine step_append_newD rfl (.tmp 135) (.tmp 152) 26 26 rfl (X + 2) 58 j0 _ 4 40 Tryz.underlying26 hj0 ja0 ja1 ja2 rfl (by decide) _ _ _ eA0 hown _ 1 (symL (⟨txt x1, na, nb, nc⟩ : SymD)) e8 (src_blk Tryz.underlying26 u z' (symL (⟨txt x1, na, nb, nc⟩ : SymD)) 4 1 1 58 hz8 rfl (by intro u hu; simp only [symL, List.mem_cons, List.not_mem_nil, or_false] at hu; rcases hu with rfl | rfl | rfl | rfl <;> rfl)) (by unfold maxLen; omega) (by omega) (by omega) ?_
                      intro v' w1 hown1 hgr1 hpl
                      have hmid : Mid w1 v' := ⟨u, hb9, hgr1, hown1, hpl⟩
                      exact hK' _ _ ⟨fun h => (by rw [setl_at] at h; cases h), fun h => (by rw [setl_ne (by decide), hl.2.2 21 (by decide)] at h; cases h)⟩ (fun j y hj h => ⟨fun e => by subst e; exact absurd hj (by decide), fun e => by subst e; exact absurd hj (by decide), h.2.2⟩) (fun _ => ⟨fun e => absurd e (by decide), fun _ => hmid, fun _ e => absurd rfl e⟩)
                    · intro n f a9 u K' hfr hn hl hS hv hK'
                      have eA8 : a9.tmps.getD 4 undef = .pointer (some ⟨X + 1, 0, none⟩) := hfr 4 (no_dst (by kernel_rfl))
                      have eB8 : (a9.tmps[4]?).getD undef = .pointer (some ⟨X + 1, 0, none⟩) := by simpa using eA8
                      refine owe_run rfl (wp_val (v := .pointer (some ⟨X + 1, 1, none⟩)) ?_ (hK' _ _ ⟨fun h => hS.1 (setl_off h), fun h => hS.2 (by rwa [setl_ne (by decide)] at h)⟩ (fun _ _ _ h => h) (fun _ => ⟨fun e => absurd e (by decide), fun e => absurd e (by decide), fun _ _ => rfl⟩)))
                      first
                        | (go_simp; done)
                        | (go_simp; rfl)
                    · intro n f a9 u K' hfr hn hl hS hv hK'
                      have hmid := hv.1.2.1 rfl
                      have eA1 : a9.tmps.getD 154 undef = .pointer (some ⟨X + 1, 1, none⟩) := hv.2.1.2.2 (by decide) (by decide)
                      have eB1 : (a9.tmps[154]?).getD undef = .pointer (some ⟨X + 1, 1, none⟩) := by simpa using eA1
                      obtain ⟨v', hv'⟩ : ∃ v', (a9.tmps[153]?).getD undef = v' := ⟨_, rfl⟩
                      have e9 : a9.tmps.getD 153 undef = v' := by rw [← hv']; simp
                      rw [e9] at hmid
                      have hmid2 := hmid
                      obtain ⟨u0, hb0, hgr0, hown0, hpl0⟩ := hmid
                      obtain ⟨va9, vc9, e10⟩ : ∃ va9 vc9, v' = .slice va9 (ny + 1) vc9 := owns_form hown0
                      subst e10
                      have hbq := (HB1.out.call hb0).grown hgr0 hqr
                      have cq := hbq.cell
                      have fq := hbq.frozen
                      have zq := hbq.lt
                      refine owe_run rfl (wp_skp (w' := u.setCell ⟨X + 1, 1, none⟩ (.slice va9 (ny + 1) vc9)) ?_ (hK' undef _ ⟨fun h => (by rw [setl_ne (by decide), hl.2.1 19 (by decide)] at h; cases h), fun _ => ⟨_, u, rfl, hmid2⟩⟩ (fun j y hj h => ⟨fun e => by subst e; exact absurd hj (by decide), fun e => by subst e; exact absurd hj (by decide), h.2.2⟩) (fun h => absurd rfl h)))
                      first
                        | (go_simp; done)
                        | (go_simp; rfl)
                  case hq =>
                    intro gg9 u hS hv
                    clear hv f0
                    obtain ⟨v', u1, rfl, u0, hb0, hgr0, hown0, hpl0⟩ := hS.2 (by decide)
                    clear hS Mid
                    have hrowY : OwnSyms w1 (X + 2) (.slice ya ny yc) o.syms := by have h9 := HY1.out; rw [← HN2.out] at h9 ⊢; exact h9
                    have HBOX := Lib.hid (box_sym (x := (⟨txt x1, na, nb, nc⟩ : SymD)) (HB1.out.call hb0) HOL.out (HS1.out.call hb0) (owns_call hrowY hb0) (by omega) (by have := hb0.size; omega) hgr0 (by rw [HN2.out]; exact hown0))
                    have HR10 := Lib.hid (((HR.out.call hb0).grown hgr0 hXr).other (p := ⟨X + 1, 1, none⟩) (by show X + 1 ≠ X; omega) v')
                    have HF10 := Lib.hid (((HF.out.call hb0).grown hgr0 (fun k hk => by have := (World.ownsRow.lt HY1.out k hk).1; omega)).setCell (p := ⟨X + 1, 1, none⟩) (by show X ≤ X + 1; omega) v')
                    have HLI : Hid (wordsS o ws = some ⟨o.secs, o.syms ++ [(⟨txt x1, na, nb, nc⟩ : SymD)]⟩) := by
                      show _ = _
                      rw [HWS.out, ← HNA.out, ← HNB.out, ← HNC.out]
                      rfl
                    have HNM2 : Hid (Named 1073741824 ⟨o.secs, o.syms ++ [(⟨txt x1, na, nb, nc⟩ : SymD)]⟩) := symS_names hz1 HNM.out
                    clear hb0 hgr0 hown0 hpl0 hrowY HB1 HS1 HY1
                    generalize u1.setCell ⟨X + 1, 1, none⟩ v' = u2 at *
                    simp only [List.map, putG, List.setIfInBounds_toArray, List.set_cons_succ, List.set_cons_zero, Nat.zero_add, Nat.reduceAdd]
                    go_wp2_with fail
                    go_roundw
                    case rel => exact ⟨k + 1, _, by omega, by go_num, HST2.out _ HLI.out, HBOX, few_sym HW.out _, HNM2, HR10, HF10⟩
                    case measure => simp [intOf]; try omega
                | false =>
                  have h3 := of_decide_eq_false HYB.out
                  have HD : Hid (readD lineS (l.map bytesS) = none) := HSN.out (wordsS_none HX00.out (by rw [HLN.out]; exact HS0.out) (by rw [HLN.out]; exact fun h9 => HS2.out ⟨h9.1, h9.2.1, Nat.pos_of_ne_zero fun e => h9.2.2 (hSE.out.2 e)⟩) (by rw [HLN.out]; exact h3))
                  clear h3
                  have cR := HR.out.cell
                  have zR := HR.out.lt
                  have fR := HR.out.frozen
                  go_wp2_with fail
                  refine bodyPost_ret (v := .tuple #[.agg #[.slice none 0 0, .slice none 0 0], .bool false]) (by simp [results, Tryz.results7, go_sem, cR, zR]) rfl ⟨_, by rw [HD.out]; rfl, by rw [HD.out]; exact ownObj_zero0 _ _, ?_⟩
                  rw [hX]
                  exact ((HF.out.setCell (p := ⟨X, 0, none⟩) (Nat.le_refl X) _).setCell (p := ⟨X, 1, none⟩) (Nat.le_refl X) _).below
    · obtain rfl : n = k := by omega
      have HRA : Hid (readF lineS ⟨[], []⟩ (l.map bytesS) = some o) := by
        show _ = _
        have h9 := HRF.out
        rw [List.take_of_length_le (Nat.le_of_eq HN.out)] at h9
        exact h9
      obtain ⟨vs, vy, LS, hb, ho, hs9, hy, -, hBs⟩ := HX.out
      obtain ⟨n1, hn1⟩ : ∃ m, LS.length = m := ⟨_, rfl⟩
      obtain ⟨n2, hn2⟩ : ∃ m, o.syms.length = m := ⟨_, rfl⟩
      obtain ⟨sa, sc, rfl⟩ : ∃ sa sc, vs = .slice sa n1 sc := by rw [← hn1]; exact owns_form hs9.row
      obtain ⟨ya, yc, rfl⟩ : ∃ ya yc, vy = .slice ya n2 yc := by rw [← hn2]; exact owns_form hy
      have HOA : Hid (∀ u, Below wr.heap.size wr u → OwnObj u (X + 2) (.agg #[.slice sa n1 sc, .slice ya n2 yc]) o) := fun u hu =>
        OwnObj.call ⟨_, _, LS, rfl, ho, hs9, hy, fun k' hk' hm => by
          rcases List.mem_append.1 hm with hm | hm
          · exact owns_ne hy hs9.row (by decide) k' hk' (by simpa using hm)
          · obtain ⟨y, hy', hm⟩ := List.mem_flatMap.1 hm
            rcases List.mem_append.1 hm with hm | hm
            · exact owns_ne hy (hs9.each y hy').1 (by decide) k' hk' (by simpa using hm)
            · exact owns_ne hy (hs9.each y hy').2 (by decide) k' hk' (by simpa using hm)⟩ hu
      have HNS : Hid ((∀ s ∈ o.secs, s.name.size ≤ maxLen) ∧ ∀ s ∈ o.syms, s.name.size ≤ maxLen) := ⟨fun s h => by have := HNM.out.1 s h; unfold maxLen; omega, fun s h => by have := HNM.out.2 s h; unfold maxLen; omega⟩
      have HBX := Lib.hid hb
      have cB := HBX.out.cell
      have zB := HBX.out.lt
      obtain ⟨ob, hob⟩ : ∃ ob, objB o = ob := ⟨_, rfl⟩
      have HOB := Lib.hid hob
      clear hb ho hs9 hy hn1 hn2 hob
      go_wp2_with fail
      refine (s_DumpObject wr _ o (HOA.out wr (Below.refl _ _)).reads HNS.out).mono ?_
      obtain ⟨dl, hdl⟩ : ∃ d, dumpL o = d := ⟨_, rfl⟩
      rw [hdl]
      rintro e w1 ⟨r, rfl, hr, k1⟩
      have HDL := Lib.hid hdl
      obtain ⟨dn, hdn⟩ : ∃ m, dl.length = m := ⟨_, rfl⟩
      have hrr : w1.ownsRow wr.heap.size 9 1 r dn (svs (dl.map txt)) := by have h9 := hr; unfold OwnS at h9; rw [List.length_map, hdn] at h9; exact h9
      obtain ⟨ra, rc, rfl⟩ := owns_form hrr
      have HRR := Lib.hid hrr
      have HDN := Lib.hid hdn
      have HR := Lib.hid (HR.out.call k1)
      have HF := Lib.hid (HF.out.call k1)
      have HBX := Lib.hid (HBX.out.call k1)
      have HOA1 := Lib.hid (HOA.out w1 k1)
      have HVV : Hid (StrsAt w1 (.slice a n cap) l) := by
        have h9 := HV0.out
        rw [HN.out] at h9
        exact h9.below (Nat.le_refl _) (by rw [hX]; exact HF.out.below)
      clear cB zB hdl hdn hr hrr k1 HOA
      have cB := HBX.out.cell
      have zB := HBX.out.lt
      go_wp2_with fail
      refine (s_ObjectValid w1 _ o HOA1.out.reads HNS.out).mono ?_
      rw [HOB.out]
      rintro e w2 ⟨rfl, k2⟩
      have HR := Lib.hid (HR.out.call k2)
      have HF := Lib.hid (HF.out.call k2)
      have HBX := Lib.hid (HBX.out.call k2)
      have HOA2 := Lib.hid (HOA1.out.call k2)
      have HRR := Lib.hid (owns_call HRR.out k2)
      have HVV := Lib.hid (HVV.out.below (Nat.le_refl _) k2)
      clear cB zB k2 HOA1
      have cR := HR.out.cell
      have zR := HR.out.lt
      have fR := HR.out.frozen
      cases ob with
      | false =>
        have HD : Hid (readD lineS (l.map bytesS) = none) := by
          show _ = _
          unfold readD
          rw [HRA.out]
          simp [HOB.out]
        go_wp2_with fail
        refine bodyPost_ret (v := .tuple #[.agg #[.slice none 0 0, .slice none 0 0], .bool false]) (by simp [results, Tryz.results7, go_sem, cR, zR]) rfl ⟨_, by rw [HD.out]; rfl, by rw [HD.out]; exact ownObj_zero0 _ _, ?_⟩
        rw [hX]
        exact ((HF.out.setCell (p := ⟨X, 0, none⟩) (Nat.le_refl X) _).setCell (p := ⟨X, 1, none⟩) (Nat.le_refl X) _).below
      | true =>
        have HDQ : Hid (readD lineS (l.map bytesS) = if dl = l.map bytesS then some o else none) := by
          show _ = _
          unfold readD
          rw [HRA.out]
          show (if objB o = true ∧ dumpL o = l.map bytesS then some o else none) = _
          rw [HDL.out]
          by_cases h9 : dl = l.map bytesS
          · rw [if_pos ⟨HOB.out, h9⟩, if_pos h9]
          · rw [if_neg (fun h => h9 h.2), if_neg h9]
        by_cases hdn : dn = n
        case neg =>
          have e1 : ((dn : Int) != (n : Int)) = true := by rw [bne_iff_ne]; omega
          have HD : Hid (readD lineS (l.map bytesS) = none) := by
            show _ = _
            rw [HDQ.out, if_neg]
            intro h9
            have := congrArg List.length h9
            rw [HDN.out, List.length_map, HN.out] at this
            exact hdn this
          clear hdn
          go_wp2_with fail
          refine bodyPost_ret (v := .tuple #[.agg #[.slice none 0 0, .slice none 0 0], .bool false]) (by simp [results, Tryz.results7, go_sem, cR, zR]) rfl ⟨_, by rw [HD.out]; rfl, by rw [HD.out]; exact ownObj_zero0 _ _, ?_⟩
          rw [hX]
          exact ((HF.out.setCell (p := ⟨X, 0, none⟩) (Nat.le_refl X) _).setCell (p := ⟨X, 1, none⟩) (Nat.le_refl X) _).below
        subst hdn
        have e1 : ((dn : Int) != (dn : Int)) = false := by simp
        go_wp2_with fail
        go_loopw [12] (fun i wr => ∃ (m q : Nat), m ≤ dn ∧ i = .int .i64 (m : Int) ∧ Hid (dl.take m = (l.map bytesS).take m) ∧ wr = w2.drewN q) (fun i _ => dn - (intOf i).toNat)
        case atStart => exact ⟨0, 0, Nat.zero_le _, rfl, by show _ = _; simp, rfl⟩
        case round =>
          obtain ⟨m, q, hm, rfl, HT, rfl⟩ := hrel
          have HRq := Lib.hid (HR.out.drewN q)
          have HFq := Lib.hid (HF.out.drewN q)
          have HBq := Lib.hid (HBX.out.drewN q)
          by_cases hlm : m < dn
          · have i2 : (m : Int) < (dn : Int) := by omega
            have i3 : (0 : Int) ≤ (m : Int) := by omega
            obtain ⟨d, hd⟩ : ∃ d, dl[m]? = some d := ⟨_, List.getElem?_eq_getElem (by rw [HDN.out]; exact hlm)⟩
            obtain ⟨x, hx⟩ : ∃ x, l[m]? = some x := ⟨_, List.getElem?_eq_getElem (by rw [HN.out]; exact hlm)⟩
            obtain ⟨rg, rcc, hv⟩ := row_someD HRR.out (by intro e; simp only [Value.slice.injEq] at e; omega)
            simp only [Value.slice.injEq] at hv
            obtain ⟨rfl, -, rfl⟩ := hv
            have c1 : w2.cell? ⟨rg, m, none⟩ = some (.string (txt d)) := by
              rw [World.ownsRow.cellAt HRR.out m (by omega)]
              unfold svs
              rw [List.getElem?_map, List.getElem?_map, hd]; rfl
            obtain ⟨a', cap', hv', -, -, -, hcell⟩ := HVV.out.form
            simp only [Value.slice.injEq] at hv'
            obtain ⟨rfl, -, rfl⟩ := hv'
            obtain ⟨lb, lo, rfl, hlc⟩ := hcell (by rw [HN.out]; omega)
            have c2 : w2.cell? ⟨lb, lo + m, none⟩ = some (.string x) := by
              have h9 := hlc m (by rw [HN.out]; exact hlm)
              have h8 : l[m]'(by rw [HN.out]; exact hlm) = x := by
                obtain ⟨h7, h6⟩ := List.getElem?_eq_some_iff.1 hx
                exact h6
              rw [h8] at h9
              exact h9
            have HT2 : Hid (d = bytesS x → dl.take (m + 1) = (l.map bytesS).take (m + 1)) := fun h => by
              obtain ⟨h1, h2⟩ := List.getElem?_eq_some_iff.1 hd
              obtain ⟨h3, h4⟩ := List.getElem?_eq_some_iff.1 hx
              rw [List.take_succ_eq_append_getElem h1, List.take_succ_eq_append_getElem (by rw [List.length_map]; exact h3), HT.out, h2, List.getElem_map, h4, h]
            have HNE : Hid (d ≠ bytesS x → dl ≠ l.map bytesS) := fun h e => by
              apply h
              have h1 := hd
              rw [e, List.getElem?_map, hx] at h1
              simpa using h1.symm
            have hiff : (txt d).toList = x.toList ↔ d = bytesS x := by rw [txtList_iff, toList_bytesS]
            have HIF := Lib.hid hiff
            clear hd hx hcell hlc hiff
            by_cases hq : d = bytesS x
            · have e2 := HIF.out.2 hq
              have HT3 := Lib.hid (HT2.out hq)
              clear hq
              go_wp2_with fail
              go_quiet (fail)
              go_wp2_with fail
              go_roundw
              case rel => exact ⟨m + 1, _, by omega, by go_num, HT3, rfl⟩
              case measure => simp [intOf]; try omega
            · have e2 : ¬ (txt d).toList = x.toList := fun h => hq (HIF.out.1 h)
              have e3 : ((txt d).toList == x.toList) = false := by simpa using e2
              have HD : Hid (readD lineS (l.map bytesS) = none) := by show _ = _; rw [HDQ.out, if_neg (HNE.out hq)]
              clear hq
              go_wp2_with fail
              go_quiet (fail)
              go_wp2_with fail
              refine bodyPost_ret (v := .tuple #[.agg #[.slice none 0 0, .slice none 0 0], .bool false]) (by simp [results, Tryz.results7, go_sem, cR, zR]) rfl ⟨_, by rw [HD.out]; rfl, by rw [HD.out]; exact ownObj_zero0 _ _, ?_⟩
              rw [hX]
              exact (((HF.out.drewN _).setCell (p := ⟨X, 0, none⟩) (Nat.le_refl X) _).setCell (p := ⟨X, 1, none⟩) (Nat.le_refl X) _).below
          · obtain rfl : dn = m := by omega
            have HD : Hid (readD lineS (l.map bytesS) = some o) := by
              show _ = _
              have h9 := HT.out
              rw [List.take_of_length_le (Nat.le_of_eq HDN.out), List.take_of_length_le (by rw [List.length_map, HN.out]; exact Nat.le_refl _)] at h9
              rw [HDQ.out, if_pos h9]
            have HOAq := Lib.hid (HOA2.out.call (((From.start w2).drewN q).below))
            clear cR zR fR
            have cR := HRq.out.cell
            have zR := HRq.out.lt
            have fR := HRq.out.frozen
            have cB := HBq.out.cell
            have zB := HBq.out.lt
            go_wp2_with fail
            refine bodyPost_ret (v := .tuple #[.agg #[.slice sa n1 sc, .slice ya n2 yc], .bool true]) (by simp [results, Tryz.results7, go_sem, cR, zR]) rfl ⟨_, by rw [HD.out]; rfl, by rw [HD.out]; exact ownObj_low (X := X) HOAq.out (by omega) (by omega), ?_⟩
            rw [hX]
            exact ((HFq.out.setCell (p := ⟨X, 0, none⟩) (Nat.le_refl X) _).setCell (p := ⟨X, 1, none⟩) (Nat.le_refl X) _).below
end Go.Proofs.YtecpdhjangojiaaGreatDoor
