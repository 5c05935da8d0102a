/- Whether an object is valid. Whether an object is valid: the program's answer. Whether an object is valid: the reference's answer. -/
import Derived.Test.YtkefbhidfbnipaaSym
import Derived.Test.YtkefbhidfbnipaaBase
import Derived.Test.YtkefbhidfbnipaaInv
import Derived.Test.YtkefbhidfbnipaaBytes
namespace Go.Proofs.Ytkefbhidfbnipaa
/-! ObjVal -/
open Go.ChangeShapes Go.WideShapes Go.ChangeAt Go.RowKit Go.Joins
set_option linter.unusedSimpArgs false
set_option linter.unusedVariables false
set_option maxRecDepth 100000
/-- A symbol that is not local and has a name. -/
def globNm (nm : ByteArray) (x : SymD) : Bool := globB x && decide (x.name = nm)
theorem bytesS_inj {a b : ByteArray} (h : bytesS a = bytesS b) : a = b := by
  cases a; cases b; unfold bytesS at h; simpa [Array.ext_iff] using congrArg List.toArray h
theorem dupB_glob (pre : List SymD) (s : SymD) : dupB pre s = (globB s && pre.any (globNm s.name)) := rfl
theorem objB_not {o : ObjD} (h : ¬ ObjOk o) : objB o = false := by
  cases hb : objB o with
  | false => rfl
  | true => exact absurd ((objB_iff o).1 hb) h

set_option maxHeartbeats 1000000 in
theorem indexFuncSym_any (g : FuncId) (lb : Array Value) (p : SymD → Bool) (eg : ∀ args u, (callFunc g args).run Try.prog u = .ok (.enter g args) u) (w : World) (v : Value) (l : List SymD) (h : SymsAt w v l)
    (hp : ∀ x ∈ l, ∀ u, Below w.heap.size w u → Calls Try.prog g (#[symV x] ++ lb) u fun e w' => e = .returned (.bool (p x)) ∧ Below u.heap.size u w') :
    Calls Try.prog 83 #[v, .func (.func g) #[] lb] w fun e w' => e = .returned (.int .i64 (findI p l)) ∧ Below w.heap.size w w' := by
  obtain ⟨a, cap, rfl, hcap, hmax, hnone, hcell⟩ := h.form
  have HC := Lib.hid hcell
  have HP := Lib.hid hp
  clear h hcell hnone hp
  unfold maxLen at hmax
  go_enter Try.func83, Try.ntmps83
  go_wp2_with fail
  go_loopw [8] (fun i wr => ∃ k : Nat, k ≤ l.length ∧ i = .int .i64 k ∧ Hid (∀ x ∈ l.take k, p x = false) ∧ Hid (From w.heap.size w wr)) (fun i _ => l.length - (intOf i).toNat)
  case atStart => exact ⟨0, Nat.zero_le _, rfl, (fun x hx => by simp at hx), From.start w⟩
  case round =>
    obtain ⟨k, hk, rfl, HB, HF⟩ := hrel
    by_cases hlt : k < l.length
    · obtain ⟨b, off, rfl, hc⟩ := HC.out (by omega)
      obtain ⟨c0, c1, c2, c3⟩ := hc k hlt
      have hbl : b < w.heap.size := World.block_lt_of_cell? w _ c0
      have g0 := (HF.out.below.cell (p := ⟨b, off + k * 4, none⟩) hbl).trans c0
      have g1 := (HF.out.below.cell (p := ⟨b, off + k * 4 + 1, none⟩) hbl).trans c1
      have g2 := (HF.out.below.cell (p := ⟨b, off + k * 4 + 2, none⟩) hbl).trans c2
      have g3 := (HF.out.below.cell (p := ⟨b, off + k * 4 + 3, none⟩) hbl).trans c3
      have i1 : (k : Int) < (l.length : Int) := by omega
      have hcl := HP.out l[k] (List.getElem_mem hlt) wr HF.out.below
      have HG := Lib.hid (take_bad hlt HB.out)
      have HH := Lib.hid (fun h => findI_hit hlt h HB.out : p l[k] = true → findI p l = k)
      clear hc c0 c1 c2 c3
      generalize l[k] = x at *
      cases hq : p x
      · rw [hq] at hcl
        have HQ := Lib.hid hq
        have HCL := Lib.hid hcl
        clear hq hcl
        go_wp2_with fail
        refine HCL.out.mono ?_
        rintro e w2 ⟨rfl, h2⟩
        have HF2 := Lib.hid (HF.out.call h2)
        clear h2 HF g0 g1 g2 g3
        go_wp2_with fail
        go_roundw
        case rel => exact ⟨k + 1, by omega, by go_num, HG.out HQ.out, HF2⟩
        case measure => simp [intOf]; try omega
      · rw [hq] at hcl
        have HQ := Lib.hid (HH.out hq)
        have HCL := Lib.hid hcl
        clear hq hcl
        go_wp2_with fail
        refine HCL.out.mono ?_
        rintro e w2 ⟨rfl, h2⟩
        have HF2 := Lib.hid (HF.out.call h2)
        clear h2 HF g0 g1 g2 g3
        go_wp2_with fail
        go_ret
        exact ⟨by rw [HQ.out]; try rfl, HF2.out.below⟩
    · obtain rfl : k = l.length := by omega
      have E : Hid (findI p l = -1) := findI_miss (by have := HB.out; rwa [List.take_length] at this)
      go_wp2_with fail
      go_ret
      exact ⟨by rw [E.out]; try rfl, HF.out.below⟩
set_option maxHeartbeats 1000000 in
theorem globalOf1_any (w : World) (x : SymD) (c : Addr) (nm : ByteArray) (hc : w.cell? c = some (.string nm)) :
    Calls Try.prog 84 #[symV x, .pointer (some c)] w fun e w' => e = .returned (.bool (globNm nm x)) ∧ Below w.heap.size w w' := by
  by_cases hb : x.bind = 0
  · have e0 : (x.bind != 0) = false := by simpa using hb
    have E : Hid (globNm nm x = false) := by show _ = _; simp [globNm, globB, hb]
    clear hb
    go_enter Try.func84, Try.ntmps84
    go_wp2_with fail
    go_ret
    exact ⟨by rw [E.out]; try rfl, ((From.start w).alloc _).below⟩
  · have e0 : (x.bind != 0) = true := by simpa using hb
    have hcl : c.block < w.heap.size := World.block_lt_of_cell? w _ hc
    have hcx := (((From.start w).alloc (.cells #[.string x.name, .int .i64 x.bind, .int .i64 x.whr, .int .i64 x.val] 57)).below.cell (p := c) hcl).trans hc
    by_cases hn : bytesS x.name = bytesS nm
    · have e1 := str_eq hn
      have E : Hid (globNm nm x = true) := by show _ = _; simp [globNm, globB, hb, bytesS_inj hn]
      clear hb hn hc hcl
      go_enter Try.func84, Try.ntmps84
      go_wp2_with fail
      go_ret
      exact ⟨by rw [E.out]; try rfl, ((From.start w).alloc _).below⟩
    · have e1 := str_ne hn
      have E : Hid (globNm nm x = false) := by show _ = _; have : x.name ≠ nm := fun e => hn (by rw [e]); simp [globNm, globB, hb, this]
      clear hb hn hc hcl
      go_enter Try.func84, Try.ntmps84
      go_wp2_with fail
      go_ret
      exact ⟨by rw [E.out]; try rfl, ((From.start w).alloc _).below⟩
set_option maxHeartbeats 1000000 in
theorem globalOf_any (w : World) (v : Value) (l : List SymD) (h : SymsAt w v l) (nm : ByteArray) :
    Calls Try.prog 55 #[v, .string nm] w fun e w' => e = .returned (.int .i64 (findI (globNm nm) l)) ∧ Below w.heap.size w w' := by
  have HH := Lib.hid h
  obtain ⟨a, cap, rfl, -⟩ := h.form
  clear h
  go_enter Try.func55, Try.ntmps55
  go_wp2_with fail
  have B := Lib.hid (Blk.new w #[.string nm] 9)
  have F := Lib.hid ((From.start w).alloc (.cells #[.string nm] 9))
  refine (indexFuncSym_any 84 #[.pointer (some ⟨w.heap.size, 0, none⟩)] (globNm nm) (fun args u => enter_fn Try.func84 (by kernel_rfl) rfl args u) _ _ l (HH.out.below (Nat.le_refl _) F.out.below) (fun x _ u hu => globalOf1_any u x _ nm (((B.out.call hu).cell 0).trans rfl))).mono ?_
  rintro e w1 ⟨rfl, h1⟩
  have F1 := Lib.hid (F.out.call h1)
  clear h1
  go_wp2_with fail
  go_ret
  exact ⟨rfl, F1.out.below⟩
/-! ObjValI -/
open Go.ChangeShapes Go.WideShapes Go.ChangeAt Go.RowKit Go.Joins
set_option linter.unusedSimpArgs false
set_option linter.unusedVariables false
set_option maxRecDepth 100000
set_option maxHeartbeats 2000000 in
theorem i_ObjectValid (w : World) (v : Value) (o : ObjD) (h : ObjAt w v o) (hs : (∀ s ∈ o.secs, s.name.size ≤ maxLen) ∧ ∀ s ∈ o.syms, s.name.size ≤ maxLen) :
    Calls Try.prog 20 #[v] w fun e w' => e = .returned (.bool (objB o)) ∧ Below w.heap.size w w' := by
  obtain ⟨vs, vy, rfl, h1, h2⟩ := h
  have HS0 := Lib.hid h1
  have HY0 := Lib.hid h2
  obtain ⟨a1, cap1, rfl, hcap1, hmax1, hnone1, hc1⟩ := h1.form
  obtain ⟨a2, cap2, rfl, hcap2, hmax2, hnone2, hc2⟩ := h2.form
  have HC1 := Lib.hid hc1
  have HC2 := Lib.hid hc2
  have HN := Lib.hid hs
  clear h1 h2 hc1 hc2 hnone1 hnone2 hs
  unfold maxLen at hmax1 hmax2
  by_cases q1 : o.secs.length ≤ 8
  case neg =>
    have e1 : (8 : Int) < (o.secs.length : Int) := by omega
    have E : Hid (objB o = false) := objB_not fun h => q1 h.few
    clear q1
    go_enter Try.func20, Try.ntmps20
    go_wp2_with fail
    go_ret
    exact ⟨by rw [E.out]; try rfl, ((From.start w).alloc _).below⟩
  have e1 : ¬ (8 : Int) < (o.secs.length : Int) := by omega
  by_cases q2 : o.syms.length ≤ 12
  case neg =>
    have e2 : (12 : Int) < (o.syms.length : Int) := by omega
    have E : Hid (objB o = false) := objB_not fun h => q2 h.few2
    clear q2 q1
    go_enter Try.func20, Try.ntmps20
    go_wp2_with fail
    go_ret
    exact ⟨by rw [E.out]; try rfl, ((From.start w).alloc _).below⟩
  have e2 : ¬ (12 : Int) < (o.syms.length : Int) := by omega
  go_enter Try.func20, Try.ntmps20
  go_wp2_with fail
  have HB0 := Lib.hid (Blk.new w #[.slice a1 o.secs.length cap1, .slice a2 o.syms.length cap2] 26)
  go_loopw [20] (fun i wr => ∃ k : Nat, k ≤ o.secs.length ∧ i = .int .i64 k ∧ Hid (∀ s ∈ o.secs.take k, secB s o.syms.length = true) ∧ Hid (Blk wr w.heap.size #[.slice a1 o.secs.length cap1, .slice a2 o.syms.length cap2] 26) ∧ Hid (From w.heap.size w wr)) (fun i _ => o.secs.length - (intOf i).toNat)
  case atStart => exact ⟨0, Nat.zero_le _, rfl, (fun s hs => by simp at hs), HB0, (From.start w).alloc _⟩
  case round =>
    clear HB0
    obtain ⟨k, hk, rfl, HV, HB, HF⟩ := hrel
    have cb := HB.out.cell
    have zb := HB.out.lt
    by_cases hlt : k < o.secs.length
    · obtain ⟨b, off, rfl, hc⟩ := HC1.out (by omega)
      obtain ⟨vb, vf, hb, hf, c0, c1, c2, c3, c4, c5⟩ := hc k hlt
      obtain ⟨ba, bc, rfl, -⟩ := hb.form
      obtain ⟨fa, fc, rfl, -⟩ := hf.form
      have hbl : b < w.heap.size := World.block_lt_of_cell? w _ c0
      have g0 := (HF.out.below.cell (p := ⟨b, off + k * 6, none⟩) hbl).trans c0
      have g1 := (HF.out.below.cell (p := ⟨b, off + k * 6 + 1, none⟩) hbl).trans c1
      have g2 := (HF.out.below.cell (p := ⟨b, off + k * 6 + 2, none⟩) hbl).trans c2
      have g3 := (HF.out.below.cell (p := ⟨b, off + k * 6 + 3, none⟩) hbl).trans c3
      have g4 := (HF.out.below.cell (p := ⟨b, off + k * 6 + 4, none⟩) hbl).trans c4
      have g5 := (HF.out.below.cell (p := ⟨b, off + k * 6 + 5, none⟩) hbl).trans c5
      have i1 : (k : Int) < (o.secs.length : Int) := by omega
      have HX : Hid (SecAt w (secV o.secs[k] (.slice ba o.secs[k].bytes.length bc) (.slice fa o.secs[k].fix.length fc)) o.secs[k]) := ⟨_, _, rfl, hb, hf⟩
      have HNk := Lib.hid (HN.out.1 o.secs[k] (List.getElem_mem hlt))
      have HG := Lib.hid (take_good hlt HV.out)
      have HBad := Lib.hid (fun h => objB_not (fun ok => by have := ok.secs _ (List.getElem_mem hlt); rw [h] at this; cases this) : secB o.secs[k] o.syms.length = false → objB o = false)
      clear hc c0 c1 c2 c3 c4 c5 hb hf
      generalize o.secs[k] = x at *
      cases hq : secB x o.syms.length
      · have E := Lib.hid (HBad.out hq)
        clear HG HBad
        go_wp2_with fail
        refine (i_SectionValid _ (secV x (.slice ba x.bytes.length bc) (.slice fa x.fix.length fc)) x (HX.out.below (Nat.le_refl _) (HF.out.alloc _).below) HNk.out _).mono ?_
        rw [hq]
        rintro e w2 ⟨rfl, h2⟩
        have HF2 := Lib.hid ((HF.out.alloc _).call h2)
        clear h2 HF HB cb zb g0 g1 g2 g3 g4 g5
        go_wp2_with fail
        go_ret
        exact ⟨by rw [E.out]; try rfl, HF2.out.below⟩
      · have HG2 := Lib.hid (HG.out hq)
        clear HG HBad
        go_wp2_with fail
        refine (i_SectionValid _ (secV x (.slice ba x.bytes.length bc) (.slice fa x.fix.length fc)) x (HX.out.below (Nat.le_refl _) (HF.out.alloc _).below) HNk.out _).mono ?_
        rw [hq]
        rintro e w2 ⟨rfl, h2⟩
        have HF2 := Lib.hid ((HF.out.alloc _).call h2)
        have HB2 := Lib.hid ((HB.out.alloc _).call h2)
        clear h2 HF HB cb zb g0 g1 g2 g3 g4 g5 hq
        go_wp2_with fail
        go_roundw
        case rel => exact ⟨k + 1, by omega, by go_num, HG2, HB2, HF2⟩
        case measure => simp [intOf]; try omega
    · obtain rfl : k = o.secs.length := by omega
      have HV2 : Hid (∀ s ∈ o.secs, secB s o.syms.length = true) := by have := HV.out; rwa [List.take_length] at this
      clear HV
      go_wp2_with fail
      go_loopw [34] (fun i wr => ∃ k : Nat, k ≤ o.syms.length ∧ i = .int .i64 k ∧ Hid (∀ s ∈ o.syms.take k, symB s o.secs = true) ∧ Hid (∀ (j : Nat) (h : j < o.syms.length), j < k → dupB (o.syms.take j) o.syms[j] = false) ∧ Hid (Blk wr w.heap.size #[.slice a1 o.secs.length cap1, .slice a2 o.syms.length cap2] 26) ∧ Hid (From w.heap.size w wr)) (fun i _ => o.syms.length - (intOf i).toNat)
      case atStart => exact ⟨0, Nat.zero_le _, rfl, (fun s hs => by simp at hs), (fun j h hj => by omega), HB, HF⟩
      case round =>
        clear HB HF cb zb
        obtain ⟨k, hk, rfl, HV, HD, HB, HF⟩ := hrel
        have cb := HB.out.cell
        have zb := HB.out.lt
        by_cases hlt : k < o.syms.length
        · obtain ⟨b, off, rfl, hc⟩ := HC2.out (by omega)
          obtain ⟨c0, c1, c2, c3⟩ := hc k hlt
          have hbl : b < w.heap.size := World.block_lt_of_cell? w _ c0
          have g0 := (HF.out.below.cell (p := ⟨b, off + k * 4, none⟩) hbl).trans c0
          have g1 := (HF.out.below.cell (p := ⟨b, off + k * 4 + 1, none⟩) hbl).trans c1
          have g2 := (HF.out.below.cell (p := ⟨b, off + k * 4 + 2, none⟩) hbl).trans c2
          have g3 := (HF.out.below.cell (p := ⟨b, off + k * 4 + 3, none⟩) hbl).trans c3
          have i1 : (k : Int) < (o.syms.length : Int) := by omega
          have i2 : (k : Int) ≤ (o.syms.length : Int) := by omega
          have i3 : (k : Int) ≤ (cap2 : Int) := by omega
          have HNk := Lib.hid (HN.out.2 o.syms[k] (List.getElem_mem hlt))
          have HG := Lib.hid (take_good hlt HV.out)
          have HBad := Lib.hid (fun h => objB_not (fun ok => by have := ok.syms _ (List.getElem_mem hlt); rw [h] at this; cases this) : symB o.syms[k] o.secs = false → objB o = false)
          have HBad2 := Lib.hid (fun h => objB_not (fun ok => by have := ok.once _ hlt; rw [h] at this; cases this) : dupB (o.syms.take k) o.syms[k] = true → objB o = false)
          have HG3 : Hid (dupB (o.syms.take k) o.syms[k] = false → ∀ (j : Nat) (h : j < o.syms.length), j < k + 1 → dupB (o.syms.take j) o.syms[j] = false) := fun h j hj hjk => by
            by_cases hjk' : j < k
            · exact HD.out j hj hjk'
            · obtain rfl : j = k := by omega
              exact h
          have HPre : Hid (SymsAt w (.slice (some ⟨b, off, none⟩) k cap2) (o.syms.take k)) := by
            have h1 : (o.syms.take k).length = k := by rw [List.length_take]; omega
            have := (show Reads w 4 _ _ _ from HY0.out).take k (by omega) cap2 (by omega) (Nat.le_refl _) (fun h => by cases h)
            show SymsAt _ _ _
            unfold SymsAt
            rw [h1]
            have e : (o.syms.take k).flatMap symL = (o.syms.flatMap symL).take (k * 4) := by
              conv => rhs; rw [← List.take_append_drop k o.syms, List.flatMap_append]
              rw [List.take_left' (by rw [flat_length _ _ symL_length, h1])]
            rw [e]
            exact this
          clear hc c0 c1 c2 c3
          generalize o.syms[k] = x at *
          go_wp2_with fail
          have HB6 := Lib.hid (Blk.new wr #[.string x.name, .int .i64 x.bind, .int .i64 x.whr, .int .i64 x.val] 57)
          have HB1 := Lib.hid (HB.out.alloc (.cells #[.string x.name, .int .i64 x.bind, .int .i64 x.whr, .int .i64 x.val] 57))
          have HF1 := Lib.hid (HF.out.alloc (.cells #[.string x.name, .int .i64 x.bind, .int .i64 x.whr, .int .i64 x.val] 57))
          have ne : wr.heap.size ≠ w.heap.size := by omega
          generalize hw1 : wr.alloc (.cells #[.string x.name, .int .i64 x.bind, .int .i64 x.whr, .int .i64 x.val] 57) = w1 at HB6 HB1 HF1 ⊢
          clear hw1
          have p0 : ∀ p : Grew w1, p.w.cell? ⟨w.heap.size, 0, none⟩ = some (.slice a1 o.secs.length cap1) := fun p => p.cell (HB1.out.cell 0)
          have p1 : ∀ p : Grew w1, p.w.cell? ⟨w.heap.size, 1, none⟩ = some (.slice (some ⟨b, off, none⟩) o.syms.length cap2) := fun p => p.cell (HB1.out.cell 1)
          have r0 : ∀ p : Grew w1, p.w.cell? ⟨wr.heap.size, 0, none⟩ = some (.string x.name) := fun p => p.cell (HB6.out.cell 0)
          have r1 : ∀ p : Grew w1, p.w.cell? ⟨wr.heap.size, 1, none⟩ = some (.int .i64 x.bind) := fun p => p.cell (HB6.out.cell 1)
          have r2 : ∀ p : Grew w1, p.w.cell? ⟨wr.heap.size, 2, none⟩ = some (.int .i64 x.whr) := fun p => p.cell (HB6.out.cell 2)
          have r3 : ∀ p : Grew w1, p.w.cell? ⟨wr.heap.size, 3, none⟩ = some (.int .i64 x.val) := fun p => p.cell (HB6.out.cell 3)
          have k1 : ∀ p : Grew w1, Calls Try.prog 54 #[symV x, .slice a1 o.secs.length cap1] p.w fun e w' => e = .returned (.bool (symB x o.secs)) ∧ Below p.w.heap.size p.w w' := fun p =>
            i_SymbolValid p.w x _ _ (HS0.out.below (Nat.le_refl _) (HF1.out.call p.h).below) HNk.out
          have k2 : ∀ p : Grew w1, Calls Try.prog 55 #[.slice (some ⟨b, off, none⟩) k cap2, .string x.name] p.w fun e w' => e = .returned (.int .i64 (findI (globNm x.name) (o.syms.take k))) ∧ Below p.w.heap.size p.w w' := fun p =>
            globalOf_any p.w _ _ (HPre.out.below (Nat.le_refl _) (HF1.out.call p.h).below) x.name
          have K1 := Lib.hid k1
          have K2 := Lib.hid k2
          clear k1 k2 cb zb g0 g1 g2 g3 HB6 HB HF
          cases hq : symB x o.secs
          · have E := Lib.hid (HBad.out hq)
            rw [hq] at K1
            clear HG HBad HBad2 HG3 hq
            refine wp_region_grew (by kernel_rfl) (by kernel_rfl) ?_
            repeat (go_big_quiet_step ((with_reducible exact grew_call (K1.out _))))
            refine wpQuiet_nil ?_
            rintro _ ⟨p, rfl⟩
            have HFL := Lib.hid (HF1.out.call p.h)
            clear p0 p1 r0 r1 r2 r3
            go_wp2_with fail
            go_ret
            exact ⟨by rw [E.out]; try rfl, HFL.out.below⟩
          have HG2 := Lib.hid (HG.out hq)
          rw [hq] at K1
          clear HG HBad hq
          by_cases hb : x.bind = 0
          · have e0 : (x.bind != 0) = false := by simpa using hb
            have HD2 := Lib.hid (HG3.out (by simp [dupB, globB, hb]))
            clear hb HBad2 HG3
            refine wp_region_grew (by kernel_rfl) (by kernel_rfl) ?_
            repeat (go_big_quiet_step ((with_reducible exact grew_call (K1.out _))))
            refine wpQuiet_nil ?_
            rintro _ ⟨p, rfl⟩
            have HFL := Lib.hid (HF1.out.call p.h)
            have HBL := Lib.hid (HB1.out.call p.h)
            clear p0 p1 r0 r1 r2 r3
            go_wp2_with fail
            go_roundw
            case rel => exact ⟨k + 1, by omega, by go_num, HG2, HD2, HBL, HFL⟩
            case measure => simp [intOf]; try omega
          have e0 : (x.bind != 0) = true := by simpa using hb
          have hg : globB x = true := by simp [globB, hb]
          cases hd : (o.syms.take k).any (globNm x.name)
          · have HD2 := Lib.hid (HG3.out (by rw [dupB_glob, hg, hd]; rfl))
            have hf : ¬ 0 ≤ findI (globNm x.name) (o.syms.take k) := by rw [findI_nonneg, hd]; simp
            clear hb hg hd HBad2 HG3
            generalize findI (globNm x.name) (o.syms.take k) = q at *
            refine wp_region_grew (by kernel_rfl) (by kernel_rfl) ?_
            repeat (go_big_quiet_step (first | (with_reducible exact grew_call (K1.out _)) | (with_reducible exact grew_call (K2.out _))))
            refine wpQuiet_nil ?_
            rintro _ ⟨p, rfl⟩
            have HFL := Lib.hid (HF1.out.call p.h)
            have HBL := Lib.hid (HB1.out.call p.h)
            clear p0 p1 r0 r1 r2 r3
            go_wp2_with fail
            go_roundw
            case rel => exact ⟨k + 1, by omega, by go_num, HG2, HD2, HBL, HFL⟩
            case measure => simp [intOf]; try omega
          · have E := Lib.hid (HBad2.out (by rw [dupB_glob, hg, hd]; rfl))
            have hf : 0 ≤ findI (globNm x.name) (o.syms.take k) := by rw [findI_nonneg, hd]
            clear hb hg hd HBad2 HG3
            generalize findI (globNm x.name) (o.syms.take k) = q at *
            refine wp_region_grew (by kernel_rfl) (by kernel_rfl) ?_
            repeat (go_big_quiet_step (first | (with_reducible exact grew_call (K1.out _)) | (with_reducible exact grew_call (K2.out _))))
            refine wpQuiet_nil ?_
            rintro _ ⟨p, rfl⟩
            have HFL := Lib.hid (HF1.out.call p.h)
            clear p0 p1 r0 r1 r2 r3
            go_wp2_with fail
            go_ret
            exact ⟨by rw [E.out]; try rfl, HFL.out.below⟩
        · obtain rfl : k = o.syms.length := by omega
          have E : Hid (objB o = true) := (objB_iff o).2 ⟨q1, q2, HV2.out, by have := HV.out; rwa [List.take_length] at this, fun i h => HD.out i h h⟩
          clear q1 q2
          go_wp2_with fail
          go_ret
          exact ⟨by rw [E.out]; try rfl, HF.out.below⟩
/-! ObjValS -/
open Go.ChangeShapes Go.WideShapes Go.ChangeAt Go.RowKit Go.Joins
set_option linter.unusedSimpArgs false
set_option linter.unusedVariables false
set_option maxRecDepth 100000
theorem sym_cells {w : World} {b off : Nat} {l : List SymD} {wr : World} (hb : Below w.heap.size w wr) (hc : ∀ i (hi : i < l.length),
        w.cell? ⟨b, off + i * 4, none⟩ = some (.string l[i].name) ∧ w.cell? ⟨b, off + i * 4 + 1, none⟩ = some (.int .i64 l[i].bind) ∧ w.cell? ⟨b, off + i * 4 + 2, none⟩ = some (.int .i64 l[i].whr) ∧
        w.cell? ⟨b, off + i * 4 + 3, none⟩ = some (.int .i64 l[i].val)) (k : Nat) (hk : k < l.length) :
    wr.cell? ⟨b, off + k * 4, none⟩ = some (.string l[k].name) ∧ wr.cell? ⟨b, off + k * 4 + 1, none⟩ = some (.int .i64 l[k].bind) ∧ wr.cell? ⟨b, off + k * 4 + 2, none⟩ = some (.int .i64 l[k].whr) ∧ wr.cell? ⟨b, off + k * 4 + 3, none⟩ = some (.int .i64 l[k].val) := by
  obtain ⟨c0, c1, c2, c3⟩ := hc k hk
  have hbl : b < w.heap.size := World.block_lt_of_cell? w _ c0
  exact ⟨(hb.cell (p := ⟨b, off + k * 4, none⟩) hbl).trans c0, (hb.cell (p := ⟨b, off + k * 4 + 1, none⟩) hbl).trans c1, (hb.cell (p := ⟨b, off + k * 4 + 2, none⟩) hbl).trans c2, (hb.cell (p := ⟨b, off + k * 4 + 3, none⟩) hbl).trans c3⟩
set_option maxHeartbeats 2000000 in
theorem s_ObjectValid (w : World) (v : Value) (o : ObjD) (h : ObjAt w v o) (hs : (∀ s ∈ o.secs, s.name.size ≤ maxLen) ∧ ∀ s ∈ o.syms, s.name.size ≤ maxLen) :
    Calls Try.prog 9 #[v] w fun e w' => e = .returned (.bool (objB o)) ∧ Below w.heap.size w w' := by
  obtain ⟨vs, vy, rfl, h1, h2⟩ := h
  have HS0 := Lib.hid h1
  have HY0 := Lib.hid h2
  obtain ⟨a1, cap1, rfl, hcap1, hmax1, hnone1, hc1⟩ := h1.form
  obtain ⟨a2, cap2, rfl, hcap2, hmax2, hnone2, hc2⟩ := h2.form
  have HC1 := Lib.hid hc1
  have HC2 := Lib.hid hc2
  have HN := Lib.hid hs
  clear h1 h2 hc1 hc2 hnone1 hnone2 hs
  unfold maxLen at hmax1 hmax2
  go_enter Try.func9, Try.ntmps9
  go_wp2_with fail
  have HB0 := Lib.hid (Blk.new w #[.slice a1 o.secs.length cap1, .slice a2 o.syms.length cap2] 26)
  go_loopw [3] (fun i wr => ∃ k : Nat, k ≤ o.secs.length ∧ i = .int .i64 k ∧ Hid (∀ s ∈ o.secs.take k, secB s o.syms.length = true) ∧ Hid (Blk wr w.heap.size #[.slice a1 o.secs.length cap1, .slice a2 o.syms.length cap2] 26) ∧ Hid (From w.heap.size w wr)) (fun i _ => o.secs.length - (intOf i).toNat)
  case atStart => exact ⟨0, Nat.zero_le _, rfl, (fun s hs => by simp at hs), HB0, (From.start w).alloc _⟩
  case round =>
    clear HB0
    obtain ⟨k, hk, rfl, HV, HB, HF⟩ := hrel
    have cb := HB.out.cell
    have zb := HB.out.lt
    by_cases hlt : k < o.secs.length
    · obtain ⟨b, off, rfl, hc⟩ := HC1.out (by omega)
      obtain ⟨vb, vf, hb, hf, c0, c1, c2, c3, c4, c5⟩ := hc k hlt
      obtain ⟨ba, bc, rfl, -⟩ := hb.form
      obtain ⟨fa, fc, rfl, -⟩ := hf.form
      have hbl : b < w.heap.size := World.block_lt_of_cell? w _ c0
      have g0 := (HF.out.below.cell (p := ⟨b, off + k * 6, none⟩) hbl).trans c0
      have g1 := (HF.out.below.cell (p := ⟨b, off + k * 6 + 1, none⟩) hbl).trans c1
      have g2 := (HF.out.below.cell (p := ⟨b, off + k * 6 + 2, none⟩) hbl).trans c2
      have g3 := (HF.out.below.cell (p := ⟨b, off + k * 6 + 3, none⟩) hbl).trans c3
      have g4 := (HF.out.below.cell (p := ⟨b, off + k * 6 + 4, none⟩) hbl).trans c4
      have g5 := (HF.out.below.cell (p := ⟨b, off + k * 6 + 5, none⟩) hbl).trans c5
      have i1 : (k : Int) < (o.secs.length : Int) := by omega
      have i0 : (0 : Int) ≤ (k : Int) := by omega
      have HX : Hid (SecAt w (secV o.secs[k] (.slice ba o.secs[k].bytes.length bc) (.slice fa o.secs[k].fix.length fc)) o.secs[k]) := ⟨_, _, rfl, hb, hf⟩
      have HNk := Lib.hid (HN.out.1 o.secs[k] (List.getElem_mem hlt))
      have HG := Lib.hid (take_good hlt HV.out)
      have HBad := Lib.hid (fun h => objB_not (fun ok => by have := ok.secs _ (List.getElem_mem hlt); rw [h] at this; cases this) : secB o.secs[k] o.syms.length = false → objB o = false)
      clear hc c0 c1 c2 c3 c4 c5 hb hf
      generalize o.secs[k] = x at *
      go_wp2_with fail
      have p0 : ∀ p : Grew wr, p.w.cell? ⟨w.heap.size, 0, none⟩ = some (.slice (some ⟨b, off, none⟩) o.secs.length cap1) := fun p => p.cell (HB.out.cell 0)
      have p1 : ∀ p : Grew wr, p.w.cell? ⟨w.heap.size, 1, none⟩ = some (.slice a2 o.syms.length cap2) := fun p => p.cell (HB.out.cell 1)
      have r0 : ∀ p : Grew wr, p.w.cell? ⟨b, off + k * 6, none⟩ = some (.string x.name) := fun p => p.cell g0
      have r1 : ∀ p : Grew wr, p.w.cell? ⟨b, off + k * 6 + 1, none⟩ = some (.int .i64 x.kind) := fun p => p.cell g1
      have r2 : ∀ p : Grew wr, p.w.cell? ⟨b, off + k * 6 + 2, none⟩ = some (.int .i64 x.align) := fun p => p.cell g2
      have r3 : ∀ p : Grew wr, p.w.cell? ⟨b, off + k * 6 + 3, none⟩ = some (.slice ba x.bytes.length bc) := fun p => p.cell g3
      have r4 : ∀ p : Grew wr, p.w.cell? ⟨b, off + k * 6 + 4, none⟩ = some (.int .i64 x.size) := fun p => p.cell g4
      have r5 : ∀ p : Grew wr, p.w.cell? ⟨b, off + k * 6 + 5, none⟩ = some (.slice fa x.fix.length fc) := fun p => p.cell g5
      have k1 : ∀ p : Grew wr, Calls Try.prog 34 #[secV x (.slice ba x.bytes.length bc) (.slice fa x.fix.length fc), .int .i64 o.syms.length] p.w fun e w' => e = .returned (.bool (secB x o.syms.length)) ∧ Below p.w.heap.size p.w w' := fun p =>
        s_SectionValid p.w _ x (HX.out.below (Nat.le_refl _) (HF.out.call p.h).below) HNk.out _
      have K1 := Lib.hid k1
      clear k1 cb zb g0 g1 g2 g3 g4 g5
      cases hq : secB x o.syms.length
      · have E := Lib.hid (HBad.out hq)
        rw [hq] at K1
        clear HG HBad hq
        refine wp_region_grew (by kernel_rfl) (by kernel_rfl) ?_
        repeat (go_big_quiet_step ((with_reducible exact grew_call (K1.out _))))
        refine wpQuiet_nil ?_
        rintro _ ⟨p, rfl⟩
        have HFL := Lib.hid (HF.out.call p.h)
        clear p0 p1 r0 r1 r2 r3 r4 r5
        go_wp2_with fail
        go_ret
        exact ⟨by rw [E.out]; try rfl, HFL.out.below⟩
      · have HG2 := Lib.hid (HG.out hq)
        rw [hq] at K1
        clear HG HBad hq
        refine wp_region_grew (by kernel_rfl) (by kernel_rfl) ?_
        repeat (go_big_quiet_step ((with_reducible exact grew_call (K1.out _))))
        refine wpQuiet_nil ?_
        rintro _ ⟨p, rfl⟩
        have HFL := Lib.hid (HF.out.call p.h)
        have HBL := Lib.hid (HB.out.call p.h)
        clear p0 p1 r0 r1 r2 r3 r4 r5
        go_wp2_with fail
        go_roundw
        case rel => exact ⟨k + 1, by omega, by go_num, HG2, HBL, HFL⟩
        case measure => simp [intOf]; try omega
    · obtain rfl : k = o.secs.length := by omega
      have HV2 : Hid (∀ s ∈ o.secs, secB s o.syms.length = true) := by have := HV.out; rwa [List.take_length] at this
      clear HV
      go_wp2_with fail
      go_loopw [4] (fun i wr => ∃ k : Nat, k ≤ o.syms.length ∧ i = .int .i64 k ∧ Hid (∀ s ∈ o.syms.take k, symB s o.secs = true) ∧ Hid (∀ (j : Nat) (h : j < o.syms.length), j < k → dupB (o.syms.take j) o.syms[j] = false) ∧ Hid (Blk wr w.heap.size #[.slice a1 o.secs.length cap1, .slice a2 o.syms.length cap2] 26) ∧ Hid (From w.heap.size w wr)) (fun i _ => o.syms.length - (intOf i).toNat)
      case atStart => exact ⟨0, Nat.zero_le _, rfl, (fun s hs => by simp at hs), (fun j h hj => by omega), HB, HF⟩
      case round =>
        clear HB HF cb zb
        obtain ⟨k, hk, rfl, HV, HD, HB, HF⟩ := hrel
        have cb := HB.out.cell
        have zb := HB.out.lt
        by_cases hlt : k < o.syms.length
        · obtain ⟨b, off, rfl, hc⟩ := HC2.out (by omega)
          have HC := Lib.hid hc
          obtain ⟨g0, g1, g2, g3⟩ := sym_cells HF.out.below hc k hlt
          have i1 : (k : Int) < (o.syms.length : Int) := by omega
          have i0 : (0 : Int) ≤ (k : Int) := by omega
          have HNk := Lib.hid (HN.out.2 o.syms[k] (List.getElem_mem hlt))
          have HG := Lib.hid (take_good hlt HV.out)
          have HBad := Lib.hid (fun h => objB_not (fun ok => by have := ok.syms _ (List.getElem_mem hlt); rw [h] at this; cases this) : symB o.syms[k] o.secs = false → objB o = false)
          have HBad2 := Lib.hid (fun h => objB_not (fun ok => by have := ok.once _ hlt; rw [h] at this; cases this) : dupB (o.syms.take k) o.syms[k] = true → objB o = false)
          have HG3 : Hid (dupB (o.syms.take k) o.syms[k] = false → ∀ (j : Nat) (h : j < o.syms.length), j < k + 1 → dupB (o.syms.take j) o.syms[j] = false) := fun h j hj hjk => by
            by_cases hjk' : j < k
            · exact HD.out j hj hjk'
            · obtain rfl : j = k := by omega
              exact h
          have HE := Lib.hid (rfl : o.syms[k] = o.syms[k])
          clear hc
          generalize hx : o.syms[k] = x at g0 g1 g2 g3 HNk HG HBad HBad2 HG3
          have HX := Lib.hid hx
          clear hx HE
          go_wp2_with fail
          have p0 : ∀ p : Grew wr, p.w.cell? ⟨w.heap.size, 0, none⟩ = some (.slice a1 o.secs.length cap1) := fun p => p.cell (HB.out.cell 0)
          have p1 : ∀ p : Grew wr, p.w.cell? ⟨w.heap.size, 1, none⟩ = some (.slice (some ⟨b, off, none⟩) o.syms.length cap2) := fun p => p.cell (HB.out.cell 1)
          have r0 : ∀ p : Grew wr, p.w.cell? ⟨b, off + k * 4, none⟩ = some (.string x.name) := fun p => p.cell g0
          have r1 : ∀ p : Grew wr, p.w.cell? ⟨b, off + k * 4 + 1, none⟩ = some (.int .i64 x.bind) := fun p => p.cell g1
          have r2 : ∀ p : Grew wr, p.w.cell? ⟨b, off + k * 4 + 2, none⟩ = some (.int .i64 x.whr) := fun p => p.cell g2
          have r3 : ∀ p : Grew wr, p.w.cell? ⟨b, off + k * 4 + 3, none⟩ = some (.int .i64 x.val) := fun p => p.cell g3
          have k1 : ∀ p : Grew wr, Calls Try.prog 35 #[symV x, .slice a1 o.secs.length cap1] p.w fun e w' => e = .returned (.bool (symB x o.secs)) ∧ Below p.w.heap.size p.w w' := fun p =>
            s_SymbolValid p.w x _ _ (HS0.out.below (Nat.le_refl _) (HF.out.call p.h).below) HNk.out
          have K1 := Lib.hid k1
          clear k1 cb zb g0 g1 g2 g3
          cases hq : symB x o.secs
          · have E := Lib.hid (HBad.out hq)
            rw [hq] at K1
            clear HG HBad HBad2 HG3 hq
            refine wp_region_grew (by kernel_rfl) (by kernel_rfl) ?_
            repeat (go_big_quiet_step ((with_reducible exact grew_call (K1.out _))))
            refine wpQuiet_nil ?_
            rintro _ ⟨p, rfl⟩
            have HFL := Lib.hid (HF.out.call p.h)
            clear p0 p1 r0 r1 r2 r3
            go_wp2_with fail
            go_ret
            exact ⟨by rw [E.out]; try rfl, HFL.out.below⟩
          have HG2 := Lib.hid (HG.out hq)
          rw [hq] at K1
          clear HG HBad hq
          refine wp_region_grew (by kernel_rfl) (by kernel_rfl) ?_
          repeat (go_big_quiet_step ((with_reducible exact grew_call (K1.out _))))
          refine wpQuiet_nil ?_
          rintro _ ⟨p, rfl⟩
          have HFL := Lib.hid (HF.out.call p.h)
          have HBL := Lib.hid (HB.out.call p.h)
          clear p0 p1 r0 r1 r2 r3 HB HF K1
          generalize p.w = wq at *
          go_wp2_with fail
          go_loopw [5] (fun i wz => ∃ j : Nat, j ≤ k ∧ i = .int .i64 j ∧ Hid (∀ y ∈ o.syms.take j, (globB x && globNm x.name y) = false) ∧ Hid (From wq.heap.size wq wz)) (fun i _ => k - (intOf i).toNat)
          case atStart => exact ⟨0, Nat.zero_le _, rfl, (fun y hy => by simp at hy), From.start wq⟩
          case round =>
            obtain ⟨j, hj, rfl, HT, HW⟩ := hrel
            have HB2 := Lib.hid (HBL.out.call HW.out.below)
            have HF2 := Lib.hid (HFL.out.call HW.out.below)
            by_cases hjk : j < k
            · obtain ⟨g0, g1, g2, g3⟩ := sym_cells HF2.out.below HC.out k hlt
              rw [HX.out] at g0 g1 g2 g3
              have hj2 : j < o.syms.length := by omega
              obtain ⟨d0, d1, d2, d3⟩ := sym_cells HF2.out.below HC.out j hj2
              have HT2 := Lib.hid (take_bad hj2 HT.out)
              have HBad3 := Lib.hid (fun h => HBad2.out (by
                rw [dupB_glob]
                rw [Bool.and_eq_true] at h ⊢
                refine ⟨h.1, List.any_eq_true.2 ⟨o.syms[j], ?_, h.2⟩⟩
                rw [List.mem_take_iff_getElem]
                exact ⟨j, by omega, rfl⟩) : (globB x && globNm x.name o.syms[j]) = true → objB o = false)
              have cb := HB2.out.cell
              have i2 : (j : Int) < (o.syms.length : Int) := by omega
              have i3 : (0 : Int) ≤ (j : Int) := by omega
              have i4 : (j : Int) < (k : Int) := by omega
              clear HG3 HBad2
              generalize o.syms[j] = y at *
              by_cases n1 : bytesS y.name = bytesS x.name
              case neg =>
                have e1 := str_ne n1
                have HT3 := Lib.hid (HT2.out (by have : y.name ≠ x.name := fun e => n1 (by rw [e]); simp [globNm, this]))
                clear n1 HT2 HBad3
                go_wp2_with fail
                go_quiet (fail)
                have HW2 := Lib.hid (HW.out.drewN nq)
                clear g0 g1 g2 g3 d0 d1 d2 d3 cb
                go_wp2_with fail
                go_roundw
                case rel => exact ⟨j + 1, by omega, by go_num, HT3, HW2⟩
                case measure => simp [intOf]; try omega
              have e1 := str_eq n1
              by_cases n2 : y.bind = 0
              · have e2 : (y.bind != 0) = false := by simpa using n2
                have HT3 := Lib.hid (HT2.out (by simp [globNm, globB, n2]))
                clear n1 n2 HT2 HBad3
                go_wp2_with fail
                go_quiet (fail)
                have HW2 := Lib.hid (HW.out.drewN nq)
                clear g0 g1 g2 g3 d0 d1 d2 d3 cb
                go_wp2_with fail
                go_roundw
                case rel => exact ⟨j + 1, by omega, by go_num, HT3, HW2⟩
                case measure => simp [intOf]; try omega
              have e2 : (y.bind != 0) = true := by simpa using n2
              by_cases n3 : x.bind = 0
              · have e3 : (x.bind != 0) = false := by simpa using n3
                have HT3 := Lib.hid (HT2.out (by simp [globNm, globB, n3]))
                clear n1 n2 n3 HT2 HBad3
                go_wp2_with fail
                go_quiet (fail)
                have HW2 := Lib.hid (HW.out.drewN nq)
                clear g0 g1 g2 g3 d0 d1 d2 d3 cb
                go_wp2_with fail
                go_roundw
                case rel => exact ⟨j + 1, by omega, by go_num, HT3, HW2⟩
                case measure => simp [intOf]; try omega
              · have e3 : (x.bind != 0) = true := by simpa using n3
                have E := Lib.hid (HBad3.out (by simp [globNm, globB, n2, n3, bytesS_inj n1]))
                clear n1 n2 n3 HT2 HBad3
                go_wp2_with fail
                go_quiet (fail)
                have HW2 := Lib.hid (HF2.out.drewN nq)
                clear g0 g1 g2 g3 d0 d1 d2 d3 cb
                go_wp2_with fail
                go_ret
                exact ⟨by rw [E.out]; try rfl, HW2.out.below⟩
            · obtain rfl : j = k := by omega
              have HD2 := Lib.hid (HG3.out (by
                rw [dupB_glob]
                cases hg : globB x
                · rfl
                · rw [Bool.true_and, List.any_eq_false]
                  intro y hy
                  have := HT.out y hy
                  rw [hg, Bool.true_and] at this
                  simp [this]))
              clear HBad2 HG3 HBL HFL HW HT
              go_wp2_with fail
              go_roundw
              case rel => exact ⟨j + 1, by omega, by go_num, HG2, HD2, HB2, HF2⟩
              case measure => simp [intOf]; try omega
        · obtain rfl : k = o.syms.length := by omega
          have HOK : Hid ((objB o = true) ↔ (o.secs.length ≤ 8 ∧ o.syms.length ≤ 12)) := by
            show _ ↔ _
            rw [objB_iff]
            exact ⟨fun h => ⟨h.few, h.few2⟩, fun h => ⟨h.1, h.2, HV2.out, by have := HV.out; rwa [List.take_length] at this, fun i h => HD.out i h h⟩⟩
          by_cases q1 : o.secs.length ≤ 8
          · have e1 : (o.secs.length : Int) ≤ 8 := by omega
            by_cases q2 : o.syms.length ≤ 12
            · have e2 : (o.syms.length : Int) ≤ 12 := by omega
              have E := Lib.hid (HOK.out.2 ⟨q1, q2⟩)
              clear q1 q2
              go_wp2_with fail
              go_ret
              exact ⟨by rw [E.out]; try rfl, HF.out.below⟩
            · have e2 : ¬ (o.syms.length : Int) ≤ 12 := by omega
              have E : Hid (objB o = false) := objB_not fun ok => q2 ok.few2
              clear q1 q2
              go_wp2_with fail
              go_ret
              exact ⟨by rw [E.out]; try rfl, HF.out.below⟩
          · have e1 : ¬ (o.secs.length : Int) ≤ 8 := by omega
            have E : Hid (objB o = false) := objB_not fun ok => q1 ok.few
            clear q1
            go_wp2_with fail
            go_ret
            exact ⟨by rw [E.out]; try rfl, HF.out.below⟩
end Go.Proofs.Ytkefbhidfbnipaa
