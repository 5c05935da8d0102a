/- Whether an object is valid. -/
import Derived.Test.YthccjimckjecjaaSym
import Derived.Test.YthccjimckjecjaaBase
import Derived.Test.YthccjimckjecjaaInv
import Derived.Test.YthccjimckjecjaaPlace
namespace Go.Proofs.Ythccjimckjecjaa
open Go.ChangeShapes Go.WideShapes Go.ChangeAt Go.RowKit Go.Joins
set_option linter.unusedSimpArgs false
set_option linter.unusedVariables false
set_option maxRecDepth 100000
/-- A symbol that is not local and has a name. -/
def globNm (nm : ByteArray) (x : SymD) : Bool := globB x && decide (x.name = nm)
theorem bytesS_inj {a b : ByteArray} (h : bytesS a = bytesS b) : a = b := by
  cases a; cases b; unfold bytesS at h; simpa [Array.ext_iff] using congrArg List.toArray h
theorem dupB_glob (pre : List SymD) (s : SymD) : dupB pre s = (globB s && pre.any (globNm s.name)) := rfl
theorem objB_not {o : ObjD} (h : ¬ ObjOk o) : objB o = false := by
  cases hb : objB o with
  | false => rfl
  | true => exact absurd ((objB_iff o).1 hb) h

set_option maxHeartbeats 1000000 in
theorem indexFuncSym_any (g : FuncId) (lb : Array Value) (p : SymD → Bool) (eg : ∀ args u, (callFunc g args).run Try.prog u = .ok (.enter g args) u) (w : World) (v : Value) (l : List SymD) (h : SymsAt w v l)
    (hp : ∀ x ∈ l, ∀ u, Below w.heap.size w u → Calls Try.prog g (#[symV x] ++ lb) u fun e w' => e = .returned (.bool (p x)) ∧ Below u.heap.size u w') :
    Calls Try.prog 142 #[v, .func (.func g) #[] lb] w fun e w' => e = .returned (.int .i64 (findI p l)) ∧ Below w.heap.size w w' := by
  obtain ⟨a, cap, rfl, hcap, hmax, hnone, hcell⟩ := h.form
  have HC := Lib.hid hcell
  have HP := Lib.hid hp
  clear h hcell hnone hp
  unfold maxLen at hmax
  go_enter Try.func142, Try.ntmps142
  go_wp2_with fail
  go_loopw [8] (fun i wr => ∃ k : Nat, k ≤ l.length ∧ i = .int .i64 k ∧ Hid (∀ x ∈ l.take k, p x = false) ∧ Hid (From w.heap.size w wr)) (fun i _ => l.length - (intOf i).toNat)
  case atStart => exact ⟨0, Nat.zero_le _, rfl, (fun x hx => by simp at hx), From.start w⟩
  case round =>
    obtain ⟨k, hk, rfl, HB, HF⟩ := hrel
    by_cases hlt : k < l.length
    · obtain ⟨b, off, rfl, hc⟩ := HC.out (by omega)
      obtain ⟨c0, c1, c2, c3⟩ := hc k hlt
      have hbl : b < w.heap.size := World.block_lt_of_cell? w _ c0
      have g0 := (HF.out.below.cell (p := ⟨b, off + k * 4, none⟩) hbl).trans c0
      have g1 := (HF.out.below.cell (p := ⟨b, off + k * 4 + 1, none⟩) hbl).trans c1
      have g2 := (HF.out.below.cell (p := ⟨b, off + k * 4 + 2, none⟩) hbl).trans c2
      have g3 := (HF.out.below.cell (p := ⟨b, off + k * 4 + 3, none⟩) hbl).trans c3
      have i1 : (k : Int) < (l.length : Int) := by omega
      have hcl := HP.out l[k] (List.getElem_mem hlt) wr HF.out.below
      have HG := Lib.hid (take_bad hlt HB.out)
      have HH := Lib.hid (fun h => findI_hit hlt h HB.out : p l[k] = true → findI p l = k)
      clear hc c0 c1 c2 c3
      generalize l[k] = x at *
      cases hq : p x
      · rw [hq] at hcl
        have HQ := Lib.hid hq
        have HCL := Lib.hid hcl
        clear hq hcl
        go_wp2_with fail
        refine HCL.out.mono ?_
        rintro e w2 ⟨rfl, h2⟩
        have HF2 := Lib.hid (HF.out.call h2)
        clear h2 HF g0 g1 g2 g3
        go_wp2_with fail
        go_roundw
        case rel => exact ⟨k + 1, by omega, by go_num, HG.out HQ.out, HF2⟩
        case measure => simp [intOf]; try omega
      · rw [hq] at hcl
        have HQ := Lib.hid (HH.out hq)
        have HCL := Lib.hid hcl
        clear hq hcl
        go_wp2_with fail
        refine HCL.out.mono ?_
        rintro e w2 ⟨rfl, h2⟩
        have HF2 := Lib.hid (HF.out.call h2)
        clear h2 HF g0 g1 g2 g3
        go_wp2_with fail
        go_ret
        exact ⟨by rw [HQ.out]; try rfl, HF2.out.below⟩
    · obtain rfl : k = l.length := by omega
      have E : Hid (findI p l = -1) := findI_miss (by have := HB.out; rwa [List.take_length] at this)
      go_wp2_with fail
      go_ret
      exact ⟨by rw [E.out]; try rfl, HF.out.below⟩
set_option maxHeartbeats 1000000 in
theorem globalOf1_any (w : World) (x : SymD) (c : Addr) (nm : ByteArray) (hc : w.cell? c = some (.string nm)) :
    Calls Try.prog 143 #[symV x, .pointer (some c)] w fun e w' => e = .returned (.bool (globNm nm x)) ∧ Below w.heap.size w w' := by
  by_cases hb : x.bind = 0
  · have e0 : (x.bind != 0) = false := by simpa using hb
    have E : Hid (globNm nm x = false) := by show _ = _; simp [globNm, globB, hb]
    clear hb
    go_enter Try.func143, Try.ntmps143
    go_wp2_with fail
    go_ret
    exact ⟨by rw [E.out]; try rfl, ((From.start w).alloc _).below⟩
  · have e0 : (x.bind != 0) = true := by simpa using hb
    have hcl : c.block < w.heap.size := World.block_lt_of_cell? w _ hc
    have hcx := (((From.start w).alloc (.cells #[.string x.name, .int .i64 x.bind, .int .i64 x.whr, .int .i64 x.val] 78)).below.cell (p := c) hcl).trans hc
    by_cases hn : bytesS x.name = bytesS nm
    · have e1 := str_eq hn
      have E : Hid (globNm nm x = true) := by show _ = _; simp [globNm, globB, hb, bytesS_inj hn]
      clear hb hn hc hcl
      go_enter Try.func143, Try.ntmps143
      go_wp2_with fail
      go_ret
      exact ⟨by rw [E.out]; try rfl, ((From.start w).alloc _).below⟩
    · have e1 := str_ne hn
      have E : Hid (globNm nm x = false) := by show _ = _; have : x.name ≠ nm := fun e => hn (by rw [e]); simp [globNm, globB, hb, this]
      clear hb hn hc hcl
      go_enter Try.func143, Try.ntmps143
      go_wp2_with fail
      go_ret
      exact ⟨by rw [E.out]; try rfl, ((From.start w).alloc _).below⟩
set_option maxHeartbeats 1000000 in
theorem globalOf_any (w : World) (v : Value) (l : List SymD) (h : SymsAt w v l) (nm : ByteArray) :
    Calls Try.prog 83 #[v, .string nm] w fun e w' => e = .returned (.int .i64 (findI (globNm nm) l)) ∧ Below w.heap.size w w' := by
  have HH := Lib.hid h
  obtain ⟨a, cap, rfl, -⟩ := h.form
  clear h
  go_enter Try.func83, Try.ntmps83
  go_wp2_with fail
  have B := Lib.hid (Blk.new w #[.string nm] 9)
  have F := Lib.hid ((From.start w).alloc (.cells #[.string nm] 9))
  refine (indexFuncSym_any 143 #[.pointer (some ⟨w.heap.size, 0, none⟩)] (globNm nm) (fun args u => enter_fn Try.func143 (by kernel_rfl) rfl args u) _ _ l (HH.out.below (Nat.le_refl _) F.out.below) (fun x _ u hu => globalOf1_any u x _ nm (((B.out.call hu).cell 0).trans rfl))).mono ?_
  rintro e w1 ⟨rfl, h1⟩
  have F1 := Lib.hid (F.out.call h1)
  clear h1
  go_wp2_with fail
  go_ret
  exact ⟨rfl, F1.out.below⟩
end Go.Proofs.Ythccjimckjecjaa
