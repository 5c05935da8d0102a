/- Whether an object is valid. -/
import Derived.Test.YtadbafjmmhfeaaaSym
import Derived.Test.YtadbafjmmhfeaaaKit
import Derived.Test.YtadbafjmmhfeaaaInvK
import Derived.Test.YtadbafjmmhfeaaaPlace
namespace Go.Proofs.Ytadbafjmmhfeaaa
open Go.ChangeShapes Go.WideShapes Go.ChangeAt Go.RowKit Go.Joins
set_option linter.unusedSimpArgs false
set_option linter.unusedVariables false
set_option maxRecDepth 100000
/-- The first place at which something holds, -1 if there is none. -/
def findI {α : Type} (p : α → Bool) (l : List α) : Int := match l.findIdx? p with | some i => (i : Int) | none => -1
theorem findI_hit {α : Type} {p : α → Bool} {l : List α} {k : Nat} (hk : k < l.length) (h : p l[k] = true) (hb : ∀ x ∈ l.take k, p x = false) : findI p l = k := by
  unfold findI
  have : l.findIdx? p = some k := by
    rw [List.findIdx?_eq_some_iff_getElem]
    refine ⟨hk, h, fun j hj => ?_⟩
    have := hb l[j] (by rw [List.mem_take_iff_getElem]; exact ⟨j, by omega, rfl⟩)
    simp [this]
  rw [this]
theorem findI_miss {α : Type} {p : α → Bool} {l : List α} (hb : ∀ x ∈ l, p x = false) : findI p l = -1 := by
  unfold findI
  have : l.findIdx? p = none := by rw [List.findIdx?_eq_none_iff]; exact hb
  rw [this]
theorem findI_nonneg {α : Type} (p : α → Bool) (l : List α) : (0 ≤ findI p l) ↔ l.any p = true := by
  unfold findI
  split
  · rename_i i h
    obtain ⟨h1, h2, _⟩ := List.findIdx?_eq_some_iff_getElem.1 h
    simp only [List.any_eq_true]
    exact ⟨fun _ => ⟨_, List.getElem_mem h1, h2⟩, fun _ => by omega⟩
  · rename_i h
    rw [List.findIdx?_eq_none_iff] at h
    simp only [List.any_eq_true]
    constructor
    · intro h; omega
    · rintro ⟨x, hx, hp⟩; rw [h x hx] at hp; cases hp
theorem findI_range {α : Type} (p : α → Bool) (l : List α) : -1 ≤ findI p l ∧ findI p l < l.length := by
  unfold findI
  split
  · rename_i i h
    obtain ⟨h1, _, _⟩ := List.findIdx?_eq_some_iff_getElem.1 h
    omega
  · omega
theorem take_bad {α : Type} {p : α → Bool} {l : List α} {k : Nat} (hk : k < l.length) (hb : ∀ x ∈ l.take k, p x = false) (h : p l[k] = false) : ∀ x ∈ l.take (k + 1), p x = false := by
  intro x hx
  rw [List.take_succ_eq_append_getElem hk] at hx
  rcases List.mem_append.1 hx with hx | hx
  · exact hb x hx
  · obtain rfl := List.mem_singleton.1 hx; exact h
theorem take_good {α : Type} {p : α → Prop} {l : List α} {k : Nat} (hk : k < l.length) (hb : ∀ x ∈ l.take k, p x) (h : p l[k]) : ∀ x ∈ l.take (k + 1), p x := by
  intro x hx
  rw [List.take_succ_eq_append_getElem hk] at hx
  rcases List.mem_append.1 hx with hx | hx
  · exact hb x hx
  · obtain rfl := List.mem_singleton.1 hx; exact h
/-- A symbol that is not local and has a name. -/
def globNm (nm : ByteArray) (x : SymD) : Bool := globB x && decide (x.name = nm)
theorem bytesS_inj {a b : ByteArray} (h : bytesS a = bytesS b) : a = b := by
  cases a; cases b; unfold bytesS at h; simpa [Array.ext_iff] using congrArg List.toArray h
theorem dupB_glob (pre : List SymD) (s : SymD) : dupB pre s = (globB s && pre.any (globNm s.name)) := rfl
theorem objB_not {o : ObjD} (h : ¬ ObjOk o) : objB o = false := by
  cases hb : objB o with
  | false => rfl
  | true => exact absurd ((objB_iff o).1 hb) h

set_option maxHeartbeats 1000000 in
theorem indexFuncSym_any (g : FuncId) (lb : Array Value) (p : SymD → Bool) (eg : ∀ args u, (callFunc g args).run Try.prog u = .ok (.enter g args) u) (w : World) (v : Value) (l : List SymD) (h : SymsAt w v l)
    (hp : ∀ x ∈ l, ∀ u, Below w.heap.size w u → Calls Try.prog g (#[symV x] ++ lb) u fun e w' => e = .returned (.bool (p x)) ∧ Below u.heap.size u w') :
    Calls Try.prog 89 #[v, .func (.func g) #[] lb] w fun e w' => e = .returned (.int .i64 (findI p l)) ∧ Below w.heap.size w w' := by
  obtain ⟨a, cap, rfl, hcap, hmax, hnone, hcell⟩ := h.form
  have HC := Lib.hid hcell
  have HP := Lib.hid hp
  clear h hcell hnone hp
  unfold maxLen at hmax
  go_enter Try.func89, Try.ntmps89
  go_wp2_with fail
  go_loopw [8] (fun i wr => ∃ k : Nat, k ≤ l.length ∧ i = .int .i64 k ∧ Hid (∀ x ∈ l.take k, p x = false) ∧ Hid (From w.heap.size w wr)) (fun i _ => l.length - (intOf i).toNat)
  case atStart => exact ⟨0, Nat.zero_le _, rfl, (fun x hx => by simp at hx), From.start w⟩
  case round =>
    obtain ⟨k, hk, rfl, HB, HF⟩ := hrel
    by_cases hlt : k < l.length
    · obtain ⟨b, off, rfl, hc⟩ := HC.out (by omega)
      obtain ⟨c0, c1, c2, c3⟩ := hc k hlt
      have hbl : b < w.heap.size := World.block_lt_of_cell? w _ c0
      have g0 := (HF.out.below.cell (p := ⟨b, off + k * 4, none⟩) hbl).trans c0
      have g1 := (HF.out.below.cell (p := ⟨b, off + k * 4 + 1, none⟩) hbl).trans c1
      have g2 := (HF.out.below.cell (p := ⟨b, off + k * 4 + 2, none⟩) hbl).trans c2
      have g3 := (HF.out.below.cell (p := ⟨b, off + k * 4 + 3, none⟩) hbl).trans c3
      have i1 : (k : Int) < (l.length : Int) := by omega
      have hcl := HP.out l[k] (List.getElem_mem hlt) wr HF.out.below
      have HG := Lib.hid (take_bad hlt HB.out)
      have HH := Lib.hid (fun h => findI_hit hlt h HB.out : p l[k] = true → findI p l = k)
      clear hc c0 c1 c2 c3
      generalize l[k] = x at *
      cases hq : p x
      · rw [hq] at hcl
        have HQ := Lib.hid hq
        have HCL := Lib.hid hcl
        clear hq hcl
        go_wp2_with fail
        refine HCL.out.mono ?_
        rintro e w2 ⟨rfl, h2⟩
        have HF2 := Lib.hid (HF.out.call h2)
        clear h2 HF g0 g1 g2 g3
        go_wp2_with fail
        go_roundw
        case rel => exact ⟨k + 1, by omega, by go_num, HG.out HQ.out, HF2⟩
        case measure => simp [intOf]; try omega
      · rw [hq] at hcl
        have HQ := Lib.hid (HH.out hq)
        have HCL := Lib.hid hcl
        clear hq hcl
        go_wp2_with fail
        refine HCL.out.mono ?_
        rintro e w2 ⟨rfl, h2⟩
        have HF2 := Lib.hid (HF.out.call h2)
        clear h2 HF g0 g1 g2 g3
        go_wp2_with fail
        go_ret
        exact ⟨by rw [HQ.out]; try rfl, HF2.out.below⟩
    · obtain rfl : k = l.length := by omega
      have E : Hid (findI p l = -1) := findI_miss (by have := HB.out; rwa [List.take_length] at this)
      go_wp2_with fail
      go_ret
      exact ⟨by rw [E.out]; try rfl, HF.out.below⟩
set_option maxHeartbeats 1000000 in
theorem globalOf1_any (w : World) (x : SymD) (c : Addr) (nm : ByteArray) (hc : w.cell? c = some (.string nm)) :
    Calls Try.prog 90 #[symV x, .pointer (some c)] w fun e w' => e = .returned (.bool (globNm nm x)) ∧ Below w.heap.size w w' := by
  by_cases hb : x.bind = 0
  · have e0 : (x.bind != 0) = false := by simpa using hb
    have E : Hid (globNm nm x = false) := by show _ = _; simp [globNm, globB, hb]
    clear hb
    go_enter Try.func90, Try.ntmps90
    go_wp2_with fail
    go_ret
    exact ⟨by rw [E.out]; try rfl, ((From.start w).alloc _).below⟩
  · have e0 : (x.bind != 0) = true := by simpa using hb
    have hcl : c.block < w.heap.size := World.block_lt_of_cell? w _ hc
    have hcx := (((From.start w).alloc (.cells #[.string x.name, .int .i64 x.bind, .int .i64 x.whr, .int .i64 x.val] 41)).below.cell (p := c) hcl).trans hc
    by_cases hn : bytesS x.name = bytesS nm
    · have e1 := str_eq hn
      have E : Hid (globNm nm x = true) := by show _ = _; simp [globNm, globB, hb, bytesS_inj hn]
      clear hb hn hc hcl
      go_enter Try.func90, Try.ntmps90
      go_wp2_with fail
      go_ret
      exact ⟨by rw [E.out]; try rfl, ((From.start w).alloc _).below⟩
    · have e1 := str_ne hn
      have E : Hid (globNm nm x = false) := by show _ = _; have : x.name ≠ nm := fun e => hn (by rw [e]); simp [globNm, globB, hb, this]
      clear hb hn hc hcl
      go_enter Try.func90, Try.ntmps90
      go_wp2_with fail
      go_ret
      exact ⟨by rw [E.out]; try rfl, ((From.start w).alloc _).below⟩
set_option maxHeartbeats 1000000 in
theorem globalOf_any (w : World) (v : Value) (l : List SymD) (h : SymsAt w v l) (nm : ByteArray) :
    Calls Try.prog 70 #[v, .string nm] w fun e w' => e = .returned (.int .i64 (findI (globNm nm) l)) ∧ Below w.heap.size w w' := by
  have HH := Lib.hid h
  obtain ⟨a, cap, rfl, -⟩ := h.form
  clear h
  go_enter Try.func70, Try.ntmps70
  go_wp2_with fail
  have B := Lib.hid (Blk.new w #[.string nm] 9)
  have F := Lib.hid ((From.start w).alloc (.cells #[.string nm] 9))
  refine (indexFuncSym_any 90 #[.pointer (some ⟨w.heap.size, 0, none⟩)] (globNm nm) (fun args u => enter_fn Try.func90 (by kernel_rfl) rfl args u) _ _ l (HH.out.below (Nat.le_refl _) F.out.below) (fun x _ u hu => globalOf1_any u x _ nm (((B.out.call hu).cell 0).trans rfl))).mono ?_
  rintro e w1 ⟨rfl, h1⟩
  have F1 := Lib.hid (F.out.call h1)
  clear h1
  go_wp2_with fail
  go_ret
  exact ⟨rfl, F1.out.below⟩
end Go.Proofs.Ytadbafjmmhfeaaa
