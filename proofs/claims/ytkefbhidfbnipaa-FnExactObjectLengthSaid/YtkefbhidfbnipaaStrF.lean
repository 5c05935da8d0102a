/- Slices of texts and functions handed to the library: the first place, whether there is one; names; ends. -/
import Derived.Test.YtkefbhidfbnipaaObjVal
import Derived.Test.YtkefbhidfbnipaaStr
import Derived.Test.YtkefbhidfbnipaaTab
namespace Go.Proofs.Ytkefbhidfbnipaa
open Go.ChangeShapes Go.WideShapes Go.ChangeAt Go.RowKit Go.Joins
set_option linter.unusedSimpArgs false
set_option linter.unusedVariables false
set_option maxRecDepth 100000
set_option maxHeartbeats 1000000 in
theorem indexFuncStr_any (g : FuncId) (lb : Array Value) (p : ByteArray → Bool) (eg : ∀ args u, (callFunc g args).run Try.prog u = .ok (.enter g args) u) (w : World) (v : Value) (l : List ByteArray) (h : StrsAt w v l)
    (hp : ∀ x ∈ l, ∀ u, Below w.heap.size w u → Calls Try.prog g (#[.string x] ++ lb) u fun e w' => e = .returned (.bool (p x)) ∧ Below u.heap.size u w') :
    Calls Try.prog 101 #[v, .func (.func g) #[] lb] w fun e w' => e = .returned (.int .i64 (findI p l)) ∧ Below w.heap.size w w' := by
  obtain ⟨a, cap, rfl, hcap, hmax, hnone, hcell⟩ := h.form
  have HC := Lib.hid hcell
  have HP := Lib.hid hp
  clear h hcell hnone hp
  unfold maxLen at hmax
  go_enter Try.func101, Try.ntmps101
  go_wp2_with fail
  go_loopw [8] (fun i wr => ∃ k : Nat, k ≤ l.length ∧ i = .int .i64 k ∧ Hid (∀ x ∈ l.take k, p x = false) ∧ Hid (From w.heap.size w wr)) (fun i _ => l.length - (intOf i).toNat)
  case atStart => exact ⟨0, Nat.zero_le _, rfl, (fun x hx => by simp at hx), From.start w⟩
  case round =>
    obtain ⟨k, hk, rfl, HB, HF⟩ := hrel
    by_cases hlt : k < l.length
    · obtain ⟨b, off, rfl, hc⟩ := HC.out (by omega)
      have c0 := hc k hlt
      have hbl : b < w.heap.size := World.block_lt_of_cell? w _ c0
      have g0 := (HF.out.below.cell (p := ⟨b, off + k, none⟩) hbl).trans c0
      have i1 : (k : Int) < (l.length : Int) := by omega
      have hcl := HP.out l[k] (List.getElem_mem hlt) wr HF.out.below
      have HG := Lib.hid (take_bad hlt HB.out)
      have HH := Lib.hid (fun h => findI_hit hlt h HB.out : p l[k] = true → findI p l = k)
      clear hc c0
      generalize l[k] = x at *
      cases hq : p x
      · rw [hq] at hcl
        have HQ := Lib.hid hq
        have HCL := Lib.hid hcl
        clear hq hcl
        go_wp2_with fail
        refine HCL.out.mono ?_
        rintro e w2 ⟨rfl, h2⟩
        have HF2 := Lib.hid (HF.out.call h2)
        clear h2 HF g0
        go_wp2_with fail
        go_roundw
        case rel => exact ⟨k + 1, by omega, by go_num, HG.out HQ.out, HF2⟩
        case measure => simp [intOf]; try omega
      · rw [hq] at hcl
        have HQ := Lib.hid (HH.out hq)
        have HCL := Lib.hid hcl
        clear hq hcl
        go_wp2_with fail
        refine HCL.out.mono ?_
        rintro e w2 ⟨rfl, h2⟩
        have HF2 := Lib.hid (HF.out.call h2)
        clear h2 HF g0
        go_wp2_with fail
        go_ret
        exact ⟨by rw [HQ.out]; try rfl, HF2.out.below⟩
    · obtain rfl : k = l.length := by omega
      have E : Hid (findI p l = -1) := findI_miss (by have := HB.out; rwa [List.take_length] at this)
      go_wp2_with fail
      go_ret
      exact ⟨by rw [E.out]; try rfl, HF.out.below⟩
set_option maxHeartbeats 1000000 in
theorem containsFuncStr_any (g : FuncId) (lb : Array Value) (p : ByteArray → Bool) (eg : ∀ args u, (callFunc g args).run Try.prog u = .ok (.enter g args) u) (w : World) (v : Value) (l : List ByteArray) (h : StrsAt w v l)
    (hp : ∀ x ∈ l, ∀ u, Below w.heap.size w u → Calls Try.prog g (#[.string x] ++ lb) u fun e w' => e = .returned (.bool (p x)) ∧ Below u.heap.size u w') :
    Calls Try.prog 87 #[v, .func (.func g) #[] lb] w fun e w' => e = .returned (.bool (l.any p)) ∧ Below w.heap.size w w' := by
  have HH := Lib.hid h
  have HP := Lib.hid hp
  have E := Lib.hid (findI_nonneg p l)
  obtain ⟨a, cap, rfl, -⟩ := h.form
  clear h hp
  go_enter Try.func87, Try.ntmps87
  go_wp2_with fail
  refine (indexFuncStr_any g lb p eg w _ l HH.out HP.out).mono ?_
  rintro e w1 ⟨rfl, h1⟩
  have HF := Lib.hid h1
  clear h1
  generalize findI p l = q at *
  obtain ⟨r, hr⟩ : ∃ r, l.any p = r := ⟨_, rfl⟩
  have HR := Lib.hid hr
  rw [hr] at E
  clear hr
  cases r
  · have hq : ¬ 0 ≤ q := by rw [E.out]; simp
    clear E
    go_wp2_with fail
    go_ret
    exact ⟨by rw [HR.out]; simp [hq], HF.out⟩
  · have hq : 0 ≤ q := E.out.2 rfl
    clear E
    go_wp2_with fail
    go_ret
    exact ⟨by rw [HR.out]; simp [hq], HF.out⟩
set_option maxHeartbeats 400000 in
theorem hasSuffixL_any (s e : ByteArray) (hs : s.size ≤ 1073741824) (he : e.size ≤ 1073741824) (w : World) :
    Calls Try.prog 102 #[.string s, .string e] w fun x w' => x = .returned (.bool (endsB s e)) ∧ w = w' := by
  by_cases h : e.size ≤ s.size
  · have E := Lib.hid (endsB_short h)
    have h' : (e.size : Int) ≤ (s.size : Int) := by omega
    have hn : ((s.size : Int) - (e.size : Int)).toNat = s.size - e.size := by omega
    by_cases hq : bytesS (s.extract (s.size - e.size) s.size) = bytesS e
    · have q1 := str_eq hq
      have E2 : Hid (endsB s e = true) := by show _ = _; rw [E.out]; simpa using hq
      clear hq E
      go_enter Try.func102, Try.ntmps102
      go_wp2_with fail
      go_ret
      exact ⟨by rw [E2.out]; try rfl, rfl⟩
    · have q1 := str_ne hq
      have E2 : Hid (endsB s e = false) := by show _ = _; rw [E.out]; simpa using hq
      clear hq E
      go_enter Try.func102, Try.ntmps102
      go_wp2_with fail
      go_ret
      exact ⟨by rw [E2.out]; try rfl, rfl⟩
  · have E2 : Hid (endsB s e = false) := endsB_long (by omega)
    have h' : ¬ (e.size : Int) ≤ (s.size : Int) := by omega
    clear h
    go_enter Try.func102, Try.ntmps102
    go_wp2_with fail
    go_ret
    exact ⟨by rw [E2.out]; try rfl, rfl⟩
theorem hasSuffix_any (s e : ByteArray) (hs : s.size ≤ 1073741824) (he : e.size ≤ 1073741824) (w : World) :
    Calls Try.prog 89 #[.string s, .string e] w fun x w' => x = .returned (.bool (endsB s e)) ∧ w = w' := by
  go_enter Try.func89, Try.ntmps89
  go_wp2_with fail
  refine (hasSuffixL_any s e hs he w).mono ?_
  rintro x w' ⟨rfl, rfl⟩
  go_wp2_with fail
  go_ret
  exact ⟨rfl, rfl⟩
theorem areNames1_any (s : ByteArray) (hs : s.size ≤ maxLen) (w : World) :
    Calls Try.prog 97 #[.string s] w fun e w' => e = .returned (.bool (!nameB s)) ∧ Below w.heap.size w w' := by
  go_enter Try.func97, Try.ntmps97
  go_wp2_with (first | (go_at_call 80; (with_reducible refine (i_NameValid _ hs _).mono ?_); rintro e w' ⟨rfl, rfl⟩))
  go_ret
  exact ⟨rfl, Below.refl _ _⟩
theorem any_not_name (l : List ByteArray) : (!l.any fun s => !nameB s) = l.all nameB := by
  rw [List.not_any_eq_all_not]
  simp
set_option maxHeartbeats 400000 in
theorem i_areNames (w : World) (v : Value) (l : List ByteArray) (h : StrsAt w v l) (hs : ∀ s ∈ l, s.size ≤ maxLen) :
    Calls Try.prog 85 #[v] w fun e w' => e = .returned (.bool (namesB l)) ∧ Below w.heap.size w w' := by
  have HH := Lib.hid h
  have HS := Lib.hid hs
  obtain ⟨a, cap, rfl, -⟩ := h.form
  clear h hs
  by_cases hl : l.length ≤ 40
  · have h1 : (l.length : Int) ≤ 40 := by omega
    have E : Hid (namesB l = !l.any fun s => !nameB s) := by show _ = _; rw [any_not_name]; unfold namesB; simp [hl]
    clear hl
    go_enter Try.func85, Try.ntmps85
    go_wp2_with fail
    refine (containsFuncStr_any 97 #[] (fun s => !nameB s) (fun args u => enter_fn Try.func97 (by kernel_rfl) rfl args u) w _ l HH.out (fun x hx u hu => areNames1_any x (HS.out x hx) u)).mono ?_
    rintro e w1 ⟨rfl, h1⟩
    have HF := Lib.hid h1
    clear h1
    generalize (l.any fun s => !nameB s) = q at *
    go_wp2_with fail
    go_ret
    exact ⟨by rw [E.out]; try rfl, HF.out⟩
  · have h1 : ¬ (l.length : Int) ≤ 40 := by omega
    have E : Hid (namesB l = false) := by show _ = _; unfold namesB; simp [hl]
    clear hl
    go_enter Try.func85, Try.ntmps85
    go_wp2_with fail
    go_ret
    exact ⟨by rw [E.out]; try rfl, Below.refl _ _⟩
/-- Another text that ends with this one. -/
def endOther (nm x : ByteArray) : Bool := decide (bytesS x ≠ bytesS nm) && endsB x nm
set_option maxHeartbeats 400000 in
theorem nameTable1_any (w : World) (x nm : ByteArray) (hx : x.size ≤ 8) (hn : nm.size ≤ 8) (c : Addr) (hc : w.cell? c = some (.string nm)) :
    Calls Try.prog 88 #[.string x, .pointer (some c)] w fun e w' => e = .returned (.bool (endOther nm x)) ∧ Below w.heap.size w w' := by
  by_cases hq : bytesS x = bytesS nm
  · have q1 := str_eq hq
    have E : Hid (endOther nm x = false) := by show _ = _; simp [endOther, hq]
    clear hq
    go_enter Try.func88, Try.ntmps88
    go_wp2_with fail
    go_ret
    exact ⟨by rw [E.out]; try rfl, Below.refl _ _⟩
  · have q1 := str_ne hq
    have E : Hid (endOther nm x = endsB x nm) := by show _ = _; simp [endOther, hq]
    clear hq
    go_enter Try.func88, Try.ntmps88
    go_wp2_with fail
    refine (hasSuffix_any x nm (by omega) (by omega) w).mono ?_
    rintro e w1 ⟨rfl, rfl⟩
    go_wp2_with fail
    go_ret
    exact ⟨by rw [E.out]; try rfl, Below.refl _ _⟩
theorem any_endOther (l : List ByteArray) (nm : ByteArray) : l.any (endOther nm) = endB (l.map bytesS) (bytesS nm) := by
  unfold endB
  rw [List.any_map]
  rfl
end Go.Proofs.Ytkefbhidfbnipaa
