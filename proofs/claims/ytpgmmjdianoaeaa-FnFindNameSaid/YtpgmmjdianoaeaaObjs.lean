/- Whether objects are valid. -/
import Derived.Test.YtpgmmjdianoaeaaObjVal
import Derived.Test.YtpgmmjdianoaeaaOpen
namespace Go.Proofs.Ytpgmmjdianoaeaa
open Go.ChangeShapes Go.WideShapes Go.ChangeAt Go.RowKit Go.Joins
set_option linter.unusedSimpArgs false
set_option linter.unusedVariables false
set_option maxRecDepth 100000
/-- Names of objects: no longer than a text can be. -/
def ObjsLen (l : List ObjD) : Prop := ∀ o ∈ l, (∀ s ∈ o.secs, s.name.size ≤ maxLen) ∧ ∀ s ∈ o.syms, s.name.size ≤ maxLen
/-- For a walk: a slice of objects, each spelled out. -/
theorem ObjsAt.each {w : World} {v : Value} {l : List ObjD} (h : ObjsAt w v l) :
    ∃ (a : Option Addr) (cap : Nat), v = .slice a l.length cap ∧ l.length ≤ cap ∧ cap ≤ maxLen ∧ (a = none → cap = 0) ∧
      (0 < l.length → ∃ b off, a = some ⟨b, off, none⟩ ∧ ∀ i (hi : i < l.length), ∃ sa sc ya yc, ObjAt w (.agg #[.slice sa l[i].secs.length sc, .slice ya l[i].syms.length yc]) l[i] ∧
        w.cell? ⟨b, off + i * 2, none⟩ = some (.slice sa l[i].secs.length sc) ∧ w.cell? ⟨b, off + i * 2 + 1, none⟩ = some (.slice ya l[i].syms.length yc)) := by
  obtain ⟨a, cap, rfl, h3, h4, h5, h6⟩ := h.form
  refine ⟨a, cap, rfl, h3, h4, h5, fun hn => ?_⟩
  obtain ⟨b, off, rfl, hc⟩ := h6 hn
  refine ⟨b, off, rfl, fun i hi => ?_⟩
  obtain ⟨vs, vy, hs, hy, c0, c1⟩ := hc i hi
  obtain ⟨sa, sc, rfl, -⟩ := hs.form
  obtain ⟨ya, yc, rfl, -⟩ := hy.form
  exact ⟨sa, sc, ya, yc, ⟨_, _, rfl, hs, hy⟩, c0, c1⟩
set_option maxHeartbeats 1000000 in
theorem indexFuncObj_any (g : FuncId) (lb : Array Value) (p : ObjD → Bool) (eg : ∀ args u, (callFunc g args).run Try.prog u = .ok (.enter g args) u) (w : World) (v : Value) (l : List ObjD) (h : ObjsAt w v l)
    (hp : ∀ x ∈ l, ∀ vo u, Below w.heap.size w u → ObjAt u vo x → Calls Try.prog g (#[vo] ++ lb) u fun e w' => e = .returned (.bool (p x)) ∧ Below u.heap.size u w') :
    Calls Try.prog 37 #[v, .func (.func g) #[] lb] w fun e w' => e = .returned (.int .i64 (findI p l)) ∧ Below w.heap.size w w' := by
  obtain ⟨a, cap, rfl, hcap, hmax, hnone, hcell⟩ := h.each
  have HC := Lib.hid hcell
  have HP := Lib.hid hp
  clear h hcell hnone hp
  unfold maxLen at hmax
  go_enter Try.func37, Try.ntmps37
  go_wp2_with fail
  go_loopw [8] (fun i wr => ∃ k : Nat, k ≤ l.length ∧ i = .int .i64 k ∧ Hid (∀ x ∈ l.take k, p x = false) ∧ Hid (From w.heap.size w wr)) (fun i _ => l.length - (intOf i).toNat)
  case atStart => exact ⟨0, Nat.zero_le _, rfl, (fun x hx => by simp at hx), From.start w⟩
  case round =>
    obtain ⟨k, hk, rfl, HB, HF⟩ := hrel
    by_cases hlt : k < l.length
    · obtain ⟨b, off, rfl, hc⟩ := HC.out (by omega)
      obtain ⟨sa, sc, ya, yc, ho, c0, c1⟩ := hc k hlt
      have hbl : b < w.heap.size := World.block_lt_of_cell? w _ c0
      have g0 := (HF.out.below.cell (p := ⟨b, off + k * 2, none⟩) hbl).trans c0
      have g1 := (HF.out.below.cell (p := ⟨b, off + k * 2 + 1, none⟩) hbl).trans c1
      have i1 : (k : Int) < (l.length : Int) := by omega
      have hcl := HP.out l[k] (List.getElem_mem hlt) _ wr HF.out.below (ho.below (Nat.le_refl _) HF.out.below)
      have HG := Lib.hid (take_bad hlt HB.out)
      have HH := Lib.hid (fun h => findI_hit hlt h HB.out : p l[k] = true → findI p l = k)
      clear hc c0 c1 ho
      generalize l[k] = x at *
      obtain ⟨n1, hn1⟩ : ∃ n1, x.secs.length = n1 := ⟨_, rfl⟩
      obtain ⟨n2, hn2⟩ : ∃ n2, x.syms.length = n2 := ⟨_, rfl⟩
      rw [hn1] at g0 hcl
      rw [hn2] at g1 hcl
      clear hn1 hn2
      cases hq : p x
      · rw [hq] at hcl
        have HQ := Lib.hid hq
        have HCL := Lib.hid hcl
        clear hq hcl
        go_wp2_with fail
        refine HCL.out.mono ?_
        rintro e w2 ⟨rfl, h2⟩
        have HF2 := Lib.hid (HF.out.call h2)
        clear h2 HF g0 g1
        go_wp2_with fail
        go_roundw
        case rel => exact ⟨k + 1, by omega, by go_num, HG.out HQ.out, HF2⟩
        case measure => simp [intOf]; try omega
      · rw [hq] at hcl
        have HQ := Lib.hid (HH.out hq)
        have HCL := Lib.hid hcl
        clear hq hcl
        go_wp2_with fail
        refine HCL.out.mono ?_
        rintro e w2 ⟨rfl, h2⟩
        have HF2 := Lib.hid (HF.out.call h2)
        clear h2 HF g0 g1
        go_wp2_with fail
        go_ret
        exact ⟨by rw [HQ.out]; try rfl, HF2.out.below⟩
    · obtain rfl : k = l.length := by omega
      have E : Hid (findI p l = -1) := findI_miss (by have := HB.out; rwa [List.take_length] at this)
      go_wp2_with fail
      go_ret
      exact ⟨by rw [E.out]; try rfl, HF.out.below⟩
set_option maxHeartbeats 1000000 in
theorem containsFuncObj_any (g : FuncId) (lb : Array Value) (p : ObjD → Bool) (eg : ∀ args u, (callFunc g args).run Try.prog u = .ok (.enter g args) u) (w : World) (v : Value) (l : List ObjD) (h : ObjsAt w v l)
    (hp : ∀ x ∈ l, ∀ vo u, Below w.heap.size w u → ObjAt u vo x → Calls Try.prog g (#[vo] ++ lb) u fun e w' => e = .returned (.bool (p x)) ∧ Below u.heap.size u w') :
    Calls Try.prog 25 #[v, .func (.func g) #[] lb] w fun e w' => e = .returned (.bool (l.any p)) ∧ Below w.heap.size w w' := by
  have HH := Lib.hid h
  have HP := Lib.hid hp
  have E := Lib.hid (findI_nonneg p l)
  obtain ⟨a, cap, rfl, -⟩ := h.each
  clear h hp
  go_enter Try.func25, Try.ntmps25
  go_wp2_with fail
  refine (indexFuncObj_any g lb p eg w _ l HH.out HP.out).mono ?_
  rintro e w1 ⟨rfl, h1⟩
  have HF := Lib.hid h1
  clear h1
  generalize findI p l = q at *
  obtain ⟨r, hr⟩ : ∃ r, l.any p = r := ⟨_, rfl⟩
  have HR := Lib.hid hr
  rw [hr] at E
  clear hr
  cases r
  · have hq : ¬ 0 ≤ q := by rw [E.out]; simp
    clear E
    go_wp2_with fail
    go_ret
    exact ⟨by rw [HR.out]; simp [hq], HF.out⟩
  · have hq : 0 ≤ q := E.out.2 rfl
    clear E
    go_wp2_with fail
    go_ret
    exact ⟨by rw [HR.out]; simp [hq], HF.out⟩
set_option maxHeartbeats 400000 in
theorem allValid1_any (w : World) (v : Value) (o : ObjD) (h : ObjAt w v o) (hs : (∀ s ∈ o.secs, s.name.size ≤ maxLen) ∧ ∀ s ∈ o.syms, s.name.size ≤ maxLen) :
    Calls Try.prog 26 #[v] w fun e w' => e = .returned (.bool (!objB o)) ∧ Below w.heap.size w w' := by
  have H := Lib.hid h
  have HS := Lib.hid hs
  obtain ⟨vs, vy, rfl, k1, k2⟩ := h
  obtain ⟨ra, rc, rfl, -⟩ := k1.form
  obtain ⟨rb, rd, rfl, -⟩ := k2.form
  clear k1 k2 hs
  go_enter Try.func26, Try.ntmps26
  go_wp2_with fail
  refine (i_ObjectValid _ _ o (H.out.below (Nat.le_refl _) ((From.start w).alloc _).below) HS.out).mono ?_
  rintro e w1 ⟨rfl, h1⟩
  have HF := Lib.hid (((From.start w).alloc _).call h1)
  clear h1
  go_wp2_with fail
  go_ret
  exact ⟨rfl, HF.out.below⟩
theorem any_not_obj (l : List ObjD) : (!l.any fun o => !objB o) = l.all objB := by
  rw [List.not_any_eq_all_not]
  simp
theorem i_allValid (w : World) (v : Value) (l : List ObjD) (h : ObjsAt w v l) (hs : ObjsLen l) :
    Calls Try.prog 15 #[v] w fun e w' => e = .returned (.bool (l.all objB)) ∧ Below w.heap.size w w' := by
  have H := Lib.hid h
  have HS := Lib.hid hs
  obtain ⟨a, cap, rfl, -⟩ := h.each
  clear h hs
  go_enter Try.func15, Try.ntmps15
  go_wp2_with fail
  refine (containsFuncObj_any 26 #[] (fun o => !objB o) (fun args u => enter_fn Try.func26 (by kernel_rfl) rfl args u) w _ l H.out (fun x hx vo u hu ho => allValid1_any u vo x ho (HS.out x hx))).mono ?_
  rintro e w1 ⟨rfl, h1⟩
  have HF := Lib.hid h1
  have E := Lib.hid (any_not_obj l)
  clear h1
  generalize (l.any fun o => !objB o) = q at *
  go_wp2_with fail
  go_ret
  exact ⟨by rw [← E.out]; try rfl, HF.out⟩
theorem i_ObjectsValid (w : World) (v : Value) (l : List ObjD) (h : ObjsAt w v l) (hs : ObjsLen l) :
    Calls Try.prog 6 #[v] w fun e w' => e = .returned (.bool (objsB l)) ∧ Below w.heap.size w w' := by
  have H := Lib.hid h
  have HS := Lib.hid hs
  obtain ⟨a, cap, rfl, -⟩ := h.each
  clear h hs
  by_cases hl : l.length ≤ 4
  · have h1 : (l.length : Int) ≤ 4 := by omega
    have E : Hid (objsB l = l.all objB) := by show _ = _; unfold objsB; simp [hl]
    clear hl
    go_enter Try.func6, Try.ntmps6
    go_wp2_with fail
    refine (i_allValid w _ l H.out HS.out).mono ?_
    rintro e w1 ⟨rfl, h1⟩
    have HF := Lib.hid h1
    clear h1
    generalize l.all objB = q at *
    go_wp2_with fail
    go_ret
    exact ⟨by rw [E.out]; try rfl, HF.out⟩
  · have h1 : ¬ (l.length : Int) ≤ 4 := by omega
    have E : Hid (objsB l = false) := by show _ = _; unfold objsB; simp [hl]
    clear hl
    go_enter Try.func6, Try.ntmps6
    go_wp2_with fail
    go_ret
    exact ⟨by rw [E.out]; try rfl, Below.refl _ _⟩
set_option maxHeartbeats 1000000 in
theorem s_ObjectsValid (w : World) (v : Value) (l : List ObjD) (h : ObjsAt w v l) (hs : ObjsLen l) :
    Calls Try.prog 7 #[v] w fun e w' => e = .returned (.bool (objsB l)) ∧ Below w.heap.size w w' := by
  obtain ⟨a, cap, rfl, hcap, hmax, hnone, hcell⟩ := h.each
  have HC := Lib.hid hcell
  have HS := Lib.hid hs
  clear h hcell hnone hs
  unfold maxLen at hmax
  go_enter Try.func7, Try.ntmps7
  go_wp2_with fail
  go_loopw [3] (fun i wr => ∃ k : Nat, k ≤ l.length ∧ i = .int .i64 k ∧ Hid (∀ x ∈ l.take k, objB x = true) ∧ Hid (From w.heap.size w wr)) (fun i _ => l.length - (intOf i).toNat)
  case atStart => exact ⟨0, Nat.zero_le _, rfl, (fun x hx => by simp at hx), From.start w⟩
  case round =>
    obtain ⟨k, hk, rfl, HB, HF⟩ := hrel
    by_cases hlt : k < l.length
    · obtain ⟨b, off, rfl, hc⟩ := HC.out (by omega)
      obtain ⟨sa, sc, ya, yc, ho, c0, c1⟩ := hc k hlt
      have hbl : b < w.heap.size := World.block_lt_of_cell? w _ c0
      have g0 := (HF.out.below.cell (p := ⟨b, off + k * 2, none⟩) hbl).trans c0
      have g1 := (HF.out.below.cell (p := ⟨b, off + k * 2 + 1, none⟩) hbl).trans c1
      have i1 : (k : Int) < (l.length : Int) := by omega
      have hcl := s_ObjectValid wr _ l[k] (ho.below (Nat.le_refl _) HF.out.below) (HS.out l[k] (List.getElem_mem hlt))
      have HG := Lib.hid (take_good (p := fun o => objB o = true) hlt HB.out)
      have HH : Hid (objB l[k] = false → objsB l = false) := fun h => by
        unfold objsB
        rw [Bool.and_eq_false_iff]
        right
        rw [List.all_eq_false]
        exact ⟨_, List.getElem_mem hlt, by simp [h]⟩
      clear hc c0 c1 ho
      generalize l[k] = x at *
      obtain ⟨n1, hn1⟩ : ∃ n1, x.secs.length = n1 := ⟨_, rfl⟩
      obtain ⟨n2, hn2⟩ : ∃ n2, x.syms.length = n2 := ⟨_, rfl⟩
      rw [hn1] at g0 hcl
      rw [hn2] at g1 hcl
      clear hn1 hn2
      cases hq : objB x
      · rw [hq] at hcl
        have HQ := Lib.hid (HH.out hq)
        have HCL := Lib.hid hcl
        clear hq hcl
        go_wp2_with fail
        refine HCL.out.mono ?_
        rintro e w2 ⟨rfl, h2⟩
        have HF2 := Lib.hid (HF.out.call h2)
        clear h2 HF g0 g1
        go_wp2_with fail
        go_ret
        exact ⟨by rw [HQ.out]; try rfl, HF2.out.below⟩
      · rw [hq] at hcl
        have HQ := Lib.hid (HG.out hq)
        have HCL := Lib.hid hcl
        clear hq hcl
        go_wp2_with fail
        refine HCL.out.mono ?_
        rintro e w2 ⟨rfl, h2⟩
        have HF2 := Lib.hid (HF.out.call h2)
        clear h2 HF g0 g1
        go_wp2_with fail
        go_roundw
        case rel => exact ⟨k + 1, by omega, by go_num, HQ, HF2⟩
        case measure => simp [intOf]; try omega
    · obtain rfl : k = l.length := by omega
      have HA : Hid (l.all objB = true) := by
        have := HB.out
        rw [List.take_length] at this
        show _ = _
        rw [List.all_eq_true]; exact this
      by_cases hl : l.length ≤ 4
      · have h1 : (l.length : Int) ≤ 4 := by omega
        have E : Hid (objsB l = true) := by show _ = _; unfold objsB; rw [HA.out]; simp [hl]
        clear hl
        go_wp2_with fail
        go_ret
        exact ⟨by rw [E.out]; try rfl, HF.out.below⟩
      · have h1 : ¬ (l.length : Int) ≤ 4 := by omega
        have E : Hid (objsB l = false) := by show _ = _; unfold objsB; simp [hl]
        clear hl
        go_wp2_with fail
        go_ret
        exact ⟨by rw [E.out]; try rfl, HF.out.below⟩
end Go.Proofs.Ytpgmmjdianoaeaa
