/- Whether marks are held: fixups, symbols, sections, objects. -/
import Derived.Test.YtecpdhjangojiaaGreatDoorMarkO
namespace Go.Proofs.YtecpdhjangojiaaGreatDoor
open Go.ChangeShapes Go.WideShapes Go.ChangeAt Go.RowKit Go.Joins
set_option linter.unusedSimpArgs false
set_option linter.unusedVariables false
set_option maxRecDepth 100000
theorem marksF_get : ∀ (n k j : Nat) (h : j < n), (marksF k n)[j]? = some (((k + 4 * j : Nat) : Int), ((k + 4 * j : Nat) : Int) + 1, ((k + 4 * j : Nat) : Int) + 1 + 1, ((k + 4 * j : Nat) : Int) + 1 + 1 + 1)
  | n + 1, k, 0, _ => by simp [marksF]
  | n + 1, k, j + 1, h => by
    rw [marksF, List.getElem?_cons_succ, marksF_get n (k + 4) j (by omega), show k + 4 + 4 * j = k + 4 * (j + 1) by omega]
theorem marksY_get : ∀ (n k j : Nat) (h : j < n), (marksY k n)[j]? = some ⟨markB (k + 4 * j), ((k + 4 * j : Nat) : Int) + 1, ((k + 4 * j : Nat) : Int) + 1 + 1, ((k + 4 * j : Nat) : Int) + 1 + 1 + 1⟩
  | n + 1, k, 0, _ => by simp [marksY]
  | n + 1, k, j + 1, h => by
    rw [marksY, List.getElem?_cons_succ, marksY_get n (k + 4) j (by omega), show k + 4 + 4 * j = k + 4 * (j + 1) by omega]
set_option maxHeartbeats 1000000 in
theorem heldFixupS_any (w : World) (v : Value) (k n : Nat) (h : FixAt w v (marksF k n)) (hk : k ≤ 536870912) (hn : n ≤ 134217728) :
    Calls Tryz.prog 68 #[v, .int .i64 k] w fun e w' => e = .returned (.int .i64 ((k : Int) + 4 * (n : Int))) ∧ w' = w := by
  obtain ⟨a, cap, hv, hcap, hmax, hnone, hcell⟩ := h.form
  rw [marksF_length] at hv hcap
  subst hv
  have HC : Hid (0 < n → ∃ b off, a = some ⟨b, off, none⟩ ∧ ∀ j, j < n → w.cell? ⟨b, off + j * 4, none⟩ = some (.int .i64 ((k : Int) + 4 * (j : Int))) ∧ w.cell? ⟨b, off + j * 4 + 1, none⟩ = some (.int .i64 ((k : Int) + 4 * (j : Int) + 1)) ∧
      w.cell? ⟨b, off + j * 4 + 2, none⟩ = some (.int .i64 ((k : Int) + 4 * (j : Int) + 1 + 1)) ∧ w.cell? ⟨b, off + j * 4 + 3, none⟩ = some (.int .i64 ((k : Int) + 4 * (j : Int) + 1 + 1 + 1))) := by
    intro hn0
    obtain ⟨b, off, ha, hc⟩ := hcell (by rw [marksF_length]; exact hn0)
    refine ⟨b, off, ha, fun j hj => ?_⟩
    have h1 := hc j (by rw [marksF_length]; exact hj)
    have h2 := marksF_get n k j hj
    rw [List.getElem?_eq_getElem (by rw [marksF_length]; exact hj), show ((k + 4 * j : Nat) : Int) = (k : Int) + 4 * (j : Int) by omega] at h2
    rw [Option.some.inj h2] at h1
    exact h1
  clear h hnone hcell
  unfold maxLen at hmax
  go_enter Tryz.func68, Tryz.ntmps68
  go_wp2_with fail
  go_loopw [1, 5] (fun q i wr => ∃ j : Nat, j ≤ n ∧ i = .int .i64 j ∧ q = .int .i64 ((k : Int) + 4 * (j : Int)) ∧ wr = w) (fun _ i _ => n - (intOf i).toNat)
  case atStart => exact ⟨0, Nat.zero_le _, rfl, by simp, by first | rfl | trivial⟩
  case round =>
    obtain ⟨j, hj, rfl, rfl, rfl⟩ := hrel
    by_cases hlt : j < n
    · obtain ⟨b, off, rfl, hc⟩ := HC.out (by omega)
      obtain ⟨g0, g1, g2, g3⟩ := hc j hlt
      have i1 : (j : Int) < (n : Int) := by omega
      have i2 : (0 : Int) ≤ (j : Int) := by omega
      clear hc
      go_wp2_with fail
      go_roundw
      case rel => exact ⟨j + 1, by omega, by go_num, by go_num, by first | rfl | trivial⟩
      case measure => simp [intOf]; try omega
    · obtain rfl : j = n := by omega
      go_wp2_with fail
      go_ret
      exact ⟨rfl, by first | rfl | trivial⟩
set_option maxHeartbeats 2000000 in
theorem heldSymbolS_any (w : World) (v : Value) (k n : Nat) (h : SymsAt w v (marksY k n)) (hk : k ≤ 536870912) (hn : n ≤ 67108864) :
    Calls Tryz.prog 43 #[v, .int .i64 k] w fun e w' => e = .returned (.int .i64 ((k : Int) + 4 * (n : Int))) ∧ Below w.heap.size w w' := by
  obtain ⟨a, cap, hv, hcap, hmax, hnone, hcell⟩ := h.form
  rw [marksY_length] at hv hcap
  subst hv
  have HC : Hid (0 < n → ∃ b off, a = some ⟨b, off, none⟩ ∧ ∀ j, j < n → w.cell? ⟨b, off + j * 4, none⟩ = some (.string (markB (k + 4 * j))) ∧ w.cell? ⟨b, off + j * 4 + 1, none⟩ = some (.int .i64 ((k : Int) + 4 * (j : Int) + 1)) ∧
      w.cell? ⟨b, off + j * 4 + 2, none⟩ = some (.int .i64 ((k : Int) + 4 * (j : Int) + 1 + 1)) ∧ w.cell? ⟨b, off + j * 4 + 3, none⟩ = some (.int .i64 ((k : Int) + 4 * (j : Int) + 1 + 1 + 1))) := by
    intro hn0
    obtain ⟨b, off, ha, hc⟩ := hcell (by rw [marksY_length]; exact hn0)
    refine ⟨b, off, ha, fun j hj => ?_⟩
    have h1 := hc j (by rw [marksY_length]; exact hj)
    have h2 := marksY_get n k j hj
    rw [List.getElem?_eq_getElem (by rw [marksY_length]; exact hj), show ((k + 4 * j : Nat) : Int) = (k : Int) + 4 * (j : Int) by omega] at h2
    rw [Option.some.inj h2] at h1
    exact h1
  clear h hnone hcell
  unfold maxLen at hmax
  go_enter Tryz.func43, Tryz.ntmps43
  go_wp2_with fail
  go_loopw [1, 5] (fun q i wr => ∃ j : Nat, j ≤ n ∧ i = .int .i64 j ∧ q = .int .i64 ((k : Int) + 4 * (j : Int)) ∧ Hid (From w.heap.size w wr)) (fun _ i _ => n - (intOf i).toNat)
  case atStart => exact ⟨0, Nat.zero_le _, rfl, by simp, From.start w⟩
  case round =>
    obtain ⟨j, hj, rfl, rfl, HF⟩ := hrel
    by_cases hlt : j < n
    · obtain ⟨b, off, rfl, hc⟩ := HC.out (by omega)
      obtain ⟨c0, c1, c2, c3⟩ := hc j hlt
      have hbl : b < w.heap.size := World.block_lt_of_cell? w _ c0
      have g0 := (HF.out.below.cell (p := ⟨b, off + j * 4, none⟩) hbl).trans c0
      have g1 := (HF.out.below.cell (p := ⟨b, off + j * 4 + 1, none⟩) hbl).trans c1
      have g2 := (HF.out.below.cell (p := ⟨b, off + j * 4 + 2, none⟩) hbl).trans c2
      have g3 := (HF.out.below.cell (p := ⟨b, off + j * 4 + 3, none⟩) hbl).trans c3
      have i1 : (j : Int) < (n : Int) := by omega
      have i2 : (0 : Int) ≤ (j : Int) := by omega
      have e1 := str_eq (rfl : bytesS (markB (k + 4 * j)) = bytesS (markB (k + 4 * j)))
      have r0 : ∀ p : Grew wr, p.w.cell? ⟨b, off + j * 4, none⟩ = some (.string (markB (k + 4 * j))) := fun p => p.cell g0
      have r1 : ∀ p : Grew wr, p.w.cell? ⟨b, off + j * 4 + 1, none⟩ = some (.int .i64 ((k : Int) + 4 * (j : Int) + 1)) := fun p => p.cell g1
      have r2 : ∀ p : Grew wr, p.w.cell? ⟨b, off + j * 4 + 2, none⟩ = some (.int .i64 ((k : Int) + 4 * (j : Int) + 1 + 1)) := fun p => p.cell g2
      have r3 : ∀ p : Grew wr, p.w.cell? ⟨b, off + j * 4 + 3, none⟩ = some (.int .i64 ((k : Int) + 4 * (j : Int) + 1 + 1 + 1)) := fun p => p.cell g3
      have K1 : Hid (∀ p : Grew wr, Calls Tryz.prog 39 #[.int .i64 ((k : Int) + 4 * (j : Int))] p.w fun e w' => e = .returned (.string (markB (k + 4 * j))) ∧ Below p.w.heap.size p.w w') := fun p => by
        have q1 := markText_any p.w (k + 4 * j) (by omega)
        rwa [show (((k + 4 * j : Nat)) : Int) = (k : Int) + 4 * (j : Int) by omega] at q1
      clear hc g0 g1 g2 g3 c0 c1 c2 c3
      generalize markB (k + 4 * j) = mb at *
      go_wp2_with fail
      refine wp_region_grew (by kernel_rfl) (by kernel_rfl) ?_
      repeat (go_big_quiet_step ((with_reducible exact grew_call (K1.out _))))
      refine wpQuiet_nil ?_
      rintro _ ⟨p, rfl⟩
      have HF2 := Lib.hid (HF.out.call p.h)
      have r1' := r1 p
      have r2' := r2 p
      have r3' := r3 p
      clear r0 r1 r2 r3 K1 HF
      go_wp2_with fail
      go_roundw
      case rel => exact ⟨j + 1, by omega, by go_num, by go_num, HF2⟩
      case measure => simp [intOf]; try omega
    · obtain rfl : j = n := by omega
      go_wp2_with fail
      go_ret
      exact ⟨rfl, HF.out.below⟩
/-- The sections of a list, marked: one behind some others. -/
theorem markSecsD_get : ∀ (l : List SecD) (k j : Nat) (h : j < l.length), (markSecsD k l)[j]? = some (markSecD (k + secSteps (l.take j)) l[j])
  | s :: r, k, 0, _ => by simp [markSecsD, secSteps]
  | s :: r, k, j + 1, h => by
    rw [markSecsD, List.getElem?_cons_succ, markSecsD_get r (k + secStep s) j (by simpa using h)]
    simp [secSteps, Nat.add_assoc]
theorem markSecsD_length : ∀ (l : List SecD) (k : Nat), (markSecsD k l).length = l.length
  | [], k => rfl
  | s :: r, k => by simp [markSecsD, markSecsD_length r]
theorem secSteps_take (l : List SecD) (j : Nat) (h : j < l.length) : secSteps (l.take (j + 1)) = secSteps (l.take j) + secStep l[j] := by
  induction l generalizing j with
  | nil => simp at h
  | cons s r ih =>
    cases j with
    | zero => simp [secSteps]
    | succ j => have := ih j (by simpa using h); simp only [List.take_succ_cons, secSteps, this, List.getElem_cons_succ]; omega
theorem secSteps_le (l : List SecD) : ∀ j, secSteps (l.take j) ≤ secSteps l := by
  induction l with
  | nil => intro j; simp [secSteps]
  | cons s r ih =>
    intro j
    cases j with
    | zero => simp [secSteps]
    | succ j => have := ih j; simp only [List.take_succ_cons, secSteps]; omega
set_option maxHeartbeats 4000000 in
theorem heldSectionS_any (w : World) (v : Value) (l : List SecD) (k : Nat) (h : SecsAt w v (markSecsD k l)) (hk : k + secSteps l ≤ 268435456) :
    Calls Tryz.prog 42 #[v, .int .i64 k] w fun e w' => e = .returned (.int .i64 ((k + secSteps l : Nat) : Int)) ∧ Below w.heap.size w w' := by
  obtain ⟨a, cap, hv, hcap, hmax, hnone, hcell⟩ := h.form
  rw [markSecsD_length] at hv hcap
  subst hv
  have HC : Hid (0 < l.length → ∃ b off, a = some ⟨b, off, none⟩ ∧ ∀ j (hj : j < l.length), ∃ vb vf, BytesAt w vb (marks (k + secSteps (l.take j) + 3) l[j].bytes.length) ∧ FixAt w vf (marksF (k + secSteps (l.take j) + 3 + l[j].bytes.length + 1) l[j].fix.length) ∧
      w.cell? ⟨b, off + j * 6, none⟩ = some (.string (markB (k + secSteps (l.take j)))) ∧ w.cell? ⟨b, off + j * 6 + 1, none⟩ = some (.int .i64 (((k + secSteps (l.take j) : Nat) : Int) + 1)) ∧
      w.cell? ⟨b, off + j * 6 + 2, none⟩ = some (.int .i64 (((k + secSteps (l.take j) : Nat) : Int) + 1 + 1)) ∧ w.cell? ⟨b, off + j * 6 + 3, none⟩ = some vb ∧
      w.cell? ⟨b, off + j * 6 + 4, none⟩ = some (.int .i64 ((k + secSteps (l.take j) + 3 + l[j].bytes.length : Nat) : Int)) ∧ w.cell? ⟨b, off + j * 6 + 5, none⟩ = some vf) := by
    intro hn0
    obtain ⟨b, off, ha, hc⟩ := hcell (by rw [markSecsD_length]; exact hn0)
    refine ⟨b, off, ha, fun j hj => ?_⟩
    have h1 := hc j (by rw [markSecsD_length]; exact hj)
    have h2 := markSecsD_get l k j hj
    rw [List.getElem?_eq_getElem (by rw [markSecsD_length]; exact hj)] at h2
    rw [Option.some.inj h2] at h1
    exact h1
  clear h hnone hcell
  unfold maxLen at hmax
  have hlen := steps_len l
  obtain ⟨K, hK⟩ : ∃ K, k + secSteps l = K := ⟨_, rfl⟩
  have HK := Lib.hid hK
  rw [hK] at hk ⊢
  have hNb : l.length ≤ 268435456 := by omega
  clear hK hlen
  go_enter Tryz.func42, Tryz.ntmps42
  go_wp2_with fail
  go_loopw [1, 5] (fun q i wr => ∃ (j M : Nat), j ≤ l.length ∧ i = .int .i64 j ∧ q = .int .i64 M ∧ Hid (M = k + secSteps (l.take j)) ∧ Hid (From w.heap.size w wr)) (fun _ i _ => l.length - (intOf i).toNat)
  case atStart => exact ⟨0, k, Nat.zero_le _, rfl, rfl, (by show _ = _; simp [secSteps]), From.start w⟩
  case round =>
    obtain ⟨j, M, hj, rfl, rfl, HM, HF⟩ := hrel
    by_cases hlt : j < l.length
    · obtain ⟨b, off, rfl, hc⟩ := HC.out (by omega)
      obtain ⟨vb, vf, hb, hf, c0, c1, c2, c3, c4, c5⟩ := hc j hlt
      rw [← HM.out] at hb hf c0 c1 c2 c4
      have hst := secSteps_take l j hlt
      have hle := secSteps_le l (j + 1)
      have hsx : secStep l[j] = 4 + l[j].bytes.length + 4 * l[j].fix.length := rfl
      have hM2 : M + secStep l[j] = k + secSteps (l.take (j + 1)) := by rw [hst, HM.out]; omega
      have hMb : M + 4 + l[j].bytes.length + 4 * l[j].fix.length ≤ 268435456 := by have := HK.out; omega
      have hM3 : M + 3 + l[j].bytes.length + 1 + 4 * l[j].fix.length = k + secSteps (l.take (j + 1)) := by omega
      have HM3 := Lib.hid hM3
      have hbl : b < w.heap.size := World.block_lt_of_cell? w _ c0
      have g0 := (HF.out.below.cell (p := ⟨b, off + j * 6, none⟩) hbl).trans c0
      have g1 := (HF.out.below.cell (p := ⟨b, off + j * 6 + 1, none⟩) hbl).trans c1
      have g2 := (HF.out.below.cell (p := ⟨b, off + j * 6 + 2, none⟩) hbl).trans c2
      have g3 := (HF.out.below.cell (p := ⟨b, off + j * 6 + 3, none⟩) hbl).trans c3
      have g4 := (HF.out.below.cell (p := ⟨b, off + j * 6 + 4, none⟩) hbl).trans c4
      have g5 := (HF.out.below.cell (p := ⟨b, off + j * 6 + 5, none⟩) hbl).trans c5
      clear hc c0 c1 c2 c3 c4 c5 hst hle hsx hM2 hM3
      have HBy := Lib.hid hb
      have HFi := Lib.hid hf
      clear hb hf
      generalize l[j].bytes.length = nb at *
      generalize l[j].fix.length = nf at *
      have i1 : (j : Int) < (l.length : Int) := by omega
      have i2 : (0 : Int) ≤ (j : Int) := by omega
      have e1 := str_eq (rfl : bytesS (markB M) = bytesS (markB M))
      have r0 : ∀ p : Grew wr, p.w.cell? ⟨b, off + j * 6, none⟩ = some (.string (markB M)) := fun p => p.cell g0
      have r1 : ∀ p : Grew wr, p.w.cell? ⟨b, off + j * 6 + 1, none⟩ = some (.int .i64 ((M : Int) + 1)) := fun p => p.cell g1
      have r2 : ∀ p : Grew wr, p.w.cell? ⟨b, off + j * 6 + 2, none⟩ = some (.int .i64 ((M : Int) + 1 + 1)) := fun p => p.cell g2
      have r3 : ∀ p : Grew wr, p.w.cell? ⟨b, off + j * 6 + 3, none⟩ = some vb := fun p => p.cell g3
      have r4 : ∀ p : Grew wr, p.w.cell? ⟨b, off + j * 6 + 4, none⟩ = some (.int .i64 ((M + 3 + nb : Nat) : Int)) := fun p => p.cell g4
      have r5 : ∀ p : Grew wr, p.w.cell? ⟨b, off + j * 6 + 5, none⟩ = some vf := fun p => p.cell g5
      have K1 : Hid (∀ p : Grew wr, Calls Tryz.prog 39 #[.int .i64 M] p.w fun e w' => e = .returned (.string (markB M)) ∧ Below p.w.heap.size p.w w') := fun p => markText_any p.w M (by omega)
      clear g0 g1 g2 g3 g4 g5
      generalize markB M = mb at *
      go_wp2_with fail
      refine wp_region_grew (by kernel_rfl) (by kernel_rfl) ?_
      repeat (go_big_quiet_step ((with_reducible exact grew_call (K1.out _))))
      refine wpQuiet_nil ?_
      rintro _ ⟨p, rfl⟩
      have HF2 := Lib.hid (HF.out.call p.h)
      have r1' := r1 p
      have r2' := r2 p
      have r3' := r3 p
      have r4' := r4 p
      have r5' := r5 p
      clear r0 r1 r2 r3 r4 r5 K1 HF
      generalize p.w = w2 at *
      obtain ⟨S, hS⟩ : ∃ S, M + 3 + nb = S := ⟨_, rfl⟩
      rw [hS] at r4' HFi
      have HS := Lib.hid hS
      have hSb : S + 1 + 4 * nf ≤ 268435456 := by omega
      go_wp2_with fail
      have q1 := heldByteS_any w2 vb (M + 3) nb (HBy.out.below (Nat.le_refl _) HF2.out.below) (by omega) (by omega)
      rw [show ((M + 3 : Nat) : Int) = (M : Int) + 1 + 1 + 1 by omega, show (M : Int) + 1 + 1 + 1 + (nb : Int) = (S : Int) by omega] at q1
      refine q1.mono ?_
      clear q1
      rintro e w3 ⟨rfl, rfl⟩
      have hS0 : (0 : Int) ≤ (S : Int) := by omega
      clear hS
      go_wp2_with fail
      have q2 := heldFixupS_any w2 vf (S + 1) nf (HFi.out.below (Nat.le_refl _) HF2.out.below) (by omega) (by omega)
      obtain ⟨Z, hZ⟩ : ∃ Z, S + 1 + 4 * nf = Z := ⟨_, rfl⟩
      rw [show ((S + 1 : Nat) : Int) = (S : Int) + 1 by omega, show (S : Int) + 1 + 4 * (nf : Int) = (Z : Int) by omega] at q2
      refine q2.mono ?_
      clear q2
      rintro e w3 ⟨rfl, rfl⟩
      have hZ0 : (0 : Int) ≤ (Z : Int) := by omega
      have HZ : Hid (Z = k + secSteps (l.take (j + 1))) := by show _ = _; have := HM3.out; have := HS.out; omega
      clear hZ
      go_wp2_with fail
      go_roundw
      case rel => exact ⟨j + 1, Z, by omega, by go_num, rfl, HZ, HF2⟩
      case measure => simp [intOf]; try omega
    · obtain rfl : j = l.length := by omega
      have E : Hid (M = K) := by show _ = _; rw [HM.out, List.take_length]; exact HK.out
      go_wp2_with fail
      go_ret
      exact ⟨by rw [E.out]; try rfl, HF.out.below⟩
set_option maxHeartbeats 2000000 in
theorem heldObject_any (w : World) (v : Value) (o : ObjD) (k : Nat) (h : ObjAt w v (markObjD k o)) (hk : k + objSteps o ≤ 268435456) :
    Calls Tryz.prog 18 #[v, .int .i64 k] w fun e w' => e = .returned (.int .i64 ((k + objSteps o : Nat) : Int)) ∧ Below w.heap.size w w' := by
  obtain ⟨vs, vy, rfl, h1, h2⟩ := h
  have HS : Hid (SecsAt w vs (markSecsD k o.secs)) := h1
  have HY : Hid (SymsAt w vy (marksY (k + secSteps o.secs) o.syms.length)) := h2
  obtain ⟨xa, xc, rfl, -⟩ := h1.form
  obtain ⟨ya, yc, rfl, -⟩ := h2.form
  clear h1 h2
  have e1 : objSteps o = secSteps o.secs + 4 * o.syms.length := rfl
  rw [e1] at hk ⊢
  clear e1
  obtain ⟨n1, hn1⟩ : ∃ n1, (markObjD k o).secs.length = n1 := ⟨_, rfl⟩
  obtain ⟨n2, hn2⟩ : ∃ n2, (markObjD k o).syms.length = n2 := ⟨_, rfl⟩
  rw [hn1] at HS ⊢
  rw [hn2] at HY ⊢
  clear hn1 hn2
  obtain ⟨t1, ht1⟩ : ∃ t1, secSteps o.secs = t1 := ⟨_, rfl⟩
  have HT1 := Lib.hid ht1
  obtain ⟨t2, ht2⟩ : ∃ t2, o.syms.length = t2 := ⟨_, rfl⟩
  rw [ht1, ht2] at hk HY ⊢
  clear ht1 ht2
  go_enter Tryz.func18, Tryz.ntmps18
  go_wp2_with fail
  have HF1 := Lib.hid ((From.start w).alloc (.cells #[.slice xa n1 xc, .slice ya n2 yc] 28))
  have hb1 := Blk.new w #[.slice xa n1 xc, .slice ya n2 yc] 28
  have HB1 := Lib.hid hb1
  clear hb1
  generalize hw1 : w.alloc (.cells #[.slice xa n1 xc, .slice ya n2 yc] 28) = w1 at HF1 HB1 ⊢
  clear hw1
  have q1 := heldSectionS_any w1 (.slice xa n1 xc) o.secs k (HS.out.below (Nat.le_refl _) HF1.out.below) (by rw [HT1.out]; omega)
  rw [HT1.out] at q1
  refine q1.mono ?_
  clear q1
  rintro e w2 ⟨rfl, g2⟩
  have HF2 := Lib.hid (HF1.out.call g2)
  have HB2 := Lib.hid (HB1.out.call g2)
  have c2 := HB2.out.cell
  obtain ⟨S, hS⟩ : ∃ S, k + t1 = S := ⟨_, rfl⟩
  rw [hS] at HY ⊢
  have hS0 : (0 : Int) ≤ (S : Int) := by omega
  clear g2 HF1 HB1
  go_wp2_with fail
  have q2 := heldSymbolS_any w2 (.slice ya n2 yc) S t2 (HY.out.below (Nat.le_refl _) HF2.out.below) (by omega) (by omega)
  obtain ⟨Z, hZ⟩ : ∃ Z, k + (t1 + 4 * t2) = Z := ⟨_, rfl⟩
  rw [show (S : Int) + 4 * (t2 : Int) = (Z : Int) by omega] at q2
  refine q2.mono ?_
  clear q2
  rintro e w3 ⟨rfl, g3⟩
  have HF3 := Lib.hid (HF2.out.call g3)
  have hZ0 : (0 : Int) ≤ (Z : Int) := by omega
  have HZ := Lib.hid hZ
  clear c2 g3 HF2 HB2 hZ hS
  go_wp2_with fail
  go_ret
  exact ⟨by rw [HZ.out]; try rfl, HF3.out.below⟩
end Go.Proofs.YtecpdhjangojiaaGreatDoor
