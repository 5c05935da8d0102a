/- Sections and objects that are compared by a statement: equal ones are. -/
import Derived.Test.YtkefbhidfbnipaaObjX
namespace Go.Proofs.Ytkefbhidfbnipaa
open Go.ChangeShapes Go.WideShapes Go.ChangeAt Go.RowKit Go.Joins
set_option linter.unusedSimpArgs false
set_option linter.unusedVariables false
set_option maxRecDepth 100000
set_option maxHeartbeats 4000000 in
theorem sameSection_same (w : World) (v1 v2 : Value) (s : SecD) (h1 : SecAt w v1 s) (h2 : SecAt w v2 s) :
    Calls Try.prog 42 #[v1, v2] w fun e w' => e = .returned (.bool true) ∧ Below w.heap.size w w' := by
  obtain ⟨b1, f1, rfl, hb1, hf1⟩ := h1
  obtain ⟨b2, f2, rfl, hb2, hf2⟩ := h2
  have HB1 := Lib.hid hb1
  have HB2 := Lib.hid hb2
  obtain ⟨p1, n1, rfl, -⟩ := hb1.form
  obtain ⟨p2, n2, rfl, -⟩ := hb2.form
  obtain ⟨a1, cap1, rfl, hcap1, hmax1, hnone1, hcell1⟩ := hf1.form
  obtain ⟨a2, cap2, rfl, hcap2, hmax2, hnone2, hcell2⟩ := hf2.form
  have H1 := Lib.hid hcell1
  have H2 := Lib.hid hcell2
  clear hb1 hb2 hf1 hf2 hcell1 hcell2 hnone1 hnone2
  unfold maxLen at hmax1 hmax2
  obtain ⟨nb, hnb⟩ : ∃ nb, s.bytes.length = nb := ⟨_, rfl⟩
  obtain ⟨nf, hnf⟩ : ∃ nf, s.fix.length = nf := ⟨_, rfl⟩
  have HNB := Lib.hid hnb
  have HNF := Lib.hid hnf
  unfold secV
  rw [hnb] at HB1 HB2 ⊢
  rw [hnf] at hcap1 hcap2 ⊢
  clear hnb hnf
  have he : (s.name.toList == s.name.toList) = true := str_eq rfl
  have X1 := Lib.hid ((From.start w).alloc (.cells #[.string s.name, .int .i64 s.kind, .int .i64 s.align, .slice p1 nb n1, .int .i64 s.size, .slice a1 nf cap1] 52))
  have HF0 := Lib.hid (((From.start w).alloc (.cells #[.string s.name, .int .i64 s.kind, .int .i64 s.align, .slice p1 nb n1, .int .i64 s.size, .slice a1 nf cap1] 52)).alloc (.cells #[.string s.name, .int .i64 s.kind, .int .i64 s.align, .slice p2 nb n2, .int .i64 s.size, .slice a2 nf cap2] 52))
  have HX := Lib.hid ((Blk.new w #[.string s.name, .int .i64 s.kind, .int .i64 s.align, .slice p1 nb n1, .int .i64 s.size, .slice a1 nf cap1] 52).alloc (.cells #[.string s.name, .int .i64 s.kind, .int .i64 s.align, .slice p2 nb n2, .int .i64 s.size, .slice a2 nf cap2] 52))
  have hy : Blk ((w.alloc (.cells #[.string s.name, .int .i64 s.kind, .int .i64 s.align, .slice p1 nb n1, .int .i64 s.size, .slice a1 nf cap1] 52)).alloc (.cells #[.string s.name, .int .i64 s.kind, .int .i64 s.align, .slice p2 nb n2, .int .i64 s.size, .slice a2 nf cap2] 52)) (w.heap.size + 1) #[.string s.name, .int .i64 s.kind, .int .i64 s.align, .slice p2 nb n2, .int .i64 s.size, .slice a2 nf cap2] 52 := Blk.newAt _ _ _ _ (by simp)
  have HY := Lib.hid hy
  clear hy
  go_enter Try.func42, Try.ntmps42
  go_wp2_with fail
  refine (l_sameBytes _ _ _ s.bytes s.bytes (HB1.out.below (Nat.le_refl _) HF0.out.below) (HB2.out.below (Nat.le_refl _) HF0.out.below)).mono ?_
  rw [eqB_self]
  rintro e w1 ⟨rfl, k1⟩
  have HF1 := Lib.hid (HF0.out.call k1)
  have HX1 := Lib.hid (HX.out.call k1)
  have HY1 := Lib.hid (HY.out.call k1)
  clear k1 HF0 HX HY
  have cX := HX1.out.cell
  have zX := HX1.out.lt
  have cY := HY1.out.cell
  have zY := HY1.out.lt
  have en : ((nf : Int) != (nf : Int)) = false := by simp
  go_wp2_with fail
  go_loopw [5] (fun i wr => ∃ k : Nat, k ≤ nf ∧ i = .int .i64 k ∧ Hid (From w1.heap.size w1 wr)) (fun i _ => nf - (intOf i).toNat)
  case atStart => exact ⟨0, Nat.zero_le _, rfl, From.start w1⟩
  case round =>
    obtain ⟨k, hk, rfl, HG⟩ := hrel
    clear cX zX cY zY
    have HF := Lib.hid (HF1.out.call HG.out.below)
    have cX := (HX1.out.call HG.out.below).cell
    have zX := (HX1.out.call HG.out.below).lt
    have cY := (HY1.out.call HG.out.below).cell
    have zY := (HY1.out.call HG.out.below).lt
    by_cases hlt : k < nf
    · obtain ⟨b1, off1, rfl, hc1⟩ := H1.out (by have := HNF.out; omega)
      obtain ⟨b2, off2, rfl, hc2⟩ := H2.out (by have := HNF.out; omega)
      obtain ⟨c0, c1, c2, c3⟩ := hc1 k (by rw [HNF.out]; exact hlt)
      obtain ⟨e0, e1, e2, e3⟩ := hc2 k (by rw [HNF.out]; exact hlt)
      have l1 : b1 < w.heap.size := World.block_lt_of_cell? w _ c0
      have l2 : b2 < w.heap.size := World.block_lt_of_cell? w _ e0
      have g0 := (HF.out.below.cell (p := ⟨b1, off1 + k * 4, none⟩) l1).trans c0
      have g1 := (HF.out.below.cell (p := ⟨b1, off1 + k * 4 + 1, none⟩) l1).trans c1
      have g2 := (HF.out.below.cell (p := ⟨b1, off1 + k * 4 + 2, none⟩) l1).trans c2
      have g3 := (HF.out.below.cell (p := ⟨b1, off1 + k * 4 + 3, none⟩) l1).trans c3
      have d0 := (HF.out.below.cell (p := ⟨b2, off2 + k * 4, none⟩) l2).trans e0
      have d1 := (HF.out.below.cell (p := ⟨b2, off2 + k * 4 + 1, none⟩) l2).trans e1
      have d2 := (HF.out.below.cell (p := ⟨b2, off2 + k * 4 + 2, none⟩) l2).trans e2
      have d3 := (HF.out.below.cell (p := ⟨b2, off2 + k * 4 + 3, none⟩) l2).trans e3
      have i1 : (k : Int) < (nf : Int) := by omega
      have i3 : (0 : Int) ≤ (k : Int) := by omega
      clear hc1 hc2 c0 c1 c2 c3 e0 e1 e2 e3
      generalize s.fix[k]'(by rw [HNF.out]; exact hlt) = y at *
      go_wp2_with fail
      go_quiet (fail)
      have HG2 := Lib.hid (HG.out.drewN nq)
      clear g0 g1 g2 g3 d0 d1 d2 d3 cX cY
      go_wp2_with fail
      go_roundw
      case rel => exact ⟨k + 1, by omega, by go_num, HG2⟩
      case measure => simp [intOf]; try omega
    · obtain rfl : nf = k := by omega
      go_wp2_with fail
      go_ret
      exact ⟨rfl, HF.out.below⟩
set_option maxHeartbeats 4000000 in
theorem sameObject_same (w : World) (v1 v2 : Value) (o : ObjD) (h1 : ObjAt w v1 o) (h2 : ObjAt w v2 o) :
    Calls Try.prog 12 #[v1, v2] w fun e w' => e = .returned (.bool true) ∧ Below w.heap.size w w' := by
  obtain ⟨s1, y1, rfl, hs1, hy1⟩ := h1
  obtain ⟨s2, y2, rfl, hs2, hy2⟩ := h2
  obtain ⟨a1, cap1, rfl, hcap1, hmax1, hnone1, hcell1⟩ := hs1.form
  obtain ⟨a2, cap2, rfl, hcap2, hmax2, hnone2, hcell2⟩ := hs2.form
  obtain ⟨q1, cuq1, rfl, hcaq1, hmaq1, hnonq1, hcelq1⟩ := hy1.form
  obtain ⟨q2, cuq2, rfl, hcaq2, hmaq2, hnonq2, hcelq2⟩ := hy2.form
  have H1 := Lib.hid hcell1
  have H2 := Lib.hid hcell2
  have K1 := Lib.hid hcelq1
  have K2 := Lib.hid hcelq2
  clear hs1 hs2 hy1 hy2 hcell1 hcell2 hnone1 hnone2 hcelq1 hcelq2 hnonq1 hnonq2
  unfold maxLen at hmax1 hmax2 hmaq1 hmaq2
  obtain ⟨n1, hn1⟩ : ∃ n1, o.secs.length = n1 := ⟨_, rfl⟩
  obtain ⟨n2, hn2⟩ : ∃ n2, o.syms.length = n2 := ⟨_, rfl⟩
  have HN1 := Lib.hid hn1
  have HN2 := Lib.hid hn2
  rw [hn1] at hcap1 hcap2 ⊢
  rw [hn2] at hcaq1 hcaq2 ⊢
  clear hn1 hn2
  have en1 : ((n1 : Int) != (n1 : Int)) = false := by simp
  have en2 : ((n2 : Int) != (n2 : Int)) = false := by simp
  have HF0 := Lib.hid (((From.start w).alloc (.cells #[.slice a1 n1 cap1, .slice q1 n2 cuq1] 26)).alloc (.cells #[.slice a2 n1 cap2, .slice q2 n2 cuq2] 26))
  have HX := Lib.hid ((Blk.new w #[.slice a1 n1 cap1, .slice q1 n2 cuq1] 26).alloc (.cells #[.slice a2 n1 cap2, .slice q2 n2 cuq2] 26))
  have hy : Blk ((w.alloc (.cells #[.slice a1 n1 cap1, .slice q1 n2 cuq1] 26)).alloc (.cells #[.slice a2 n1 cap2, .slice q2 n2 cuq2] 26)) (w.heap.size + 1) #[.slice a2 n1 cap2, .slice q2 n2 cuq2] 26 := Blk.newAt _ _ _ _ (by simp)
  have HY := Lib.hid hy
  clear hy
  go_enter Try.func12, Try.ntmps12
  go_wp2_with fail
  generalize hw1 : (w.alloc (.cells #[.slice a1 n1 cap1, .slice q1 n2 cuq1] 26)).alloc (.cells #[.slice a2 n1 cap2, .slice q2 n2 cuq2] 26) = w1 at HF0 HX HY ⊢
  clear hw1
  go_loopw [5] (fun i wr => ∃ k : Nat, k ≤ n1 ∧ i = .int .i64 k ∧ Hid (From w1.heap.size w1 wr)) (fun i _ => n1 - (intOf i).toNat)
  case atStart => exact ⟨0, Nat.zero_le _, rfl, From.start w1⟩
  case round =>
    obtain ⟨k, hk, rfl, HG⟩ := hrel
    have HF := Lib.hid (HF0.out.call HG.out.below)
    have cX := (HX.out.call HG.out.below).cell
    have zX := (HX.out.call HG.out.below).lt
    have cY := (HY.out.call HG.out.below).cell
    have zY := (HY.out.call HG.out.below).lt
    by_cases hlt : k < n1
    · obtain ⟨b1, off1, rfl, hc1⟩ := H1.out (by have := HN1.out; omega)
      obtain ⟨b2, off2, rfl, hc2⟩ := H2.out (by have := HN1.out; omega)
      obtain ⟨vb1, vf1, hb1, hf1, c0, c1, c2, c3, c4, c5⟩ := hc1 k (by rw [HN1.out]; exact hlt)
      obtain ⟨vb2, vf2, hb2, hf2, e0, e1, e2, e3, e4, e5⟩ := hc2 k (by rw [HN1.out]; exact hlt)
      have l1 : b1 < w.heap.size := World.block_lt_of_cell? w _ c0
      have l2 : b2 < w.heap.size := World.block_lt_of_cell? w _ e0
      have g0 := (HF.out.below.cell (p := ⟨b1, off1 + k * 6, none⟩) l1).trans c0
      have g1 := (HF.out.below.cell (p := ⟨b1, off1 + k * 6 + 1, none⟩) l1).trans c1
      have g2 := (HF.out.below.cell (p := ⟨b1, off1 + k * 6 + 2, none⟩) l1).trans c2
      have g3 := (HF.out.below.cell (p := ⟨b1, off1 + k * 6 + 3, none⟩) l1).trans c3
      have g4 := (HF.out.below.cell (p := ⟨b1, off1 + k * 6 + 4, none⟩) l1).trans c4
      have g5 := (HF.out.below.cell (p := ⟨b1, off1 + k * 6 + 5, none⟩) l1).trans c5
      have d0 := (HF.out.below.cell (p := ⟨b2, off2 + k * 6, none⟩) l2).trans e0
      have d1 := (HF.out.below.cell (p := ⟨b2, off2 + k * 6 + 1, none⟩) l2).trans e1
      have d2 := (HF.out.below.cell (p := ⟨b2, off2 + k * 6 + 2, none⟩) l2).trans e2
      have d3 := (HF.out.below.cell (p := ⟨b2, off2 + k * 6 + 3, none⟩) l2).trans e3
      have d4 := (HF.out.below.cell (p := ⟨b2, off2 + k * 6 + 4, none⟩) l2).trans e4
      have d5 := (HF.out.below.cell (p := ⟨b2, off2 + k * 6 + 5, none⟩) l2).trans e5
      have i1 : (k : Int) < (n1 : Int) := by omega
      have i3 : (0 : Int) ≤ (k : Int) := by omega
      have hltL : k < o.secs.length := by rw [HN1.out]; exact hlt
      have HS1 : Hid (SecAt w (secV o.secs[k] vb1 vf1) o.secs[k]) := ⟨vb1, vf1, rfl, hb1, hf1⟩
      have HS2 : Hid (SecAt w (secV o.secs[k] vb2 vf2) o.secs[k]) := ⟨vb2, vf2, rfl, hb2, hf2⟩
      clear hc1 hc2 c0 c1 c2 c3 c4 c5 e0 e1 e2 e3 e4 e5 hb1 hf1 hb2 hf2
      generalize o.secs[k] = x at *
      go_wp2_with fail
      go_still_tail 10, (by kernel_rfl)
      change wpList _ _ _ _ _ wr.drew
      have HGd := Lib.hid HG.out.drew
      have HFd := Lib.hid (HF0.out.call HGd.out.below)
      clear g0 g1 g2 g3 g4 g5 d0 d1 d2 d3 d4 d5 cX zX cY zY HF
      generalize wr.drew = w2 at HGd HFd ⊢
      go_wp2_with fail
      refine (sameSection_same w2 (secV x vb1 vf1) (secV x vb2 vf2) x (HS1.out.below (Nat.le_refl _) HFd.out.below) (HS2.out.below (Nat.le_refl _) HFd.out.below)).mono ?_
      rintro e w3 ⟨rfl, h3⟩
      have HG3 := Lib.hid (HGd.out.call h3)
      clear h3 HGd HFd
      go_wp2_with fail
      go_roundw
      case rel => exact ⟨k + 1, by omega, by go_num, HG3⟩
      case measure => simp [intOf]; try omega
    · obtain rfl : n1 = k := by omega
      go_wp2_with fail
      go_loopw [6] (fun i wr => ∃ k : Nat, k ≤ n2 ∧ i = .int .i64 k ∧ Hid (From w1.heap.size w1 wr)) (fun i _ => n2 - (intOf i).toNat)
      case atStart => exact ⟨0, Nat.zero_le _, rfl, HG⟩
      case round =>
        clear HG HF cX zX cY zY hlt hk
        obtain ⟨k, hk, rfl, HG⟩ := hrel
        have HF := Lib.hid (HF0.out.call HG.out.below)
        have cX := (HX.out.call HG.out.below).cell
        have zX := (HX.out.call HG.out.below).lt
        have cY := (HY.out.call HG.out.below).cell
        have zY := (HY.out.call HG.out.below).lt
        by_cases hlt : k < n2
        · obtain ⟨b1, off1, rfl, hc1⟩ := K1.out (by have := HN2.out; omega)
          obtain ⟨b2, off2, rfl, hc2⟩ := K2.out (by have := HN2.out; omega)
          obtain ⟨c0, c1, c2, c3⟩ := hc1 k (by rw [HN2.out]; exact hlt)
          obtain ⟨e0, e1, e2, e3⟩ := hc2 k (by rw [HN2.out]; exact hlt)
          have l1 : b1 < w.heap.size := World.block_lt_of_cell? w _ c0
          have l2 : b2 < w.heap.size := World.block_lt_of_cell? w _ e0
          have g0 := (HF.out.below.cell (p := ⟨b1, off1 + k * 4, none⟩) l1).trans c0
          have g1 := (HF.out.below.cell (p := ⟨b1, off1 + k * 4 + 1, none⟩) l1).trans c1
          have g2 := (HF.out.below.cell (p := ⟨b1, off1 + k * 4 + 2, none⟩) l1).trans c2
          have g3 := (HF.out.below.cell (p := ⟨b1, off1 + k * 4 + 3, none⟩) l1).trans c3
          have d0 := (HF.out.below.cell (p := ⟨b2, off2 + k * 4, none⟩) l2).trans e0
          have d1 := (HF.out.below.cell (p := ⟨b2, off2 + k * 4 + 1, none⟩) l2).trans e1
          have d2 := (HF.out.below.cell (p := ⟨b2, off2 + k * 4 + 2, none⟩) l2).trans e2
          have d3 := (HF.out.below.cell (p := ⟨b2, off2 + k * 4 + 3, none⟩) l2).trans e3
          have i1 : (k : Int) < (n2 : Int) := by omega
          have i3 : (0 : Int) ≤ (k : Int) := by omega
          clear hc1 hc2 c0 c1 c2 c3 e0 e1 e2 e3
          generalize o.syms[k]'(by rw [HN2.out]; exact hlt) = x at *
          have he : (x.name.toList == x.name.toList) = true := str_eq rfl
          go_wp2_with fail
          go_quiet (fail)
          have HG2 := Lib.hid (HG.out.drewN nq)
          clear g0 g1 g2 g3 d0 d1 d2 d3 cX cY
          go_wp2_with fail
          go_roundw
          case rel => exact ⟨k + 1, by omega, by go_num, HG2⟩
          case measure => simp [intOf]; try omega
        · obtain rfl : n2 = k := by omega
          go_wp2_with fail
          go_ret
          exact ⟨rfl, HF.out.below⟩
end Go.Proofs.Ytkefbhidfbnipaa
