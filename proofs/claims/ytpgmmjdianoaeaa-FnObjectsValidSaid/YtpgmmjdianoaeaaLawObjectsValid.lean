/- Objects are few: a part of valid objects is valid; with an invalid one they are not. No condition. -/
import Derived.Test.YtpgmmjdianoaeaaBase
import Derived.Test.YtpgmmjdianoaeaaDrawK
import Derived.Test.YtpgmmjdianoaeaaDrawL
import Derived.Test.YtpgmmjdianoaeaaInv
import Derived.Test.YtpgmmjdianoaeaaObjs
namespace Go.Proofs.Ytpgmmjdianoaeaa
open Go.ChangeShapes Go.WideShapes Go.ChangeAt Go.RowKit Go.Joins
set_option linter.unusedSimpArgs false
set_option linter.unusedVariables false
set_option maxRecDepth 100000
theorem flat_dropJ : ∀ (ls : List (ObjD × Value × Value)) (k : Nat), (ls.drop k).flatMap objL = (ls.flatMap objL).drop (k * 2)
  | ls, 0 => by simp
  | [], k + 1 => by simp
  | x :: ls, k + 1 => by
    rw [List.drop_succ_cons, flat_dropJ ls k, List.flatMap_cons, show (k + 1) * 2 = (objL x).length + k * 2 by rw [objL_length]; omega, List.drop_append]
    simp
theorem objs_drop {w : World} {a : Option Addr} {n cap : Nat} {l : List ObjD} (k : Nat) (hk : k ≤ l.length) (h : ObjsAt w (.slice a n cap) l) :
    ∃ half, (∀ u : World, (Instr.slice 23 (.slice a l.length cap) (some (.int .i64 (k : Int))) none none).run Try.prog u = .ok half u) ∧ ObjsAt w half (l.drop k) := by
  obtain ⟨ls, hls, hrd, hea⟩ := h
  obtain ⟨hl0, a', cap', hv, hcap, hmax, hnone, hcell⟩ := hrd
  injection hv with e1 e2 e3
  subst e1 e3
  have hll : l.length = ls.length := by rw [hls, List.length_map]
  obtain ⟨N, hN⟩ : ∃ N, ls.length = N := ⟨_, rfl⟩
  rw [hN] at hl0 hcap hcell hll
  rw [hll] at hk ⊢
  have i1 : (k : Int) ≤ (N : Int) := by omega
  have i2 : (N : Int) ≤ (cap : Int) := by omega
  have i4 : (0 : Int) ≤ (k : Int) := by omega
  have i5 : (k : Int) ≤ (cap : Int) := by omega
  refine ⟨.slice (if cap = k then a else a.map (fun x => x.add (k * 2))) (N - k) (cap - k), fun u => ?_, ?_⟩
  · clear hls hea hl0 hnone hcell hll hN
    go_simp
  · refine ⟨ls.drop k, by rw [hls, List.map_drop], ⟨?_, _, _, by rw [List.length_drop, hN], by rw [List.length_drop, hN]; omega, by omega, fun e => ?_, fun hn => ?_⟩, fun x hx => hea x (List.mem_of_mem_drop hx)⟩
    · rw [flat_dropJ, List.length_drop, hl0, List.length_drop, hN, Nat.sub_mul]
    · by_cases hc : cap = k
      · omega
      · rw [if_neg hc] at e
        cases a with
        | none => have := hnone rfl; omega
        | some x => cases e
    · rw [List.length_drop, hN] at hn
      obtain ⟨b, off, rfl, hc⟩ := hcell (by omega)
      rw [if_neg (by omega)]
      refine ⟨b, off + k * 2, (by simp [Addr.add]), fun j u hj => ?_⟩
      rw [flat_dropJ, List.getElem?_drop] at hj
      have := hc (k * 2 + j) u hj
      rw [Nat.add_assoc]
      exact this
set_option maxHeartbeats 1000000 in
theorem walk_FnObjectsValid (w : World) (v : Value) (l : List UInt8) (h : BytesAt w v l) :
    Calls Try.prog 3 #[v] w fun e w' => e = .returned (.bool true) ∧ Below w.heap.size w w' := by
  obtain ⟨a, cap, hv, hcap, hmax, hnone, hcell⟩ := h.form
  clear hnone hcell
  by_cases hl : (l.length : Int) ≤ 1048576
  · have H := Lib.hid h
    clear h
    subst hv
    unfold maxLen at hmax
    go_enter Try.func3, Try.ntmps3
    go_wp2_with fail
    refine (s_DrawObjectsValid_any _ _ l H.out).mono ?_
    rintro e w1 ⟨_, rfl, ⟨os, ho, hsm, hol⟩, hF⟩
    obtain ⟨j0, hi, hz0, hz1, hz2⟩ := info_parts info_objJ
    have hmk : ∀ u, (Instr.makeSlice 26 (.int .i64 1) (.int .i64 1)).run Try.prog u = .ok (.slice (some ⟨u.heap.size, 0, none⟩) 1 1) (u.alloc (.cells #[.string ⟨#[]⟩, .int .i64 0, .int .i64 0, .int .i64 0] 39)) := fun u => by kernel_rfl
    have HOLN : Hid (ObjsLen os) := fun o h9 => (hsm o h9).len
    obtain ⟨la, lc, rfl, hlc, hlm, hln, -⟩ := ho.form
    obtain ⟨N, hN⟩ : ∃ N, os.length = N := ⟨_, rfl⟩
    rw [hN] at ho hol hlc ⊢
    have HN := Lib.hid hN
    have HO1 := Lib.hid ho
    have HF1 := Lib.hid hF
    have HSM := Lib.hid hsm
    unfold maxLen at hlm
    obtain ⟨ob, hob⟩ : ∃ ob, objsB os = ob := ⟨_, rfl⟩
    have HOB := Lib.hid hob
    clear ho hsm hF hN hob
    go_wp2_with fail
    refine (i_ObjectsValid w1 _ os HO1.out HOLN.out).mono ?_
    rw [HOB.out]
    rintro e w2 ⟨rfl, k2⟩
    have HO2 := Lib.hid (HO1.out.below (Nat.le_refl _) k2)
    have HF2 := Lib.hid (HF1.out.call k2)
    clear k2 HO1 HF1
    go_wp2_with fail
    refine (s_ObjectsValid w2 _ os HO2.out HOLN.out).mono ?_
    rw [HOB.out]
    rintro e w3 ⟨rfl, k3⟩
    have HO3 := Lib.hid (HO2.out.below (Nat.le_refl _) k3)
    have HF3 := Lib.hid (HF2.out.call k3)
    have eB : (ob != ob) = false := by cases ob <;> rfl
    clear k3 HO2 HF2
    go_upto_region 8 with fail
    obtain ⟨ys, hys⟩ : ∃ y, w3.heap.size = y := ⟨_, rfl⟩
    have hsz : (w3.alloc (.cells #[.string ⟨#[]⟩, .int .i64 0, .int .i64 0, .int .i64 0] 39)).heap.size = ys + 1 := by simp [hys]
    have hY : OwnSyms (w3.alloc (.cells #[.string ⟨#[]⟩, .int .i64 0, .int .i64 0, .int .i64 0] 39)) ys (.slice (some ⟨ys, 0, none⟩) 1 1) [⟨⟨#[]⟩, 0, 0, 0⟩] := by
      have h9 := World.ownsRow_lit w3 #[.string ⟨#[]⟩, .int .i64 0, .int .i64 0, .int .i64 0] (e := 39) (size := 4) (base := w3.heap.size) 1 (Nat.le_refl _) (by decide) rfl
      rw [hys] at h9
      exact h9
    have hU := ((From.start (w3.alloc (.cells #[.string ⟨#[]⟩, .int .i64 0, .int .i64 0, .int .i64 0] 39))).alloc (.cells #[.slice none 0 0, .slice (some ⟨ys, 0, none⟩) 1 1] 29)).below
    have HYS := Lib.hid (OwnSyms.reads (owns_call hY hU))
    have HTB := Lib.hid (Blk.newAt (w3.alloc (.cells #[.string ⟨#[]⟩, .int .i64 0, .int .i64 0, .int .i64 0] 39)) #[.slice none 0 0, .slice (some ⟨ys, 0, none⟩) 1 1] 29 (ys + 1) hsz.symm)
    have hU2 := (((From.start w3).alloc (.cells #[.string ⟨#[]⟩, .int .i64 0, .int .i64 0, .int .i64 0] 39)).alloc (.cells #[.slice none 0 0, .slice (some ⟨ys, 0, none⟩) 1 1] 29)).below
    have HOW := Lib.hid (HO3.out.below (Nat.le_refl _) hU2)
    have HFW := Lib.hid (HF3.out.call hU2)
    try rw [hys]
    obtain ⟨tb, htb⟩ : ∃ t, ys + 1 = t := ⟨_, rfl⟩
    rw [htb] at HTB ⊢
    generalize (w3.alloc (.cells #[.string ⟨#[]⟩, .int .i64 0, .int .i64 0, .int .i64 0] 39)).alloc (.cells #[.slice none 0 0, .slice (some ⟨ys, 0, none⟩) 1 1] 29) = W at *
    clear hsz hY hU hU2 hys htb hmk HO3 HF3
    obtain ⟨ls, hls, hrd, hea⟩ := HOW.out
    have hlsn : ls.length = N := by have h9 := congrArg List.length hls; rw [List.length_map, HN.out] at h9; exact h9.symm
    rw [hlsn] at hrd
    have HRD := Lib.hid hrd
    have HONE : Hid (∀ x ∈ ls.flatMap objL, x.oneCell' = true) := fun x hx => by
      obtain ⟨y, hy, hx⟩ := List.mem_flatMap.1 hx
      obtain ⟨h1, h2⟩ := hea y hy
      obtain ⟨a1, c1, e1, -⟩ := h1.form
      obtain ⟨a2, c2, e2, -⟩ := h2.form
      simp only [objL, List.mem_cons, List.not_mem_nil, or_false] at hx
      rcases hx with rfl | rfl
      · rw [e1]; rfl
      · rw [e2]; rfl
    have HBADA : Hid (∀ u v, Below W.heap.size W u → u.ownsRow W.heap.size 29 2 v (N + 1) (ls.flatMap objL ++ [.slice none 0 0, .slice (some ⟨ys, 0, none⟩) 1 1]) → ObjsAt u v (os ++ [(⟨[], [⟨⟨#[]⟩, 0, 0, 0⟩]⟩ : ObjD)])) := fun u v hb hr => by
      refine ⟨ls ++ [((⟨[], [⟨⟨#[]⟩, 0, 0, 0⟩]⟩ : ObjD), .slice none 0 0, .slice (some ⟨ys, 0, none⟩) 1 1)], by rw [List.map_append, ← hls]; rfl, ?_, fun x hx => ?_⟩
      · have h9 := reads_of_owns hr
        rw [List.length_append, List.flatMap_append, hlsn]
        exact h9
      · rcases List.mem_append.1 hx with hx | hx
        · obtain ⟨h1, h2⟩ := hea x hx
          exact ⟨h1.below (Nat.le_refl _) hb, h2.below (Nat.le_refl _) hb⟩
        · obtain rfl := List.mem_singleton.1 hx
          exact ⟨⟨[], rfl, reads_of_owns (World.ownsRow_nil u 0 59 6), fun y hy => by cases hy⟩, HYS.out.below (Nat.le_refl _) hb⟩
    have HBADL : Hid (ObjsLen (os ++ [(⟨[], [⟨⟨#[]⟩, 0, 0, 0⟩]⟩ : ObjD)])) := fun o h9 => by
      rcases List.mem_append.1 h9 with h9 | h9
      · exact HOLN.out o h9
      · obtain rfl := List.mem_singleton.1 h9
        exact ⟨(fun s hs => by cases hs), (fun s hs => by obtain rfl := List.mem_singleton.1 hs; exact Nat.zero_le _)⟩
    have HBADB : Hid (objsB (os ++ [(⟨[], [⟨⟨#[]⟩, 0, 0, 0⟩]⟩ : ObjD)]) = false) := objsB_bad os _ (by kernel_rfl)
    clear hls hrd hea hlsn eB
    cases ob with
    | false =>
      let f0 : Nat → Value := fun i => match i with
        | 0 => .bool false
        | 1 => .bool true
        | 2 => .bool true
        | 9 => .bool true
        | 10 => .bool true
        | 12 => .slice la N lc
        | 14 => .agg #[.slice none 0 0, .slice (some ⟨ys, 0, none⟩) 1 1]
        | 17 => .bool false
        | 18 => .bool true
        | 19 => .bool true
        | 20 => .bool true
        | 21 => .bool true
        | 22 => .bool true
        | 23 => .bool true
        | _ => undef
      let V : Nat → Value → World → Prop := fun i v u => (i = 11 → ∃ q, v = .slice (some ⟨q, 0, none⟩) 0 0 ∧ W.heap.size ≤ q ∧ Blk u q #[] 29) ∧ (i = 13 → u.ownsRow W.heap.size 29 2 v N (ls.flatMap objL)) ∧ (i = 15 → ∃ q, v = .slice (some ⟨q, 0, none⟩) 1 1 ∧ W.heap.size ≤ q ∧ Blk u q #[.slice none 0 0, .slice (some ⟨ys, 0, none⟩) 1 1] 29) ∧ (i = 16 → u.ownsRow W.heap.size 29 2 v (N + 1) (ls.flatMap objL ++ [.slice none 0 0, .slice (some ⟨ys, 0, none⟩) 1 1])) ∧ (i ≠ 11 → i ≠ 13 → i ≠ 15 → i ≠ 16 → v = f0 i)
      have hbel : ∀ (u u' : World) (j : Nat) (y : Value), Below u.heap.size u u' → V j y u → V j y u' := by
        intro u u' j y hb h
        refine ⟨fun e => ?_, fun e => owns_call (h.2.1 e) hb, fun e => ?_, fun e => owns_call (h.2.2.2.1 e) hb, h.2.2.2.2⟩
        · obtain ⟨q, h1, h2, h3⟩ := h.1 e
          exact ⟨q, h1, h2, h3.call hb⟩
        · obtain ⟨q, h1, h2, h3⟩ := h.2.2.1 e
          exact ⟨q, h1, h2, h3.call hb⟩
      refine wp_region_get V (fun _ _ u => From W.heap.size W u) [[], [0], [1], [2], [2], [2, 4], [2, 5], [2, 3, 6], [2, 7], [2, 8], [9], [10], [10], [10, 11, 12], [10], [10, 14], [10, 13, 15], [10, 16], [10, 17], [10, 18], [19], [20], [20, 21], [22]] [[], [0], [0, 1], [0, 1, 2], [0, 1, 2], [0, 1, 2, 4], [0, 1, 2, 4, 5], [0, 1, 2, 3, 4, 5, 6], [0, 1, 2, 3, 4, 5, 6, 7], [0, 1, 2, 3, 4, 5, 6, 7, 8], [0, 1, 2, 3, 4, 5, 6, 7, 8, 9], [0, 1, 2, 3, 4, 5, 6, 7, 8, 9, 10], [0, 1, 2, 3, 4, 5, 6, 7, 8, 9, 10], [0, 1, 2, 3, 4, 5, 6, 7, 8, 9, 10, 11, 12], [0, 1, 2, 3, 4, 5, 6, 7, 8, 9, 10], [0, 1, 2, 3, 4, 5, 6, 7, 8, 9, 10, 14], [0, 1, 2, 3, 4, 5, 6, 7, 8, 9, 10, 11, 12, 13, 14, 15], [0, 1, 2, 3, 4, 5, 6, 7, 8, 9, 10, 11, 12, 13, 14, 15, 16], [0, 1, 2, 3, 4, 5, 6, 7, 8, 9, 10, 11, 12, 13, 14, 15, 16, 17], [0, 1, 2, 3, 4, 5, 6, 7, 8, 9, 10, 11, 12, 13, 14, 15, 16, 17, 18], [0, 1, 2, 3, 4, 5, 6, 7, 8, 9, 10, 11, 12, 13, 14, 15, 16, 17, 18, 19], [0, 1, 2, 3, 4, 5, 6, 7, 8, 9, 10, 11, 12, 13, 14, 15, 16, 17, 18, 19, 20], [0, 1, 2, 3, 4, 5, 6, 7, 8, 9, 10, 11, 12, 13, 14, 15, 16, 17, 18, 19, 20, 21], [0, 1, 2, 3, 4, 5, 6, 7, 8, 9, 10, 11, 12, 13, 14, 15, 16, 17, 18, 19, 20, 21, 22]] [23] (by kernel_rfl) (by kernel_rfl) (by kernel_rfl) (by kernel_rfl) (by kernel_rfl) (From.start W).drew ?ho ?hq
      case ho =>
        refine ⟨?_, ?_, ?_, ?_, ?_, ?_, ?_, ?_, ?_, ?_, ?_, ?_, ?_, ?_, ?_, ?_, ?_, ?_, ?_, ?_, ?_, ?_, ?_, ?_, trivial⟩
        · intro n f a9 u K' hfr hn hl hS hv hK'
          have eA8 : a9.tmps.getD 4 undef = .bool false := hfr 4 (no_dst (by kernel_rfl))
          have eB8 : (a9.tmps[4]?).getD undef = .bool false := by simpa using eA8
          refine owe_run rfl (wp_val (v := .bool false) ?_ (hK' _ _ hS (fun _ _ _ h => h) (fun _ => ⟨fun e => absurd e (by decide), fun e => absurd e (by decide), fun e => absurd e (by decide), fun e => absurd e (by decide), fun _ _ _ _ => rfl⟩)))
          first
            | (go_simp; done)
            | (go_simp; rfl)
        · intro n f a9 u K' hfr hn hl hS hv hK'
          have eA0 : a9.tmps.getD 19 undef = .bool false := hv.1.2.2.2.2 (by decide) (by decide) (by decide) (by decide)
          have eB0 : (a9.tmps[19]?).getD undef = .bool false := by simpa using eA0
          refine owe_run rfl (wp_val (v := .bool true) ?_ (hK' _ _ hS (fun _ _ _ h => h) (fun _ => ⟨fun e => absurd e (by decide), fun e => absurd e (by decide), fun e => absurd e (by decide), fun e => absurd e (by decide), fun _ _ _ _ => rfl⟩)))
          first
            | (go_simp; done)
            | (go_simp; rfl)
        · intro n f a9 u K' hfr hn hl hS hv hK'
          have eA0 : a9.tmps.getD 20 undef = .bool true := hv.1.2.2.2.2 (by decide) (by decide) (by decide) (by decide)
          have eB0 : (a9.tmps[20]?).getD undef = .bool true := by simpa using eA0
          refine owe_run rfl (wp_val (v := .bool true) ?_ (hK' _ _ hS (fun _ _ _ h => h) (fun _ => ⟨fun e => absurd e (by decide), fun e => absurd e (by decide), fun e => absurd e (by decide), fun e => absurd e (by decide), fun _ _ _ _ => rfl⟩)))
          first
            | (go_simp; done)
            | (go_simp; rfl)
        · intro n f a9 u K' hfr hn hl hS hv hK'
          have eA0 : a9.tmps.getD 21 undef = .bool true := hv.1.2.2.2.2 (by decide) (by decide) (by decide) (by decide)
          have eB0 : (a9.tmps[21]?).getD undef = .bool true := by simpa using eA0
          exact owe_skip rfl (yielded_at rfl eA0) (by decide) (hK' undef _ hS (fun _ _ _ h => h) (fun _ => ⟨fun e => absurd e (by decide), fun e => absurd e (by decide), fun e => absurd e (by decide), fun e => absurd e (by decide), fun _ _ _ _ => rfl⟩))
        · intro n f a9 u K' hfr hn hl hS hv hK'
          have eA0 : a9.tmps.getD 21 undef = .bool true := hv.1.2.2.2.2 (by decide) (by decide) (by decide) (by decide)
          have eB0 : (a9.tmps[21]?).getD undef = .bool true := by simpa using eA0
          exact owe_skip rfl (yielded_at rfl eA0) (by decide) (hK' undef _ hS (fun _ _ _ h => h) (fun _ => ⟨fun e => absurd e (by decide), fun e => absurd e (by decide), fun e => absurd e (by decide), fun e => absurd e (by decide), fun _ _ _ _ => rfl⟩))
        · intro n f a9 u K' hfr hn hl hS hv hK'
          have eA0 : a9.tmps.getD 21 undef = .bool true := hv.1.2.2.2.2 (by decide) (by decide) (by decide) (by decide)
          have eB0 : (a9.tmps[21]?).getD undef = .bool true := by simpa using eA0
          exact owe_skip rfl (yielded_at rfl eA0) (by decide) (hK' undef _ hS (fun _ _ _ h => h) (fun _ => ⟨fun e => absurd e (by decide), fun e => absurd e (by decide), fun e => absurd e (by decide), fun e => absurd e (by decide), fun _ _ _ _ => rfl⟩))
        · intro n f a9 u K' hfr hn hl hS hv hK'
          have eA0 : a9.tmps.getD 21 undef = .bool true := hv.1.2.2.2.2 (by decide) (by decide) (by decide) (by decide)
          have eB0 : (a9.tmps[21]?).getD undef = .bool true := by simpa using eA0
          exact owe_skip rfl (yielded_at rfl eA0) (by decide) (hK' undef _ hS (fun _ _ _ h => h) (fun _ => ⟨fun e => absurd e (by decide), fun e => absurd e (by decide), fun e => absurd e (by decide), fun e => absurd e (by decide), fun _ _ _ _ => rfl⟩))
        · intro n f a9 u K' hfr hn hl hS hv hK'
          have eA0 : a9.tmps.getD 21 undef = .bool true := hv.1.2.2.2.2 (by decide) (by decide) (by decide) (by decide)
          have eB0 : (a9.tmps[21]?).getD undef = .bool true := by simpa using eA0
          exact owe_skip rfl (yielded_at rfl eA0) (by decide) (hK' undef _ hS (fun _ _ _ h => h) (fun _ => ⟨fun e => absurd e (by decide), fun e => absurd e (by decide), fun e => absurd e (by decide), fun e => absurd e (by decide), fun _ _ _ _ => rfl⟩))
        · intro n f a9 u K' hfr hn hl hS hv hK'
          have eA0 : a9.tmps.getD 21 undef = .bool true := hv.1.2.2.2.2 (by decide) (by decide) (by decide) (by decide)
          have eB0 : (a9.tmps[21]?).getD undef = .bool true := by simpa using eA0
          exact owe_skip rfl (yielded_at rfl eA0) (by decide) (hK' undef _ hS (fun _ _ _ h => h) (fun _ => ⟨fun e => absurd e (by decide), fun e => absurd e (by decide), fun e => absurd e (by decide), fun e => absurd e (by decide), fun _ _ _ _ => rfl⟩))
        · intro n f a9 u K' hfr hn hl hS hv hK'
          have eA0 : a9.tmps.getD 21 undef = .bool true := hv.1.2.2.2.2 (by decide) (by decide) (by decide) (by decide)
          have eB0 : (a9.tmps[21]?).getD undef = .bool true := by simpa using eA0
          refine owe_run rfl (wp_val (v := .bool true) ?_ (hK' _ _ hS (fun _ _ _ h => h) (fun _ => ⟨fun e => absurd e (by decide), fun e => absurd e (by decide), fun e => absurd e (by decide), fun e => absurd e (by decide), fun _ _ _ _ => rfl⟩)))
          first
            | (go_simp; done)
            | (go_simp; rfl)
        · intro n f a9 u K' hfr hn hl hS hv hK'
          have eA0 : a9.tmps.getD 28 undef = .bool true := hv.1.2.2.2.2 (by decide) (by decide) (by decide) (by decide)
          have eB0 : (a9.tmps[28]?).getD undef = .bool true := by simpa using eA0
          refine owe_run rfl (wp_val (v := .bool true) ?_ (hK' _ _ hS (fun _ _ _ h => h) (fun _ => ⟨fun e => absurd e (by decide), fun e => absurd e (by decide), fun e => absurd e (by decide), fun e => absurd e (by decide), fun _ _ _ _ => rfl⟩)))
          first
            | (go_simp; done)
            | (go_simp; rfl)
        · intro n f a9 u K' hfr hn hl hS hv hK'
          have eA0 : a9.tmps.getD 29 undef = .bool true := hv.1.2.2.2.2 (by decide) (by decide) (by decide) (by decide)
          have eB0 : (a9.tmps[29]?).getD undef = .bool true := by simpa using eA0
          refine owe_want rfl (yielded_at rfl eA0) (wp_val (v := .slice (some ⟨u.heap.size, 0, none⟩) 0 0) (w' := u.alloc (.cells #[] 29)) ?_ (hK' _ _ (hS.alloc _) (fun j y hj h => hbel u _ j y ((From.start u).alloc _).below h) (fun _ => ⟨fun _ => ⟨_, rfl, hS.le, Blk.new u _ _⟩, fun e => absurd e (by decide), fun e => absurd e (by decide), fun e => absurd e (by decide), fun e => absurd rfl e⟩)))
          first
            | (go_simp; done)
            | (go_simp; rfl)
        · intro n f a9 u K' hfr hn hl hS hv hK'
          have eA8 : a9.tmps.getD 3 undef = .slice la N lc := hfr 3 (no_dst (by kernel_rfl))
          have eB8 : (a9.tmps[3]?).getD undef = .slice la N lc := by simpa using eA8
          have eA0 : a9.tmps.getD 29 undef = .bool true := hv.1.2.2.2.2 (by decide) (by decide) (by decide) (by decide)
          have eB0 : (a9.tmps[29]?).getD undef = .bool true := by simpa using eA0
          refine owe_want rfl (yielded_at rfl eA0) (wp_val (v := .slice la N lc) ?_ (hK' _ _ hS (fun _ _ _ h => h) (fun _ => ⟨fun e => absurd e (by decide), fun e => absurd e (by decide), fun e => absurd e (by decide), fun e => absurd e (by decide), fun _ _ _ _ => rfl⟩)))
          first
            | (go_simp; done)
            | (go_simp; rfl)
        · intro n f a9 u K' hfr hn hl hS hv hK'
          have eA0 : a9.tmps.getD 29 undef = .bool true := hv.1.2.2.2.2 (by decide) (by decide) (by decide) (by decide)
          have eB0 : (a9.tmps[29]?).getD undef = .bool true := by simpa using eA0
          obtain ⟨q, h0, h1, h2⟩ := hv.2.1.1 rfl
          have h3 : a9.tmps.getD 31 undef = .slice la N lc := hv.2.2.1.2.2.2.2 (by decide) (by decide) (by decide) (by decide)
          have ho : u.ownsRow W.heap.size 29 2 (.slice (some ⟨q, 0, none⟩) 0 0) 0 [] := ⟨rfl, .inr ⟨q, 0, #[], rfl, h1, h2, Nat.le_refl _, Nat.zero_le _, rfl, rfl⟩⟩
          obtain ⟨v', u', hrun, hown, hgr⟩ := run_append_src u 23 23 23 W.heap.size 29 j0 _ Try.underlying23 hi hz0 (by rw [hz1]; rfl) (by rw [hz1]; decide) _ 0 [] (by rw [hz1]; exact ho) (.slice la N lc) N (ls.flatMap objL) (by rw [hz1]; exact src_reads Try.underlying23 (Reads.below HRD.out (Nat.le_refl _) hS.below) HONE.out) (by unfold maxLen; omega) (by rw [hz2]; omega) hS.le
          rw [hz1, Nat.zero_add, List.nil_append] at hown
          refine owe_want rfl (yielded_at rfl eA0) (wp_val (v := v') (w' := u') ?_ (hK' _ _ (hS.grown hgr (fun b hb => by simp [Value.ownBlock] at hb; omega)) (fun j y hj h => ?_) (fun _ => ⟨fun e => absurd e (by decide), fun _ => hown, fun e => absurd e (by decide), fun e => absurd e (by decide), fun _ e => absurd rfl e⟩)))
          · simp at h0 h3 hrun
            simp [execOp, resolve, invoke, builtin, Act.eval, h0, h3, hrun]
          · have hq : ∀ p c t, Blk u p c t → c ≠ #[] → Blk u' p c t := fun p c t hb hne => hb.grown hgr (fun e => by
              simp only [Value.ownBlock, Option.some.injEq] at e
              subst e
              have h7 : u.heap[p]? = some (.cells #[] 29 (0, 0)) := h2
              have h8 : u.heap[p]? = some (.cells c t (0, 0)) := hb
              rw [h7] at h8
              simp only [Option.some.injEq, Obj.cells.injEq] at h8
              exact hne h8.1.symm)
            refine ⟨fun e => by subst e; exact absurd hj (by decide), fun e => by subst e; exact absurd hj (by decide), fun e => ?_, fun e => by subst e; exact absurd hj (by decide), h.2.2.2.2⟩
            obtain ⟨p, h4, h5, h6⟩ := h.2.2.1 e
            exact ⟨p, h4, h5, hq p _ _ h6 (by simp)⟩
        · intro n f a9 u K' hfr hn hl hS hv hK'
          have eA8 : a9.tmps.getD 5 undef = .pointer (some ⟨tb, 0, none⟩) := hfr 5 (no_dst (by kernel_rfl))
          have eB8 : (a9.tmps[5]?).getD undef = .pointer (some ⟨tb, 0, none⟩) := by simpa using eA8
          have eA0 : a9.tmps.getD 29 undef = .bool true := hv.1.2.2.2.2 (by decide) (by decide) (by decide) (by decide)
          have eB0 : (a9.tmps[29]?).getD undef = .bool true := by simpa using eA0
          have hbx := HTB.out.call hS.below
          have cu := hbx.cell
          have zu := hbx.lt
          refine owe_want rfl (yielded_at rfl eA0) (wp_val (v := .agg #[.slice none 0 0, .slice (some ⟨ys, 0, none⟩) 1 1]) ?_ (hK' _ _ hS (fun _ _ _ h => h) (fun _ => ⟨fun e => absurd e (by decide), fun e => absurd e (by decide), fun e => absurd e (by decide), fun e => absurd e (by decide), fun _ _ _ _ => rfl⟩)))
          first
            | (go_simp; done)
            | (go_simp; rfl)
        · intro n f a9 u K' hfr hn hl hS hv hK'
          have eA0 : a9.tmps.getD 29 undef = .bool true := hv.1.2.2.2.2 (by decide) (by decide) (by decide) (by decide)
          have eB0 : (a9.tmps[29]?).getD undef = .bool true := by simpa using eA0
          have eA1 : a9.tmps.getD 33 undef = .agg #[.slice none 0 0, .slice (some ⟨ys, 0, none⟩) 1 1] := hv.2.1.2.2.2.2 (by decide) (by decide) (by decide) (by decide)
          have eB1 : (a9.tmps[33]?).getD undef = .agg #[.slice none 0 0, .slice (some ⟨ys, 0, none⟩) 1 1] := by simpa using eA1
          refine owe_want rfl (yielded_at rfl eA0) (wp_val (v := .slice (some ⟨u.heap.size, 0, none⟩) 1 1) (w' := u.alloc (.cells #[.slice none 0 0, .slice (some ⟨ys, 0, none⟩) 1 1] 29)) ?_ (hK' _ _ (hS.alloc _) (fun j y hj h => hbel u _ j y ((From.start u).alloc _).below h) (fun _ => ⟨fun e => absurd e (by decide), fun e => absurd e (by decide), fun _ => ⟨_, rfl, hS.le, Blk.new u _ _⟩, fun e => absurd e (by decide), fun _ _ e => absurd rfl e⟩)))
          first
            | (go_simp; done)
            | (go_simp; rfl)
        · intro n f a9 u K' hfr hn hl hS hv hK'
          have eA0 : a9.tmps.getD 29 undef = .bool true := hv.1.2.2.2.2 (by decide) (by decide) (by decide) (by decide)
          have eB0 : (a9.tmps[29]?).getD undef = .bool true := by simpa using eA0
          have h0 := hv.2.1.2.1 rfl
          obtain ⟨q, h3, h1, h2⟩ := hv.2.2.1.2.2.1 rfl
          obtain ⟨v', u', hrun, hown, hgr⟩ := run_append_src u 23 23 23 W.heap.size 29 j0 _ Try.underlying23 hi hz0 (by rw [hz1]; rfl) (by rw [hz1]; decide) _ _ _ (by rw [hz1]; exact h0) (.slice (some ⟨q, 0, none⟩) 1 1) 1 [.slice none 0 0, .slice (some ⟨ys, 0, none⟩) 1 1] (by rw [hz1]; exact src_blk Try.underlying23 u q [.slice none 0 0, .slice (some ⟨ys, 0, none⟩) 1 1] 2 1 1 29 h2 rfl (by intro x hx; simp only [List.mem_cons, List.not_mem_nil, or_false] at hx; rcases hx with rfl | rfl <;> rfl)) (by unfold maxLen; omega) (by rw [hz2]; omega) hS.le
          rw [hz1] at hown
          refine owe_want rfl (yielded_at rfl eA0) (wp_val (v := v') (w' := u') ?_ (hK' _ _ (hS.grown hgr (owns_block h0)) (fun j y hj h => ?_) (fun _ => ⟨fun e => absurd e (by decide), fun e => absurd e (by decide), fun e => absurd e (by decide), fun _ => hown, fun _ _ _ e => absurd rfl e⟩)))
          · simp at h3 hrun
            simp [execOp, resolve, invoke, builtin, Act.eval, h3, hrun]
          · exact ⟨fun e => by subst e; exact absurd hj (by decide), fun e => by subst e; exact absurd hj (by decide), fun e => by subst e; exact absurd hj (by decide), fun e => by subst e; exact absurd hj (by decide), h.2.2.2.2⟩
        · intro n f a9 u K' hfr hn hl hS hv hK'
          have eA0 : a9.tmps.getD 29 undef = .bool true := hv.1.2.2.2.2 (by decide) (by decide) (by decide) (by decide)
          have eB0 : (a9.tmps[29]?).getD undef = .bool true := by simpa using eA0
          have h0 := hv.2.1.2.2.2.1 rfl
          have hob : ObjsAt u (a9.tmps.getD 35 undef) (os ++ [(⟨[], [⟨⟨#[]⟩, 0, 0, 0⟩]⟩ : ObjD)]) := HBADA.out u _ hS.below h0
          refine owe_want rfl (yielded_at rfl eA0) (wp_fn rfl (args1 (v := a9.tmps.getD 35 undef) rfl) (enter_fn Try.func6 (by kernel_rfl) rfl _ _) ((i_ObjectsValid u _ _ hob HBADL.out).mono ?_))
          rw [HBADB.out]
          rintro e u2 ⟨rfl, k2'⟩
          exact ⟨_, rfl, hK' _ _ (hS.call k2') (fun j y hj h => hbel u u2 j y k2' h) (fun _ => ⟨fun e => absurd e (by decide), fun e => absurd e (by decide), fun e => absurd e (by decide), fun e => absurd e (by decide), fun _ _ _ _ => rfl⟩)⟩
        · intro n f a9 u K' hfr hn hl hS hv hK'
          have eA0 : a9.tmps.getD 29 undef = .bool true := hv.1.2.2.2.2 (by decide) (by decide) (by decide) (by decide)
          have eB0 : (a9.tmps[29]?).getD undef = .bool true := by simpa using eA0
          have eA1 : a9.tmps.getD 36 undef = .bool false := hv.2.1.2.2.2.2 (by decide) (by decide) (by decide) (by decide)
          have eB1 : (a9.tmps[36]?).getD undef = .bool false := by simpa using eA1
          refine owe_want rfl (yielded_at rfl eA0) (wp_val (v := .bool true) ?_ (hK' _ _ hS (fun _ _ _ h => h) (fun _ => ⟨fun e => absurd e (by decide), fun e => absurd e (by decide), fun e => absurd e (by decide), fun e => absurd e (by decide), fun _ _ _ _ => rfl⟩)))
          first
            | (go_simp; done)
            | (go_simp; rfl)
        · intro n f a9 u K' hfr hn hl hS hv hK'
          have eA0 : a9.tmps.getD 29 undef = .bool true := hv.1.2.2.2.2 (by decide) (by decide) (by decide) (by decide)
          have eB0 : (a9.tmps[29]?).getD undef = .bool true := by simpa using eA0
          have eA1 : a9.tmps.getD 37 undef = .bool true := hv.2.1.2.2.2.2 (by decide) (by decide) (by decide) (by decide)
          have eB1 : (a9.tmps[37]?).getD undef = .bool true := by simpa using eA1
          refine owe_run rfl (wp_val (v := .bool true) ?_ (hK' _ _ hS (fun _ _ _ h => h) (fun _ => ⟨fun e => absurd e (by decide), fun e => absurd e (by decide), fun e => absurd e (by decide), fun e => absurd e (by decide), fun _ _ _ _ => rfl⟩)))
          first
            | (go_simp; done)
            | (go_simp; rfl)
        · intro n f a9 u K' hfr hn hl hS hv hK'
          have eA0 : a9.tmps.getD 38 undef = .bool true := hv.1.2.2.2.2 (by decide) (by decide) (by decide) (by decide)
          have eB0 : (a9.tmps[38]?).getD undef = .bool true := by simpa using eA0
          refine owe_run rfl (wp_val (v := .bool true) ?_ (hK' _ _ hS (fun _ _ _ h => h) (fun _ => ⟨fun e => absurd e (by decide), fun e => absurd e (by decide), fun e => absurd e (by decide), fun e => absurd e (by decide), fun _ _ _ _ => rfl⟩)))
          first
            | (go_simp; done)
            | (go_simp; rfl)
        · intro n f a9 u K' hfr hn hl hS hv hK'
          have eA0 : a9.tmps.getD 39 undef = .bool true := hv.1.2.2.2.2 (by decide) (by decide) (by decide) (by decide)
          have eB0 : (a9.tmps[39]?).getD undef = .bool true := by simpa using eA0
          refine owe_want rfl (yielded_at rfl eA0) (wp_fn (vs := #[]) rfl (by simp) (enter_fn Try.func8 (by kernel_rfl) rfl _ _) ((alive_any u).mono ?_))
          rintro e u2 ⟨rfl, rfl⟩
          exact ⟨_, rfl, hK' _ _ hS (fun _ _ _ h => h) (fun _ => ⟨fun e => absurd e (by decide), fun e => absurd e (by decide), fun e => absurd e (by decide), fun e => absurd e (by decide), fun _ _ _ _ => rfl⟩)⟩
        · intro n f a9 u K' hfr hn hl hS hv hK'
          have eA0 : a9.tmps.getD 39 undef = .bool true := hv.1.2.2.2.2 (by decide) (by decide) (by decide) (by decide)
          have eB0 : (a9.tmps[39]?).getD undef = .bool true := by simpa using eA0
          have eA1 : a9.tmps.getD 40 undef = .bool true := hv.2.1.2.2.2.2 (by decide) (by decide) (by decide) (by decide)
          have eB1 : (a9.tmps[40]?).getD undef = .bool true := by simpa using eA1
          refine owe_run rfl (wp_val (v := .bool true) ?_ (hK' _ _ hS (fun _ _ _ h => h) (fun _ => ⟨fun e => absurd e (by decide), fun e => absurd e (by decide), fun e => absurd e (by decide), fun e => absurd e (by decide), fun _ _ _ _ => rfl⟩)))
          first
            | (go_simp; done)
            | (go_simp; rfl)
        · intro n f a9 u K' hfr hn hl hS hv hK'
          have eA0 : a9.tmps.getD 41 undef = .bool true := hv.1.2.2.2.2 (by decide) (by decide) (by decide) (by decide)
          have eB0 : (a9.tmps[41]?).getD undef = .bool true := by simpa using eA0
          refine owe_run rfl (wp_val (v := .bool true) ?_ (hK' _ _ hS (fun _ _ _ h => h) (fun _ => ⟨fun e => absurd e (by decide), fun e => absurd e (by decide), fun e => absurd e (by decide), fun e => absurd e (by decide), fun _ _ _ _ => rfl⟩)))
          first
            | (go_simp; done)
            | (go_simp; rfl)
      case hq =>
        intro gg u hS hv
        have e23 : gg 23 = .bool true := (hv.2.2.2.2.2.2.2.2.2.2.2.2.2.2.2.2.2.2.2.2.2.2.2.1 (by decide)).2.2.2.2 (by decide) (by decide) (by decide) (by decide)
        have HF9 := Lib.hid (HFW.out.call hS.below)
        clear hS hv hbel V f0
        simp only [List.map, putG, List.setIfInBounds_toArray, List.set_cons_succ, List.set_cons_zero, Nat.zero_add, Nat.reduceAdd, e23]
        go_wp2_with fail
        go_ret
        exact ⟨rfl, HF9.out.below⟩
    | true =>
      obtain ⟨k2, hk2⟩ : ∃ k, N / 2 = k := ⟨_, rfl⟩
      have x0 : (N : Int).tdiv 2 = (k2 : Int) := by rw [Int.tdiv_eq_ediv_of_nonneg (by omega)]; omega
      have x1 : (0 : Int) ≤ (k2 : Int) := by omega
      have x3 : IntKind.i64.wrap (k2 : Int) = (k2 : Int) := IntWalk.i64_in _ (by omega)
      have x2 : (k2 : Int) ≤ (N : Int) := by omega
      have hkn : k2 ≤ N := by omega
      have HDR : Hid (objsB (os.drop k2) = true) := objsB_part HOB.out k2
      clear hk2
      obtain ⟨half, hhalf, hhr⟩ := objs_drop k2 (by rw [HN.out]; exact hkn) HOW.out
      rw [HN.out] at hhalf
      have HHALF := Lib.hid hhr
      clear hhr
      let f0 : Nat → Value := fun i => match i with
        | 0 => .bool true
        | 1 => .bool false
        | 2 => .bool false
        | 3 => .slice la N lc
        | 4 => .slice la N lc
        | 5 => .int .i64 (N : Int)
        | 6 => .int .i64 (k2 : Int)
        | 7 => half
        | 8 => .bool true
        | 9 => .bool true
        | 10 => .bool true
        | 12 => .slice la N lc
        | 14 => .agg #[.slice none 0 0, .slice (some ⟨ys, 0, none⟩) 1 1]
        | 17 => .bool false
        | 18 => .bool true
        | 19 => .bool true
        | 20 => .bool true
        | 21 => .bool true
        | 22 => .bool true
        | 23 => .bool true
        | _ => undef
      let V : Nat → Value → World → Prop := fun i v u => (i = 11 → ∃ q, v = .slice (some ⟨q, 0, none⟩) 0 0 ∧ W.heap.size ≤ q ∧ Blk u q #[] 29) ∧ (i = 13 → u.ownsRow W.heap.size 29 2 v N (ls.flatMap objL)) ∧ (i = 15 → ∃ q, v = .slice (some ⟨q, 0, none⟩) 1 1 ∧ W.heap.size ≤ q ∧ Blk u q #[.slice none 0 0, .slice (some ⟨ys, 0, none⟩) 1 1] 29) ∧ (i = 16 → u.ownsRow W.heap.size 29 2 v (N + 1) (ls.flatMap objL ++ [.slice none 0 0, .slice (some ⟨ys, 0, none⟩) 1 1])) ∧ (i ≠ 11 → i ≠ 13 → i ≠ 15 → i ≠ 16 → v = f0 i)
      have hbel : ∀ (u u' : World) (j : Nat) (y : Value), Below u.heap.size u u' → V j y u → V j y u' := by
        intro u u' j y hb h
        refine ⟨fun e => ?_, fun e => owns_call (h.2.1 e) hb, fun e => ?_, fun e => owns_call (h.2.2.2.1 e) hb, h.2.2.2.2⟩
        · obtain ⟨q, h1, h2, h3⟩ := h.1 e
          exact ⟨q, h1, h2, h3.call hb⟩
        · obtain ⟨q, h1, h2, h3⟩ := h.2.2.1 e
          exact ⟨q, h1, h2, h3.call hb⟩
      refine wp_region_get V (fun _ _ u => From W.heap.size W u) [[], [0], [1], [2], [2], [2, 4], [2, 5], [2, 3, 6], [2, 7], [2, 8], [9], [10], [10], [10, 11, 12], [10], [10, 14], [10, 13, 15], [10, 16], [10, 17], [10, 18], [19], [20], [20, 21], [22]] [[], [0], [0, 1], [0, 1, 2], [0, 1, 2], [0, 1, 2, 4], [0, 1, 2, 4, 5], [0, 1, 2, 3, 4, 5, 6], [0, 1, 2, 3, 4, 5, 6, 7], [0, 1, 2, 3, 4, 5, 6, 7, 8], [0, 1, 2, 3, 4, 5, 6, 7, 8, 9], [0, 1, 2, 3, 4, 5, 6, 7, 8, 9, 10], [0, 1, 2, 3, 4, 5, 6, 7, 8, 9, 10], [0, 1, 2, 3, 4, 5, 6, 7, 8, 9, 10, 11, 12], [0, 1, 2, 3, 4, 5, 6, 7, 8, 9, 10], [0, 1, 2, 3, 4, 5, 6, 7, 8, 9, 10, 14], [0, 1, 2, 3, 4, 5, 6, 7, 8, 9, 10, 11, 12, 13, 14, 15], [0, 1, 2, 3, 4, 5, 6, 7, 8, 9, 10, 11, 12, 13, 14, 15, 16], [0, 1, 2, 3, 4, 5, 6, 7, 8, 9, 10, 11, 12, 13, 14, 15, 16, 17], [0, 1, 2, 3, 4, 5, 6, 7, 8, 9, 10, 11, 12, 13, 14, 15, 16, 17, 18], [0, 1, 2, 3, 4, 5, 6, 7, 8, 9, 10, 11, 12, 13, 14, 15, 16, 17, 18, 19], [0, 1, 2, 3, 4, 5, 6, 7, 8, 9, 10, 11, 12, 13, 14, 15, 16, 17, 18, 19, 20], [0, 1, 2, 3, 4, 5, 6, 7, 8, 9, 10, 11, 12, 13, 14, 15, 16, 17, 18, 19, 20, 21], [0, 1, 2, 3, 4, 5, 6, 7, 8, 9, 10, 11, 12, 13, 14, 15, 16, 17, 18, 19, 20, 21, 22]] [23] (by kernel_rfl) (by kernel_rfl) (by kernel_rfl) (by kernel_rfl) (by kernel_rfl) (From.start W).drew ?ho ?hq
      case ho =>
        refine ⟨?_, ?_, ?_, ?_, ?_, ?_, ?_, ?_, ?_, ?_, ?_, ?_, ?_, ?_, ?_, ?_, ?_, ?_, ?_, ?_, ?_, ?_, ?_, ?_, trivial⟩
        · intro n f a9 u K' hfr hn hl hS hv hK'
          have eA8 : a9.tmps.getD 4 undef = .bool true := hfr 4 (no_dst (by kernel_rfl))
          have eB8 : (a9.tmps[4]?).getD undef = .bool true := by simpa using eA8
          refine owe_run rfl (wp_val (v := .bool true) ?_ (hK' _ _ hS (fun _ _ _ h => h) (fun _ => ⟨fun e => absurd e (by decide), fun e => absurd e (by decide), fun e => absurd e (by decide), fun e => absurd e (by decide), fun _ _ _ _ => rfl⟩)))
          first
            | (go_simp; done)
            | (go_simp; rfl)
        · intro n f a9 u K' hfr hn hl hS hv hK'
          have eA0 : a9.tmps.getD 19 undef = .bool true := hv.1.2.2.2.2 (by decide) (by decide) (by decide) (by decide)
          have eB0 : (a9.tmps[19]?).getD undef = .bool true := by simpa using eA0
          refine owe_run rfl (wp_val (v := .bool false) ?_ (hK' _ _ hS (fun _ _ _ h => h) (fun _ => ⟨fun e => absurd e (by decide), fun e => absurd e (by decide), fun e => absurd e (by decide), fun e => absurd e (by decide), fun _ _ _ _ => rfl⟩)))
          first
            | (go_simp; done)
            | (go_simp; rfl)
        · intro n f a9 u K' hfr hn hl hS hv hK'
          have eA0 : a9.tmps.getD 20 undef = .bool false := hv.1.2.2.2.2 (by decide) (by decide) (by decide) (by decide)
          have eB0 : (a9.tmps[20]?).getD undef = .bool false := by simpa using eA0
          refine owe_run rfl (wp_val (v := .bool false) ?_ (hK' _ _ hS (fun _ _ _ h => h) (fun _ => ⟨fun e => absurd e (by decide), fun e => absurd e (by decide), fun e => absurd e (by decide), fun e => absurd e (by decide), fun _ _ _ _ => rfl⟩)))
          first
            | (go_simp; done)
            | (go_simp; rfl)
        · intro n f a9 u K' hfr hn hl hS hv hK'
          have eA8 : a9.tmps.getD 3 undef = .slice la N lc := hfr 3 (no_dst (by kernel_rfl))
          have eB8 : (a9.tmps[3]?).getD undef = .slice la N lc := by simpa using eA8
          have eA0 : a9.tmps.getD 21 undef = .bool false := hv.1.2.2.2.2 (by decide) (by decide) (by decide) (by decide)
          have eB0 : (a9.tmps[21]?).getD undef = .bool false := by simpa using eA0
          refine owe_want rfl (yielded_at rfl eA0) (wp_val (v := .slice la N lc) ?_ (hK' _ _ hS (fun _ _ _ h => h) (fun _ => ⟨fun e => absurd e (by decide), fun e => absurd e (by decide), fun e => absurd e (by decide), fun e => absurd e (by decide), fun _ _ _ _ => rfl⟩)))
          first
            | (go_simp; done)
            | (go_simp; rfl)
        · intro n f a9 u K' hfr hn hl hS hv hK'
          have eA8 : a9.tmps.getD 3 undef = .slice la N lc := hfr 3 (no_dst (by kernel_rfl))
          have eB8 : (a9.tmps[3]?).getD undef = .slice la N lc := by simpa using eA8
          have eA0 : a9.tmps.getD 21 undef = .bool false := hv.1.2.2.2.2 (by decide) (by decide) (by decide) (by decide)
          have eB0 : (a9.tmps[21]?).getD undef = .bool false := by simpa using eA0
          refine owe_want rfl (yielded_at rfl eA0) (wp_val (v := .slice la N lc) ?_ (hK' _ _ hS (fun _ _ _ h => h) (fun _ => ⟨fun e => absurd e (by decide), fun e => absurd e (by decide), fun e => absurd e (by decide), fun e => absurd e (by decide), fun _ _ _ _ => rfl⟩)))
          first
            | (go_simp; done)
            | (go_simp; rfl)
        · intro n f a9 u K' hfr hn hl hS hv hK'
          have eA0 : a9.tmps.getD 21 undef = .bool false := hv.1.2.2.2.2 (by decide) (by decide) (by decide) (by decide)
          have eB0 : (a9.tmps[21]?).getD undef = .bool false := by simpa using eA0
          have eA1 : a9.tmps.getD 23 undef = .slice la N lc := hv.2.1.2.2.2.2 (by decide) (by decide) (by decide) (by decide)
          have eB1 : (a9.tmps[23]?).getD undef = .slice la N lc := by simpa using eA1
          refine owe_want rfl (yielded_at rfl eA0) (wp_val (v := .int .i64 (N : Int)) ?_ (hK' _ _ hS (fun _ _ _ h => h) (fun _ => ⟨fun e => absurd e (by decide), fun e => absurd e (by decide), fun e => absurd e (by decide), fun e => absurd e (by decide), fun _ _ _ _ => rfl⟩)))
          first
            | (go_simp; done)
            | (go_simp; rfl)
        · intro n f a9 u K' hfr hn hl hS hv hK'
          have eA0 : a9.tmps.getD 21 undef = .bool false := hv.1.2.2.2.2 (by decide) (by decide) (by decide) (by decide)
          have eB0 : (a9.tmps[21]?).getD undef = .bool false := by simpa using eA0
          have eA1 : a9.tmps.getD 24 undef = .int .i64 (N : Int) := hv.2.1.2.2.2.2 (by decide) (by decide) (by decide) (by decide)
          have eB1 : (a9.tmps[24]?).getD undef = .int .i64 (N : Int) := by simpa using eA1
          refine owe_want rfl (yielded_at rfl eA0) (wp_val (v := .int .i64 (k2 : Int)) ?_ (hK' _ _ hS (fun _ _ _ h => h) (fun _ => ⟨fun e => absurd e (by decide), fun e => absurd e (by decide), fun e => absurd e (by decide), fun e => absurd e (by decide), fun _ _ _ _ => rfl⟩)))
          first
            | (go_simp; done)
            | (go_simp; rfl)
        · intro n f a9 u K' hfr hn hl hS hv hK'
          have eA0 : a9.tmps.getD 21 undef = .bool false := hv.1.2.2.2.2 (by decide) (by decide) (by decide) (by decide)
          have eB0 : (a9.tmps[21]?).getD undef = .bool false := by simpa using eA0
          have eA1 : a9.tmps.getD 22 undef = .slice la N lc := hv.2.1.2.2.2.2 (by decide) (by decide) (by decide) (by decide)
          have eB1 : (a9.tmps[22]?).getD undef = .slice la N lc := by simpa using eA1
          have eA2 : a9.tmps.getD 25 undef = .int .i64 (k2 : Int) := hv.2.2.1.2.2.2.2 (by decide) (by decide) (by decide) (by decide)
          have eB2 : (a9.tmps[25]?).getD undef = .int .i64 (k2 : Int) := by simpa using eA2
          refine owe_want rfl (yielded_at rfl eA0) (wp_val (v := half) ?_ (hK' _ _ hS (fun _ _ _ h => h) (fun _ => ⟨fun e => absurd e (by decide), fun e => absurd e (by decide), fun e => absurd e (by decide), fun e => absurd e (by decide), fun _ _ _ _ => rfl⟩)))
          first
            | (go_simp; done)
            | (go_simp; rfl)
        · intro n f a9 u K' hfr hn hl hS hv hK'
          have eA0 : a9.tmps.getD 21 undef = .bool false := hv.1.2.2.2.2 (by decide) (by decide) (by decide) (by decide)
          have eB0 : (a9.tmps[21]?).getD undef = .bool false := by simpa using eA0
          have eA1 : a9.tmps.getD 26 undef = half := hv.2.1.2.2.2.2 (by decide) (by decide) (by decide) (by decide)
          have eB1 : (a9.tmps[26]?).getD undef = half := by simpa using eA1
          refine owe_want rfl (yielded_at rfl eA0) (wp_fn rfl (args1 eA1) (enter_fn Try.func6 (by kernel_rfl) rfl _ _) ((i_ObjectsValid u _ (os.drop k2) (HHALF.out.below (Nat.le_refl _) hS.below) (fun o ho => HOLN.out o (List.mem_of_mem_drop ho))).mono ?_))
          rw [HDR.out]
          rintro e u2 ⟨rfl, k2'⟩
          exact ⟨_, rfl, hK' _ _ (hS.call k2') (fun j y hj h => hbel u u2 j y k2' h) (fun _ => ⟨fun e => absurd e (by decide), fun e => absurd e (by decide), fun e => absurd e (by decide), fun e => absurd e (by decide), fun _ _ _ _ => rfl⟩)⟩
        · intro n f a9 u K' hfr hn hl hS hv hK'
          have eA0 : a9.tmps.getD 21 undef = .bool false := hv.1.2.2.2.2 (by decide) (by decide) (by decide) (by decide)
          have eB0 : (a9.tmps[21]?).getD undef = .bool false := by simpa using eA0
          have eA1 : a9.tmps.getD 27 undef = .bool true := hv.2.1.2.2.2.2 (by decide) (by decide) (by decide) (by decide)
          have eB1 : (a9.tmps[27]?).getD undef = .bool true := by simpa using eA1
          refine owe_run rfl (wp_val (v := .bool true) ?_ (hK' _ _ hS (fun _ _ _ h => h) (fun _ => ⟨fun e => absurd e (by decide), fun e => absurd e (by decide), fun e => absurd e (by decide), fun e => absurd e (by decide), fun _ _ _ _ => rfl⟩)))
          first
            | (go_simp; done)
            | (go_simp; rfl)
        · intro n f a9 u K' hfr hn hl hS hv hK'
          have eA0 : a9.tmps.getD 28 undef = .bool true := hv.1.2.2.2.2 (by decide) (by decide) (by decide) (by decide)
          have eB0 : (a9.tmps[28]?).getD undef = .bool true := by simpa using eA0
          refine owe_run rfl (wp_val (v := .bool true) ?_ (hK' _ _ hS (fun _ _ _ h => h) (fun _ => ⟨fun e => absurd e (by decide), fun e => absurd e (by decide), fun e => absurd e (by decide), fun e => absurd e (by decide), fun _ _ _ _ => rfl⟩)))
          first
            | (go_simp; done)
            | (go_simp; rfl)
        · intro n f a9 u K' hfr hn hl hS hv hK'
          have eA0 : a9.tmps.getD 29 undef = .bool true := hv.1.2.2.2.2 (by decide) (by decide) (by decide) (by decide)
          have eB0 : (a9.tmps[29]?).getD undef = .bool true := by simpa using eA0
          refine owe_want rfl (yielded_at rfl eA0) (wp_val (v := .slice (some ⟨u.heap.size, 0, none⟩) 0 0) (w' := u.alloc (.cells #[] 29)) ?_ (hK' _ _ (hS.alloc _) (fun j y hj h => hbel u _ j y ((From.start u).alloc _).below h) (fun _ => ⟨fun _ => ⟨_, rfl, hS.le, Blk.new u _ _⟩, fun e => absurd e (by decide), fun e => absurd e (by decide), fun e => absurd e (by decide), fun e => absurd rfl e⟩)))
          first
            | (go_simp; done)
            | (go_simp; rfl)
        · intro n f a9 u K' hfr hn hl hS hv hK'
          have eA8 : a9.tmps.getD 3 undef = .slice la N lc := hfr 3 (no_dst (by kernel_rfl))
          have eB8 : (a9.tmps[3]?).getD undef = .slice la N lc := by simpa using eA8
          have eA0 : a9.tmps.getD 29 undef = .bool true := hv.1.2.2.2.2 (by decide) (by decide) (by decide) (by decide)
          have eB0 : (a9.tmps[29]?).getD undef = .bool true := by simpa using eA0
          refine owe_want rfl (yielded_at rfl eA0) (wp_val (v := .slice la N lc) ?_ (hK' _ _ hS (fun _ _ _ h => h) (fun _ => ⟨fun e => absurd e (by decide), fun e => absurd e (by decide), fun e => absurd e (by decide), fun e => absurd e (by decide), fun _ _ _ _ => rfl⟩)))
          first
            | (go_simp; done)
            | (go_simp; rfl)
        · intro n f a9 u K' hfr hn hl hS hv hK'
          have eA0 : a9.tmps.getD 29 undef = .bool true := hv.1.2.2.2.2 (by decide) (by decide) (by decide) (by decide)
          have eB0 : (a9.tmps[29]?).getD undef = .bool true := by simpa using eA0
          obtain ⟨q, h0, h1, h2⟩ := hv.2.1.1 rfl
          have h3 : a9.tmps.getD 31 undef = .slice la N lc := hv.2.2.1.2.2.2.2 (by decide) (by decide) (by decide) (by decide)
          have ho : u.ownsRow W.heap.size 29 2 (.slice (some ⟨q, 0, none⟩) 0 0) 0 [] := ⟨rfl, .inr ⟨q, 0, #[], rfl, h1, h2, Nat.le_refl _, Nat.zero_le _, rfl, rfl⟩⟩
          obtain ⟨v', u', hrun, hown, hgr⟩ := run_append_src u 23 23 23 W.heap.size 29 j0 _ Try.underlying23 hi hz0 (by rw [hz1]; rfl) (by rw [hz1]; decide) _ 0 [] (by rw [hz1]; exact ho) (.slice la N lc) N (ls.flatMap objL) (by rw [hz1]; exact src_reads Try.underlying23 (Reads.below HRD.out (Nat.le_refl _) hS.below) HONE.out) (by unfold maxLen; omega) (by rw [hz2]; omega) hS.le
          rw [hz1, Nat.zero_add, List.nil_append] at hown
          refine owe_want rfl (yielded_at rfl eA0) (wp_val (v := v') (w' := u') ?_ (hK' _ _ (hS.grown hgr (fun b hb => by simp [Value.ownBlock] at hb; omega)) (fun j y hj h => ?_) (fun _ => ⟨fun e => absurd e (by decide), fun _ => hown, fun e => absurd e (by decide), fun e => absurd e (by decide), fun _ e => absurd rfl e⟩)))
          · simp at h0 h3 hrun
            simp [execOp, resolve, invoke, builtin, Act.eval, h0, h3, hrun]
          · have hq : ∀ p c t, Blk u p c t → c ≠ #[] → Blk u' p c t := fun p c t hb hne => hb.grown hgr (fun e => by
              simp only [Value.ownBlock, Option.some.injEq] at e
              subst e
              have h7 : u.heap[p]? = some (.cells #[] 29 (0, 0)) := h2
              have h8 : u.heap[p]? = some (.cells c t (0, 0)) := hb
              rw [h7] at h8
              simp only [Option.some.injEq, Obj.cells.injEq] at h8
              exact hne h8.1.symm)
            refine ⟨fun e => by subst e; exact absurd hj (by decide), fun e => by subst e; exact absurd hj (by decide), fun e => ?_, fun e => by subst e; exact absurd hj (by decide), h.2.2.2.2⟩
            obtain ⟨p, h4, h5, h6⟩ := h.2.2.1 e
            exact ⟨p, h4, h5, hq p _ _ h6 (by simp)⟩
        · intro n f a9 u K' hfr hn hl hS hv hK'
          have eA8 : a9.tmps.getD 5 undef = .pointer (some ⟨tb, 0, none⟩) := hfr 5 (no_dst (by kernel_rfl))
          have eB8 : (a9.tmps[5]?).getD undef = .pointer (some ⟨tb, 0, none⟩) := by simpa using eA8
          have eA0 : a9.tmps.getD 29 undef = .bool true := hv.1.2.2.2.2 (by decide) (by decide) (by decide) (by decide)
          have eB0 : (a9.tmps[29]?).getD undef = .bool true := by simpa using eA0
          have hbx := HTB.out.call hS.below
          have cu := hbx.cell
          have zu := hbx.lt
          refine owe_want rfl (yielded_at rfl eA0) (wp_val (v := .agg #[.slice none 0 0, .slice (some ⟨ys, 0, none⟩) 1 1]) ?_ (hK' _ _ hS (fun _ _ _ h => h) (fun _ => ⟨fun e => absurd e (by decide), fun e => absurd e (by decide), fun e => absurd e (by decide), fun e => absurd e (by decide), fun _ _ _ _ => rfl⟩)))
          first
            | (go_simp; done)
            | (go_simp; rfl)
        · intro n f a9 u K' hfr hn hl hS hv hK'
          have eA0 : a9.tmps.getD 29 undef = .bool true := hv.1.2.2.2.2 (by decide) (by decide) (by decide) (by decide)
          have eB0 : (a9.tmps[29]?).getD undef = .bool true := by simpa using eA0
          have eA1 : a9.tmps.getD 33 undef = .agg #[.slice none 0 0, .slice (some ⟨ys, 0, none⟩) 1 1] := hv.2.1.2.2.2.2 (by decide) (by decide) (by decide) (by decide)
          have eB1 : (a9.tmps[33]?).getD undef = .agg #[.slice none 0 0, .slice (some ⟨ys, 0, none⟩) 1 1] := by simpa using eA1
          refine owe_want rfl (yielded_at rfl eA0) (wp_val (v := .slice (some ⟨u.heap.size, 0, none⟩) 1 1) (w' := u.alloc (.cells #[.slice none 0 0, .slice (some ⟨ys, 0, none⟩) 1 1] 29)) ?_ (hK' _ _ (hS.alloc _) (fun j y hj h => hbel u _ j y ((From.start u).alloc _).below h) (fun _ => ⟨fun e => absurd e (by decide), fun e => absurd e (by decide), fun _ => ⟨_, rfl, hS.le, Blk.new u _ _⟩, fun e => absurd e (by decide), fun _ _ e => absurd rfl e⟩)))
          first
            | (go_simp; done)
            | (go_simp; rfl)
        · intro n f a9 u K' hfr hn hl hS hv hK'
          have eA0 : a9.tmps.getD 29 undef = .bool true := hv.1.2.2.2.2 (by decide) (by decide) (by decide) (by decide)
          have eB0 : (a9.tmps[29]?).getD undef = .bool true := by simpa using eA0
          have h0 := hv.2.1.2.1 rfl
          obtain ⟨q, h3, h1, h2⟩ := hv.2.2.1.2.2.1 rfl
          obtain ⟨v', u', hrun, hown, hgr⟩ := run_append_src u 23 23 23 W.heap.size 29 j0 _ Try.underlying23 hi hz0 (by rw [hz1]; rfl) (by rw [hz1]; decide) _ _ _ (by rw [hz1]; exact h0) (.slice (some ⟨q, 0, none⟩) 1 1) 1 [.slice none 0 0, .slice (some ⟨ys, 0, none⟩) 1 1] (by rw [hz1]; exact src_blk Try.underlying23 u q [.slice none 0 0, .slice (some ⟨ys, 0, none⟩) 1 1] 2 1 1 29 h2 rfl (by intro x hx; simp only [List.mem_cons, List.not_mem_nil, or_false] at hx; rcases hx with rfl | rfl <;> rfl)) (by unfold maxLen; omega) (by rw [hz2]; omega) hS.le
          rw [hz1] at hown
          refine owe_want rfl (yielded_at rfl eA0) (wp_val (v := v') (w' := u') ?_ (hK' _ _ (hS.grown hgr (owns_block h0)) (fun j y hj h => ?_) (fun _ => ⟨fun e => absurd e (by decide), fun e => absurd e (by decide), fun e => absurd e (by decide), fun _ => hown, fun _ _ _ e => absurd rfl e⟩)))
          · simp at h3 hrun
            simp [execOp, resolve, invoke, builtin, Act.eval, h3, hrun]
          · exact ⟨fun e => by subst e; exact absurd hj (by decide), fun e => by subst e; exact absurd hj (by decide), fun e => by subst e; exact absurd hj (by decide), fun e => by subst e; exact absurd hj (by decide), h.2.2.2.2⟩
        · intro n f a9 u K' hfr hn hl hS hv hK'
          have eA0 : a9.tmps.getD 29 undef = .bool true := hv.1.2.2.2.2 (by decide) (by decide) (by decide) (by decide)
          have eB0 : (a9.tmps[29]?).getD undef = .bool true := by simpa using eA0
          have h0 := hv.2.1.2.2.2.1 rfl
          have hob : ObjsAt u (a9.tmps.getD 35 undef) (os ++ [(⟨[], [⟨⟨#[]⟩, 0, 0, 0⟩]⟩ : ObjD)]) := HBADA.out u _ hS.below h0
          refine owe_want rfl (yielded_at rfl eA0) (wp_fn rfl (args1 (v := a9.tmps.getD 35 undef) rfl) (enter_fn Try.func6 (by kernel_rfl) rfl _ _) ((i_ObjectsValid u _ _ hob HBADL.out).mono ?_))
          rw [HBADB.out]
          rintro e u2 ⟨rfl, k2'⟩
          exact ⟨_, rfl, hK' _ _ (hS.call k2') (fun j y hj h => hbel u u2 j y k2' h) (fun _ => ⟨fun e => absurd e (by decide), fun e => absurd e (by decide), fun e => absurd e (by decide), fun e => absurd e (by decide), fun _ _ _ _ => rfl⟩)⟩
        · intro n f a9 u K' hfr hn hl hS hv hK'
          have eA0 : a9.tmps.getD 29 undef = .bool true := hv.1.2.2.2.2 (by decide) (by decide) (by decide) (by decide)
          have eB0 : (a9.tmps[29]?).getD undef = .bool true := by simpa using eA0
          have eA1 : a9.tmps.getD 36 undef = .bool false := hv.2.1.2.2.2.2 (by decide) (by decide) (by decide) (by decide)
          have eB1 : (a9.tmps[36]?).getD undef = .bool false := by simpa using eA1
          refine owe_want rfl (yielded_at rfl eA0) (wp_val (v := .bool true) ?_ (hK' _ _ hS (fun _ _ _ h => h) (fun _ => ⟨fun e => absurd e (by decide), fun e => absurd e (by decide), fun e => absurd e (by decide), fun e => absurd e (by decide), fun _ _ _ _ => rfl⟩)))
          first
            | (go_simp; done)
            | (go_simp; rfl)
        · intro n f a9 u K' hfr hn hl hS hv hK'
          have eA0 : a9.tmps.getD 29 undef = .bool true := hv.1.2.2.2.2 (by decide) (by decide) (by decide) (by decide)
          have eB0 : (a9.tmps[29]?).getD undef = .bool true := by simpa using eA0
          have eA1 : a9.tmps.getD 37 undef = .bool true := hv.2.1.2.2.2.2 (by decide) (by decide) (by decide) (by decide)
          have eB1 : (a9.tmps[37]?).getD undef = .bool true := by simpa using eA1
          refine owe_run rfl (wp_val (v := .bool true) ?_ (hK' _ _ hS (fun _ _ _ h => h) (fun _ => ⟨fun e => absurd e (by decide), fun e => absurd e (by decide), fun e => absurd e (by decide), fun e => absurd e (by decide), fun _ _ _ _ => rfl⟩)))
          first
            | (go_simp; done)
            | (go_simp; rfl)
        · intro n f a9 u K' hfr hn hl hS hv hK'
          have eA0 : a9.tmps.getD 38 undef = .bool true := hv.1.2.2.2.2 (by decide) (by decide) (by decide) (by decide)
          have eB0 : (a9.tmps[38]?).getD undef = .bool true := by simpa using eA0
          refine owe_run rfl (wp_val (v := .bool true) ?_ (hK' _ _ hS (fun _ _ _ h => h) (fun _ => ⟨fun e => absurd e (by decide), fun e => absurd e (by decide), fun e => absurd e (by decide), fun e => absurd e (by decide), fun _ _ _ _ => rfl⟩)))
          first
            | (go_simp; done)
            | (go_simp; rfl)
        · intro n f a9 u K' hfr hn hl hS hv hK'
          have eA0 : a9.tmps.getD 39 undef = .bool true := hv.1.2.2.2.2 (by decide) (by decide) (by decide) (by decide)
          have eB0 : (a9.tmps[39]?).getD undef = .bool true := by simpa using eA0
          refine owe_want rfl (yielded_at rfl eA0) (wp_fn (vs := #[]) rfl (by simp) (enter_fn Try.func8 (by kernel_rfl) rfl _ _) ((alive_any u).mono ?_))
          rintro e u2 ⟨rfl, rfl⟩
          exact ⟨_, rfl, hK' _ _ hS (fun _ _ _ h => h) (fun _ => ⟨fun e => absurd e (by decide), fun e => absurd e (by decide), fun e => absurd e (by decide), fun e => absurd e (by decide), fun _ _ _ _ => rfl⟩)⟩
        · intro n f a9 u K' hfr hn hl hS hv hK'
          have eA0 : a9.tmps.getD 39 undef = .bool true := hv.1.2.2.2.2 (by decide) (by decide) (by decide) (by decide)
          have eB0 : (a9.tmps[39]?).getD undef = .bool true := by simpa using eA0
          have eA1 : a9.tmps.getD 40 undef = .bool true := hv.2.1.2.2.2.2 (by decide) (by decide) (by decide) (by decide)
          have eB1 : (a9.tmps[40]?).getD undef = .bool true := by simpa using eA1
          refine owe_run rfl (wp_val (v := .bool true) ?_ (hK' _ _ hS (fun _ _ _ h => h) (fun _ => ⟨fun e => absurd e (by decide), fun e => absurd e (by decide), fun e => absurd e (by decide), fun e => absurd e (by decide), fun _ _ _ _ => rfl⟩)))
          first
            | (go_simp; done)
            | (go_simp; rfl)
        · intro n f a9 u K' hfr hn hl hS hv hK'
          have eA0 : a9.tmps.getD 41 undef = .bool true := hv.1.2.2.2.2 (by decide) (by decide) (by decide) (by decide)
          have eB0 : (a9.tmps[41]?).getD undef = .bool true := by simpa using eA0
          refine owe_run rfl (wp_val (v := .bool true) ?_ (hK' _ _ hS (fun _ _ _ h => h) (fun _ => ⟨fun e => absurd e (by decide), fun e => absurd e (by decide), fun e => absurd e (by decide), fun e => absurd e (by decide), fun _ _ _ _ => rfl⟩)))
          first
            | (go_simp; done)
            | (go_simp; rfl)
      case hq =>
        intro gg u hS hv
        have e23 : gg 23 = .bool true := (hv.2.2.2.2.2.2.2.2.2.2.2.2.2.2.2.2.2.2.2.2.2.2.2.1 (by decide)).2.2.2.2 (by decide) (by decide) (by decide) (by decide)
        have HF9 := Lib.hid (HFW.out.call hS.below)
        clear hS hv hbel V f0
        simp only [List.map, putG, List.setIfInBounds_toArray, List.set_cons_succ, List.set_cons_zero, Nat.zero_add, Nat.reduceAdd, e23]
        go_wp2_with fail
        go_ret
        exact ⟨rfl, HF9.out.below⟩
  · subst hv
    have hl' : (1048576 : Int) < (l.length : Int) := by omega
    clear hl h
    unfold maxLen at hmax
    go_enter Try.func3, Try.ntmps3
    go_wp2_with fail
    go_ret
    exact ⟨rfl, Below.refl _ _⟩
set_option maxRecDepth 100000 in
theorem lifted_FnObjectsValid (os : Os) (started : os.Started) (H : Type) (enc : TypeId × Value → H) :
    ReturnsInHanded {} Try.checked os 3 .any (Rows.fnObjectsValidSpec.pre6 enc Try.prog Try.f3 Rows.fnObjectsValidRow.domain false) (Rows.fnObjectsValidSpec.post enc Try.prog Try.f3 false true false false) := by
  refine returnsInHanded_of_change (C := Try.checked) own_knob started (by kernel_rfl) Try.func3
    (ChangeSpec.witness6 (enc := enc) (C := Try.checked) false ⟨#[], #[.slice none 0 0], []⟩ 8 (by kernel_rfl) (by kernel_rfl) (by kernel_rfl) (by kernel_rfl)) ?_
  intro W base args ds gs before hval0 hW hcnd _
  have hval : ∀ (j : Nat) t v, Try.f3.params[j]? = some t → args[j]? = some v → Value.okWide Try.prog W .any base t v := hval0
  have hW' := hW
  obtain ⟨p, q, hA0, hV, rfl, hfz, hnd⟩ := hW
  have hA : DataW.TrodAll enc Try.prog W 0 (fun _ => true) true Try.f3.params.toList args.toList ds p := hA0
  rw [Try.params3] at hA hval
  obtain ⟨v0, vs0, d0, ds0, p0, q0, hargs, rfl, rfl, h0, r0⟩ := trodAll_cons hA
  obtain ⟨rfl, rfl, rfl⟩ := trodAll_nil r0
  obtain rfl : args = #[v0] := by cases args; simp_all
  obtain ⟨rfl, rfl⟩ := trodVars_none hV
  clear hA0 hval0
  have k0 := h0
  have t0 : ∀ x ∈ p0, x.block < W.heap.size := fun x hx => by simpa using hW'.lt x (by simp [hx])
  obtain ⟨l0, o0⟩ := open_bytesAt (hval 0 22 v0 rfl rfl) h0
  refine (walk_FnObjectsValid W v0 l0 o0).mono fun e W' ⟨he, hg⟩ => ?_
  subst he
  exact ⟨_, rfl, _, _, _, _, _, _, hW', (trodAll_cons_mk (shut_bool Try.underlying4 _) trodAll_mk0), (trodAll_cons_mk (Below.trod laid_out (by kernel_rfl) (of_decide_eq_true (by kernel_rfl)) k0 hg t0) trodAll_mk0), rfl, hg.frame _, fun h => by cases h⟩

set_option maxHeartbeats 2000000 in
theorem facts_FnObjectsValid : joinedFacts Try.prog 3 Try.f3 Rows.fnObjectsValidSpec Rows.fnObjectsValidRow = true := by
  unfold joinedFacts
  simp only [Bool.and_eq_true]
  repeat' apply And.intro
  all_goals first
    | with_reducible exact laid_out
    | with_reducible exact may_enter
    | (with_reducible rw [lifts_final]; as_aux_lemma => kernel_rfl)
    | (with_reducible rw [make_cut]; as_aux_lemma => kernel_rfl)
    | as_aux_lemma => kernel_rfl
theorem inst_FnObjectsValid : Try.f3.isInstance Try.prog Rows.fnObjectsValidRow.origin Rows.fnObjectsValidRow.targs := of_decide_eq_true (by kernel_rfl)
theorem wrap_FnObjectsValid : Try.f3.isWrapper Try.prog Rows.fnObjectsValidRow.wrapper Rows.fnObjectsValidRow.mainSum := by
  unfold Func.isWrapper
  first | (rw [if_pos (by decide +kernel)]; kernel_rfl) | (rw [if_neg (by decide +kernel)]; exact ⟨rfl, rfl⟩)
theorem named_FnObjectsValid : Try.prog.funcNamed Rows.fnObjectsValidRow.func = some 3 := by kernel_rfl
theorem over_FnObjectsValid : Rows.fnObjectsValidRow.holds Try.pinned (OpenSpec.ofChange Rows.fnObjectsValidSpec) :=
  OpenClaim.holds_of_wide 3 Try.f3 rfl rfl rfl rfl rfl rfl rfl ⟨rfl, rfl, rfl, rfl, rfl⟩ rfl rfl rfl rfl rfl named_FnObjectsValid Try.func3 facts_FnObjectsValid inst_FnObjectsValid wrap_FnObjectsValid
    (fun os started H enc _ => lifted_FnObjectsValid os started H enc)

/-- The statement. -/
theorem holds_FnObjectsValid : Rows.FnObjectsValidSaid :=
  over_FnObjectsValid
#print axioms holds_FnObjectsValid
end Go.Proofs.Ytpgmmjdianoaeaa
