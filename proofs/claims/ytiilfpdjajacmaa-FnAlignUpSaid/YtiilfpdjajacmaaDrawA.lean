/- What the statement on aligned numbers draws: one statement with four picks whose order is open. -/
import Derived.Test.YtiilfpdjajacmaaDrawK
import Derived.Test.YtiilfpdjajacmaaInvK
namespace Go.Proofs.Ytiilfpdjajacmaa
open Go.ChangeShapes Go.WideShapes Go.ChangeAt Go.RowKit Go.Joins
set_option linter.unusedSimpArgs false
set_option linter.unusedVariables false
set_option maxRecDepth 100000
/-- A whole number in a range; a literal of such numbers; the address of one of them. -/
def VInt (lo hi : Int) (_ : World) (v : Value) : Prop := ∃ x, v = .int .i64 x ∧ lo ≤ x ∧ x ≤ hi
def VLit (g n : Nat) (lo hi : Int) (u : World) (v : Value) : Prop := ∃ k c t, v = .slice (some ⟨k, 0, none⟩) n n ∧ k ≠ g ∧ Blk u k c t ∧ c.size = n ∧ ∀ z ∈ c.toList, ∃ y, z = .int .i64 y ∧ lo ≤ y ∧ y ≤ hi
def VAdr (g : Nat) (lo hi : Int) (u : World) (v : Value) : Prop := ∃ k o y, v = .pointer (some ⟨k, o, none⟩) ∧ k ≠ g ∧ u.cell? ⟨k, o, none⟩ = some (.int .i64 y) ∧ lo ≤ y ∧ y ≤ hi
theorem VLit.grown {g n : Nat} {lo hi : Int} {u u' : World} {v : Value} (h : VLit g n lo hi u v) (hg : u.grownBy u' (some g)) : VLit g n lo hi u' v := by
  obtain ⟨k, c, t, h1, h2, h3, h4⟩ := h
  exact ⟨k, c, t, h1, h2, h3.grown hg (fun e => h2 (by simpa using e)), h4⟩
theorem VAdr.grown {g : Nat} {lo hi : Int} {u u' : World} {v : Value} (h : VAdr g lo hi u v) (hg : u.grownBy u' (some g)) : VAdr g lo hi u' v := by
  obtain ⟨k, o, y, h1, h2, h3, h4⟩ := h
  exact ⟨k, o, y, h1, h2, hg.cell h3 (fun e => h2 (by simpa using e)), h4⟩
theorem vlit_adr {g n : Nat} {lo hi : Int} {u : World} {k : Nat} {c : Array Value} {t : TypeId} (h2 : k ≠ g) (h3 : Blk u k c t) (h4 : c.size = n) (h5 : ∀ z ∈ c.toList, ∃ y, z = .int .i64 y ∧ lo ≤ y ∧ y ≤ hi) (x : Int) (hx : 0 ≤ x) (hn : x < n) :
    VAdr g lo hi u (.pointer (some ⟨k, x.toNat, none⟩)) := by
  obtain ⟨z, hz, hc⟩ := lit_at h3 x hx (by omega)
  obtain ⟨y, rfl, h6, h7⟩ := h5 z hz
  exact ⟨k, x.toNat, y, rfl, h2, hc, h6, h7⟩
/-- The reader's state in such a region. -/
def PickS (g q0 : Nat) (w : World) (n : Nat) (u : World) : Prop := ∃ q, q ≤ q0 + n ∧ Drawn g q w u
theorem PickS.stay {g q0 n : Nat} {w u : World} (h : PickS g q0 w n u) : PickS g q0 w (n + 1) u := by
  obtain ⟨q, h1, h2⟩ := h
  exact ⟨q, by omega, h2⟩
theorem PickS.alloc {g q0 n : Nat} {w u : World} (h : PickS g q0 w n u) (o : Obj) : PickS g q0 w (n + 1) (u.alloc o) := by
  obtain ⟨q, h1, h2⟩ := h
  exact ⟨q, by omega, h2.alloc o⟩
theorem grown_refl (u : World) (row : Option Nat) : u.grownBy u row := ⟨rfl, rfl, rfl, Nat.le_refl _, fun _ _ _ => rfl⟩
set_option maxHeartbeats 1000000 in
theorem drawAlignUp_any (w : World) (v : Value) (l : List UInt8) (h : BytesAt w v l) :
    Calls Try.prog 32 #[v] w (DrawB (TwoInts (-1) 1000001 0 16) w) := by
  go_enter Try.func32, Try.ntmps32
  go_wp2_with fail
  refine (l20Open_any _ _ l h).mono ?_
  rintro e w1 ⟨g, rfl, hg, hR, hb⟩
  have HF := Lib.hid ((From.start w).call hb)
  have HR := Lib.hid hR
  clear hb hR h
  go_wp2_with fail
  let V : Nat → Value → World → Prop := fun i v u => match i with
      | 0 => v = .pointer (some ⟨g, 0, none⟩)
      | 1 => VInt 0 255 u v
      | 2 => v = .pointer (some ⟨g, 0, none⟩)
      | 3 => VInt 0 255 u v
      | 4 => VInt 0 254235 u v
      | 5 => VLit g 5 (-1) 1000001 u v
      | 6 => VLit g 7 0 4 u v
      | 7 => v = .pointer (some ⟨g, 0, none⟩)
      | 8 => VInt 0 6 u v
      | 9 => VAdr g 0 4 u v
      | 10 => VInt 0 4 u v
      | 11 => VAdr g (-1) 1000001 u v
      | 12 => VInt (-1) 1000001 u v
      | 13 => VLit g 7 0 16 u v
      | 14 => VLit g 8 0 6 u v
      | 15 => v = .pointer (some ⟨g, 0, none⟩)
      | 16 => VInt 0 7 u v
      | 17 => VAdr g 0 6 u v
      | 18 => VInt 0 6 u v
      | 19 => VAdr g 0 16 u v
      | 20 => VInt 0 16 u v
      | 21 => VInt (-1) 1000001 u v
      | 22 => VInt 0 16 u v
      | _ => True
  have hqs : ∀ n q, n < 23 → q ≤ 0 + n → q ≤ 1073741824 := by intro n q h1 h2; omega
  refine wp_region_go V (PickS g 0 w1) (fun u u' => u.grownBy u' (some g)) [[], [0], [], [2], [3], [1, 4], [], [], [7], [6, 8], [9], [5, 10], [11], [], [], [], [15], [14, 16], [17], [13, 18], [19], [12], [20]] (by kernel_rfl) (by kernel_rfl) (by kernel_rfl) (by kernel_rfl) ⟨0, Nat.le_refl _, (Drawn.start HR.out).more (World.grownBy_drewN w1 1 _) (HR.out.drewN 1)⟩ ?hV ?ho ?hq
  case hV =>
    intro i v u u' h hr
    by_cases hi : i < 23
    · have hi' : i = 0 ∨ i = 1 ∨ i = 2 ∨ i = 3 ∨ i = 4 ∨ i = 5 ∨ i = 6 ∨ i = 7 ∨ i = 8 ∨ i = 9 ∨ i = 10 ∨ i = 11 ∨ i = 12 ∨ i = 13 ∨ i = 14 ∨ i = 15 ∨ i = 16 ∨ i = 17 ∨ i = 18 ∨ i = 19 ∨ i = 20 ∨ i = 21 ∨ i = 22 := by omega
      rcases hi' with rfl | rfl | rfl | rfl | rfl | rfl | rfl | rfl | rfl | rfl | rfl | rfl | rfl | rfl | rfl | rfl | rfl | rfl | rfl | rfl | rfl | rfl | rfl
      all_goals first
        | exact h
        | exact VLit.grown h hr
        | exact VAdr.grown h hr
    · obtain ⟨j, rfl⟩ : ∃ j, i = j + 23 := ⟨i - 23, by omega⟩
      exact trivial
  case ho =>
    refine ⟨?_, ?_, ?_, ?_, ?_, ?_, ?_, ?_, ?_, ?_, ?_, ?_, ?_, ?_, ?_, ?_, ?_, ?_, ?_, ?_, ?_, ?_, ?_, trivial⟩
    · intro n a u K hfr hn hS hv hK
      have e4 : a.tmps.getD 4 undef = .pointer (some ⟨g, 0, none⟩) := hfr 4 (not_dst (by kernel_rfl))
      refine owe_run rfl (wp_val (v := .pointer (some ⟨g, 0, none⟩)) ?_ (hK _ _ hS.stay (grown_refl _ _) (fun _ => rfl)))
      first
          | (go_simp; done)
          | (go_simp; rfl)
    · intro n a u K hfr hn hS hv hK
      have h0 : a.tmps.getD 7 undef = .pointer (some ⟨g, 0, none⟩) := hv.1
      obtain ⟨q, hq, hD⟩ := hS
      refine owe_run rfl (wp_fn rfl (args2 h0 rfl) (enter_fn Try.func47 (by kernel_rfl) rfl _ _) ((pick_in u u g q (Drawn.start hD.rd) (hqs n q hn hq) 256 (by decide) (by decide)).mono ?_))
      rintro e u1 ⟨x, rfl, hx0, hx1, hD2⟩
      exact ⟨_, rfl, hK _ _ ⟨q + 1, by omega, hD.next hD2⟩ hD2.grow (fun _ => ⟨x, rfl, hx0, by omega⟩)⟩
    · intro n a u K hfr hn hS hv hK
      have e4 : a.tmps.getD 4 undef = .pointer (some ⟨g, 0, none⟩) := hfr 4 (not_dst (by kernel_rfl))
      refine owe_run rfl (wp_val (v := .pointer (some ⟨g, 0, none⟩)) ?_ (hK _ _ hS.stay (grown_refl _ _) (fun _ => rfl)))
      first
          | (go_simp; done)
          | (go_simp; rfl)
    · intro n a u K hfr hn hS hv hK
      have h0 : a.tmps.getD 9 undef = .pointer (some ⟨g, 0, none⟩) := hv.1
      obtain ⟨q, hq, hD⟩ := hS
      refine owe_run rfl (wp_fn rfl (args2 h0 rfl) (enter_fn Try.func47 (by kernel_rfl) rfl _ _) ((pick_in u u g q (Drawn.start hD.rd) (hqs n q hn hq) 256 (by decide) (by decide)).mono ?_))
      rintro e u1 ⟨x, rfl, hx0, hx1, hD2⟩
      exact ⟨_, rfl, hK _ _ ⟨q + 1, by omega, hD.next hD2⟩ hD2.grow (fun _ => ⟨x, rfl, hx0, by omega⟩)⟩
    · intro n a u K hfr hn hS hv hK
      obtain ⟨x, h0, hx0, hx1⟩ : VInt 0 255 u (a.tmps.getD 10 undef) := hv.1
      have hw : IntKind.i64.wrap (x * 997) = x * 997 := IntWalk.i64_in _ (by omega)
      refine owe_run rfl (wp_val (v := .int .i64 (x * 997)) ?_ (hK _ _ hS.stay (grown_refl _ _) (fun _ => ⟨_, rfl, by omega, by omega⟩)))
      first
          | (go_simp; done)
          | (go_simp; rfl)
    · intro n a u K hfr hn hS hv hK
      obtain ⟨x, h0, hx0, hx1⟩ : VInt 0 255 u (a.tmps.getD 8 undef) := hv.1
      obtain ⟨y, h1, hy0, hy1⟩ : VInt 0 254235 u (a.tmps.getD 11 undef) := hv.2.1
      have h0' : (a.tmps[8]?).getD undef = .int .i64 x := by simpa using h0
      have h1' : (a.tmps[11]?).getD undef = .int .i64 y := by simpa using h1
      have hz := (show g < u.heap.size from by obtain ⟨q, _, hD⟩ := hS; exact hD.lt)
      refine owe_run rfl (wp_val (v := .slice (some ⟨u.heap.size, 0, none⟩) 5 5) (w' := u.alloc (.cells #[.int .i64 x, .int .i64 y, .int .i64 1000000, .int .i64 1000001, .int .i64 (-1)] 3)) ?_ (hK _ _ (hS.alloc _) (World.grownBy_alloc u _ _) (fun _ => ⟨_, _, _, rfl, by omega, Blk.new u _ _, rfl, by intro z hz; simp only [List.mem_cons, List.not_mem_nil, or_false] at hz; rcases hz with rfl | rfl | rfl | rfl | rfl <;> exact ⟨_, rfl, by omega, by omega⟩⟩)))
      first
          | (go_simp; done)
          | (go_simp; rfl)
    · intro n a u K hfr hn hS hv hK
      have hz := (show g < u.heap.size from by obtain ⟨q, _, hD⟩ := hS; exact hD.lt)
      refine owe_run rfl (wp_val (v := .slice (some ⟨u.heap.size, 0, none⟩) 7 7) (w' := u.alloc (.cells #[.int .i64 0, .int .i64 0, .int .i64 0, .int .i64 1, .int .i64 2, .int .i64 3, .int .i64 4] 3)) ?_ (hK _ _ (hS.alloc _) (World.grownBy_alloc u _ _) (fun _ => ⟨_, _, _, rfl, by omega, Blk.new u _ _, rfl, by intro z hz; simp only [List.mem_cons, List.not_mem_nil, or_false] at hz; rcases hz with rfl | rfl | rfl | rfl | rfl | rfl | rfl <;> exact ⟨_, rfl, by decide, by decide⟩⟩)))
      first
          | (go_simp; done)
          | (go_simp; rfl)
    · intro n a u K hfr hn hS hv hK
      have e4 : a.tmps.getD 4 undef = .pointer (some ⟨g, 0, none⟩) := hfr 4 (not_dst (by kernel_rfl))
      refine owe_run rfl (wp_val (v := .pointer (some ⟨g, 0, none⟩)) ?_ (hK _ _ hS.stay (grown_refl _ _) (fun _ => rfl)))
      first
          | (go_simp; done)
          | (go_simp; rfl)
    · intro n a u K hfr hn hS hv hK
      have h0 : a.tmps.getD 14 undef = .pointer (some ⟨g, 0, none⟩) := hv.1
      obtain ⟨q, hq, hD⟩ := hS
      refine owe_run rfl (wp_fn rfl (args2 h0 rfl) (enter_fn Try.func47 (by kernel_rfl) rfl _ _) ((pick_in u u g q (Drawn.start hD.rd) (hqs n q hn hq) 7 (by decide) (by decide)).mono ?_))
      rintro e u1 ⟨x, rfl, hx0, hx1, hD2⟩
      exact ⟨_, rfl, hK _ _ ⟨q + 1, by omega, hD.next hD2⟩ hD2.grow (fun _ => ⟨x, rfl, hx0, by omega⟩)⟩
    · intro n a u K hfr hn hS hv hK
      obtain ⟨k, c, t, h0, hk, hB, hs, hz⟩ : VLit g 7 0 4 u (a.tmps.getD 13 undef) := hv.1
      obtain ⟨x, h1, hx0, hx1⟩ : VInt 0 6 u (a.tmps.getD 15 undef) := hv.2.1
      have hx2 : x < 7 := by omega
      refine owe_run rfl (wp_val (v := .pointer (some ⟨k, x.toNat, none⟩)) ?_ (hK _ _ hS.stay (grown_refl _ _) (fun _ => vlit_adr hk hB hs hz x hx0 (by omega))))
      first
          | (go_simp; done)
          | (go_simp; rfl)
    · intro n a u K hfr hn hS hv hK
      obtain ⟨k, o, y, h0, hk, hc, hy0, hy1⟩ : VAdr g 0 4 u (a.tmps.getD 16 undef) := hv.1
      refine owe_run rfl (wp_val (v := .int .i64 y) ?_ (hK _ _ hS.stay (grown_refl _ _) (fun _ => ⟨y, rfl, hy0, hy1⟩)))
      first
          | (go_simp; done)
          | (go_simp; rfl)
    · intro n a u K hfr hn hS hv hK
      obtain ⟨k, c, t, h0, hk, hB, hs, hz⟩ : VLit g 5 (-1) 1000001 u (a.tmps.getD 12 undef) := hv.1
      obtain ⟨x, h1, hx0, hx1⟩ : VInt 0 4 u (a.tmps.getD 17 undef) := hv.2.1
      have hx2 : x < 5 := by omega
      refine owe_run rfl (wp_val (v := .pointer (some ⟨k, x.toNat, none⟩)) ?_ (hK _ _ hS.stay (grown_refl _ _) (fun _ => vlit_adr hk hB hs hz x hx0 (by omega))))
      first
          | (go_simp; done)
          | (go_simp; rfl)
    · intro n a u K hfr hn hS hv hK
      obtain ⟨k, o, y, h0, hk, hc, hy0, hy1⟩ : VAdr g (-1) 1000001 u (a.tmps.getD 18 undef) := hv.1
      refine owe_run rfl (wp_val (v := .int .i64 y) ?_ (hK _ _ hS.stay (grown_refl _ _) (fun _ => ⟨y, rfl, hy0, hy1⟩)))
      first
          | (go_simp; done)
          | (go_simp; rfl)
    · intro n a u K hfr hn hS hv hK
      have hz := (show g < u.heap.size from by obtain ⟨q, _, hD⟩ := hS; exact hD.lt)
      refine owe_run rfl (wp_val (v := .slice (some ⟨u.heap.size, 0, none⟩) 7 7) (w' := u.alloc (.cells #[.int .i64 1, .int .i64 2, .int .i64 4, .int .i64 8, .int .i64 0, .int .i64 3, .int .i64 16] 3)) ?_ (hK _ _ (hS.alloc _) (World.grownBy_alloc u _ _) (fun _ => ⟨_, _, _, rfl, by omega, Blk.new u _ _, rfl, by intro z hz; simp only [List.mem_cons, List.not_mem_nil, or_false] at hz; rcases hz with rfl | rfl | rfl | rfl | rfl | rfl | rfl <;> exact ⟨_, rfl, by decide, by decide⟩⟩)))
      first
          | (go_simp; done)
          | (go_simp; rfl)
    · intro n a u K hfr hn hS hv hK
      have hz := (show g < u.heap.size from by obtain ⟨q, _, hD⟩ := hS; exact hD.lt)
      refine owe_run rfl (wp_val (v := .slice (some ⟨u.heap.size, 0, none⟩) 8 8) (w' := u.alloc (.cells #[.int .i64 0, .int .i64 1, .int .i64 2, .int .i64 3, .int .i64 3, .int .i64 4, .int .i64 5, .int .i64 6] 3)) ?_ (hK _ _ (hS.alloc _) (World.grownBy_alloc u _ _) (fun _ => ⟨_, _, _, rfl, by omega, Blk.new u _ _, rfl, by intro z hz; simp only [List.mem_cons, List.not_mem_nil, or_false] at hz; rcases hz with rfl | rfl | rfl | rfl | rfl | rfl | rfl | rfl <;> exact ⟨_, rfl, by decide, by decide⟩⟩)))
      first
          | (go_simp; done)
          | (go_simp; rfl)
    · intro n a u K hfr hn hS hv hK
      have e4 : a.tmps.getD 4 undef = .pointer (some ⟨g, 0, none⟩) := hfr 4 (not_dst (by kernel_rfl))
      refine owe_run rfl (wp_val (v := .pointer (some ⟨g, 0, none⟩)) ?_ (hK _ _ hS.stay (grown_refl _ _) (fun _ => rfl)))
      first
          | (go_simp; done)
          | (go_simp; rfl)
    · intro n a u K hfr hn hS hv hK
      have h0 : a.tmps.getD 22 undef = .pointer (some ⟨g, 0, none⟩) := hv.1
      obtain ⟨q, hq, hD⟩ := hS
      refine owe_run rfl (wp_fn rfl (args2 h0 rfl) (enter_fn Try.func47 (by kernel_rfl) rfl _ _) ((pick_in u u g q (Drawn.start hD.rd) (hqs n q hn hq) 8 (by decide) (by decide)).mono ?_))
      rintro e u1 ⟨x, rfl, hx0, hx1, hD2⟩
      exact ⟨_, rfl, hK _ _ ⟨q + 1, by omega, hD.next hD2⟩ hD2.grow (fun _ => ⟨x, rfl, hx0, by omega⟩)⟩
    · intro n a u K hfr hn hS hv hK
      obtain ⟨k, c, t, h0, hk, hB, hs, hz⟩ : VLit g 8 0 6 u (a.tmps.getD 21 undef) := hv.1
      obtain ⟨x, h1, hx0, hx1⟩ : VInt 0 7 u (a.tmps.getD 23 undef) := hv.2.1
      have hx2 : x < 8 := by omega
      refine owe_run rfl (wp_val (v := .pointer (some ⟨k, x.toNat, none⟩)) ?_ (hK _ _ hS.stay (grown_refl _ _) (fun _ => vlit_adr hk hB hs hz x hx0 (by omega))))
      first
          | (go_simp; done)
          | (go_simp; rfl)
    · intro n a u K hfr hn hS hv hK
      obtain ⟨k, o, y, h0, hk, hc, hy0, hy1⟩ : VAdr g 0 6 u (a.tmps.getD 24 undef) := hv.1
      refine owe_run rfl (wp_val (v := .int .i64 y) ?_ (hK _ _ hS.stay (grown_refl _ _) (fun _ => ⟨y, rfl, hy0, hy1⟩)))
      first
          | (go_simp; done)
          | (go_simp; rfl)
    · intro n a u K hfr hn hS hv hK
      obtain ⟨k, c, t, h0, hk, hB, hs, hz⟩ : VLit g 7 0 16 u (a.tmps.getD 20 undef) := hv.1
      obtain ⟨x, h1, hx0, hx1⟩ : VInt 0 6 u (a.tmps.getD 25 undef) := hv.2.1
      have hx2 : x < 7 := by omega
      refine owe_run rfl (wp_val (v := .pointer (some ⟨k, x.toNat, none⟩)) ?_ (hK _ _ hS.stay (grown_refl _ _) (fun _ => vlit_adr hk hB hs hz x hx0 (by omega))))
      first
          | (go_simp; done)
          | (go_simp; rfl)
    · intro n a u K hfr hn hS hv hK
      obtain ⟨k, o, y, h0, hk, hc, hy0, hy1⟩ : VAdr g 0 16 u (a.tmps.getD 26 undef) := hv.1
      refine owe_run rfl (wp_val (v := .int .i64 y) ?_ (hK _ _ hS.stay (grown_refl _ _) (fun _ => ⟨y, rfl, hy0, hy1⟩)))
      first
          | (go_simp; done)
          | (go_simp; rfl)
    · intro n a u K hfr hn hS hv hK
      obtain ⟨y, h0, hy0, hy1⟩ : VInt (-1) 1000001 u (a.tmps.getD 19 undef) := hv.1
      refine owe_run rfl (wp_val (v := .int .i64 y) ?_ (hK _ _ hS.stay (grown_refl _ _) (fun _ => ⟨y, rfl, hy0, hy1⟩)))
      first
          | (go_simp; done)
          | (go_simp; rfl)
    · intro n a u K hfr hn hS hv hK
      obtain ⟨y, h0, hy0, hy1⟩ : VInt 0 16 u (a.tmps.getD 27 undef) := hv.1
      refine owe_run rfl (wp_val (v := .int .i64 y) ?_ (hK _ _ hS.stay (grown_refl _ _) (fun _ => ⟨y, rfl, hy0, hy1⟩)))
      first
          | (go_simp; done)
          | (go_simp; rfl)
  case hq =>
    intro G u hS hV
    have h21 : VInt (-1) 1000001 u (G 21) := hV.2.2.2.2.2.2.2.2.2.2.2.2.2.2.2.2.2.2.2.2.2.1
    have h22 : VInt 0 16 u (G 22) := hV.2.2.2.2.2.2.2.2.2.2.2.2.2.2.2.2.2.2.2.2.2.2.1
    obtain ⟨n, e1, n0, n1⟩ := h21
    obtain ⟨m, e2, m0, m1⟩ := h22
    obtain ⟨q, hq, hD⟩ := hS
    have HF2 := Lib.hid (HF.out.drawn hD hg)
    clear hD hV V HF HR
    simp only [List.map, putG, List.setIfInBounds_toArray, List.set_cons_zero, List.set_cons_succ, Nat.reduceAdd, e1, e2]
    clear e1 e2
    go_wp2_with fail
    go_ret2
    exact ⟨_, rfl, ⟨n, m, rfl, n0, n1, m0, m1⟩, HF2.out⟩
end Go.Proofs.Ytiilfpdjajacmaa
