/- What the statements on headers draw: bytes that may be bent. -/
import Derived.Test.YtpgmmjdianoaeaaGreatDrawK
import Derived.Test.YtpgmmjdianoaeaaGreatInv
import Derived.Test.YtpgmmjdianoaeaaGreatBytes
import Derived.Test.YtpgmmjdianoaeaaGreatBase
namespace Go.Proofs.YtpgmmjdianoaeaaGreat
open Go.ChangeShapes Go.WideShapes Go.ChangeAt Go.RowKit Go.Joins
set_option linter.unusedSimpArgs false
set_option linter.unusedVariables false
set_option maxRecDepth 100000
/-- One byte of what is owned turned, whatever order. -/
def BentS (g q0 base : Nat) (w : World) (out : Value) (L : Nat) (n : Nat) (u : World) : Prop := ∃ q l, q ≤ q0 + n ∧ Drawn g q w u ∧ OwnB u base out l ∧ l.length = L
set_option maxHeartbeats 1000000 in
theorem l20Bent_any (w : World) (g p : Nat) (h : RdAt w g p) (hp : p ≤ 1073000000) (v : Value) (l : List UInt8) (hr : BytesAt w v l) (hl : l.length ≤ 2000) :
    Calls Tryz.prog 23 #[.pointer (some ⟨g, 0, none⟩), v] w (DrawE (BytesK (l.length + 1)) 20 w g p) := by
  obtain ⟨i0, hi, hz0, hz1, hz2⟩ := info_parts info_u8
  obtain ⟨va, vc, rfl, -⟩ := hr.form
  have zg := h.lt
  have HR := Lib.hid h
  have S1 := src_reads Tryz.underlying22 (hr.below (Nat.le_refl _) ((From.start w).alloc (.cells #[] 5)).below) (bvs_one _)
  have HS := Lib.hid S1
  clear h hr S1
  go_enter Tryz.func23, Tryz.ntmps23
  go_wp2_with (at_builtin; refine wpList_append_src rfl (.tmp 7) (.tmp 8) 22 22 rfl w.heap.size 5 i0 (.int .u8 0) 1 1 Tryz.underlying22 hi hz0 hz1 hz2 rfl (by decide) _ 0 [] rfl (World.ownsRow_lit (size := 1) w #[] 0 (Nat.le_refl _) (Nat.zero_le _) rfl) _ _ _ rfl HS.out ?c1 ?c2 ?c3 ?_)
  case c1 => unfold maxLen; omega
  case c2 => omega
  case c3 => exact Nat.le_of_lt (by simp)
  intro v1 w1 hown hgr
  have hD1 : Drawn g p w w1 := ((Drawn.start HR.out).alloc _).ownGrown hgr (World.ownsRow_lit (size := 1) w #[] 0 (Nat.le_refl _) (Nat.zero_le _) rfl) zg
  have hO1 : OwnB w1 w.heap.size v1 l := by
    unfold OwnB
    first
      | exact hown
      | simpa using hown
  obtain ⟨ra, rc, rfl⟩ := owns_form hO1
  have HO1 := Lib.hid hO1
  have HD1 := Lib.hid hD1
  clear hown hgr hD1 hO1 HS
  go_wp2_with fail
  refine (pick_in w1 _ g p (Drawn.start HD1.out.rd) (by omega) 3 (by decide) (by decide)).mono ?_
  rintro e w2 ⟨x, rfl, hx0, hx1, hD⟩
  have HO2 := Lib.hid (owns_drawn HO1.out hD.grow zg)
  have HD2 := Lib.hid (HD1.out.next hD)
  clear hD HO1 HD1
  have hx : x = 0 ∨ x = 1 ∨ x = 2 := by omega
  rcases hx with rfl | rfl | rfl
  · by_cases hz : l.length = 0
    · have e0 : ¬ (0 : Int) < (l.length : Int) := by omega
      clear hz
      go_wp2_with fail
      go_ret
      exact ⟨_, _, rfl, ⟨l, reads_of_owns HO2.out, by omega⟩, by omega, HD2.out⟩
    · have e0 : (0 : Int) < (l.length : Int) := by omega
      go_wp2_with fail
      refine (pick_in w2 _ g (p + 1) (Drawn.start HD2.out.rd) (by omega) l.length (by omega) (by omega)).mono ?_
      rintro e w3 ⟨k, rfl, hk0, hk1, hD⟩
      have HO3 := Lib.hid (owns_drawn HO2.out hD.grow zg)
      have HD3 := Lib.hid (HD2.out.next hD)
      clear hD HO2 HD2
      obtain ⟨K, rfl⟩ := Int.eq_ofNat_of_zero_le hk0
      have hK : K < l.length := by omega
      have hform : ∃ gb, ra = some ⟨gb, 0, none⟩ ∧ w.heap.size ≤ gb := by
        rcases HO3.out.2 with ⟨h2, _⟩ | ⟨gb, cap, cur, hv, hb, _⟩
        · simp only [Value.slice.injEq] at h2; omega
        · simp only [Value.slice.injEq] at hv; exact ⟨gb, hv.1, hb⟩
      obtain ⟨gb, rfl, hgb⟩ := hform
      go_wp2_with fail
      let V : Nat → Value → World → Prop := fun i v _ => match i with
        | 0 => v = .slice (some ⟨gb, 0, none⟩) l.length rc
        | 1 => v = .int .i64 K
        | 2 => v = .slice (some ⟨gb, 0, none⟩) l.length rc
        | 3 => v = .int .i64 K
        | 4 => v = .pointer (some ⟨gb, K, none⟩)
        | 5 => ∃ c : UInt8, v = .int .u8 (c.toNat : Int)
        | 6 => v = .pointer (some ⟨g, 0, none⟩)
        | 7 => ∃ x : Int, v = .int .i64 x ∧ 0 ≤ x ∧ x < 255
        | 8 => ∃ x : Int, v = .int .i64 x ∧ 1 ≤ x ∧ x ≤ 255
        | 9 => ∃ x : Int, v = .int .u8 x ∧ 0 ≤ x ∧ x ≤ 255
        | 10 => ∃ c : UInt8, v = .int .u8 (c.toNat : Int)
        | 11 => v = .pointer (some ⟨gb, K, none⟩)
        | _ => True
      have hqs : ∀ n q, n < 13 → q ≤ p + 1 + 1 + n → q ≤ 1073741824 := by intro n q h1 h2; omega
      have kk : (K : Int) < (l.length : Int) := by omega
      have kk0 : (0 : Int) ≤ (K : Int) := by omega
      refine wp_region_go V (BentS g (p + 1 + 1) w.heap.size w (.slice (some ⟨gb, 0, none⟩) l.length rc) l.length) (fun _ _ => True) [[], [], [], [], [2, 3], [4], [], [6], [7], [8], [5, 9], [0, 1], [10, 11]] (by kernel_rfl) (by kernel_rfl) (by kernel_rfl) (by kernel_rfl) ⟨_, l, Nat.le_refl _, HD3.out.more (World.grownBy_drewN w3 1 _) (HD3.out.rd.drewN 1), HO3.out, rfl⟩ (fun _ _ _ _ h _ => h) ?ho ?hq
      case ho =>
        refine ⟨?_, ?_, ?_, ?_, ?_, ?_, ?_, ?_, ?_, ?_, ?_, ?_, ?_, trivial⟩
        · intro n a u KK hfr hn hS hv hK
          have e4 : a.tmps.getD 5 undef = .slice (some ⟨gb, 0, none⟩) l.length rc := hfr 5 (not_dst (by kernel_rfl))
          obtain ⟨q, l2, hq, hD, hO, hl2⟩ := hS
          refine owe_run rfl (wp_val ?_ (hK _ _ ⟨q, l2, by omega, hD, hO, hl2⟩ trivial (fun _ => rfl)))
          first
            | (go_simp; done)
            | (go_simp; rfl)
        · intro n a u KK hfr hn hS hv hK
          have e4 : a.tmps.getD 6 undef = .int .i64 K := hfr 6 (not_dst (by kernel_rfl))
          obtain ⟨q, l2, hq, hD, hO, hl2⟩ := hS
          refine owe_run rfl (wp_val ?_ (hK _ _ ⟨q, l2, by omega, hD, hO, hl2⟩ trivial (fun _ => rfl)))
          first
            | (go_simp; done)
            | (go_simp; rfl)
        · intro n a u KK hfr hn hS hv hK
          have e4 : a.tmps.getD 5 undef = .slice (some ⟨gb, 0, none⟩) l.length rc := hfr 5 (not_dst (by kernel_rfl))
          obtain ⟨q, l2, hq, hD, hO, hl2⟩ := hS
          refine owe_run rfl (wp_val ?_ (hK _ _ ⟨q, l2, by omega, hD, hO, hl2⟩ trivial (fun _ => rfl)))
          first
            | (go_simp; done)
            | (go_simp; rfl)
        · intro n a u KK hfr hn hS hv hK
          have e4 : a.tmps.getD 6 undef = .int .i64 K := hfr 6 (not_dst (by kernel_rfl))
          obtain ⟨q, l2, hq, hD, hO, hl2⟩ := hS
          refine owe_run rfl (wp_val ?_ (hK _ _ ⟨q, l2, by omega, hD, hO, hl2⟩ trivial (fun _ => rfl)))
          first
            | (go_simp; done)
            | (go_simp; rfl)
        · intro n a u KK hfr hn hS hv hK
          have h1 : a.tmps.getD 29 undef = .slice (some ⟨gb, 0, none⟩) l.length rc := hv.1
          have h2 : a.tmps.getD 30 undef = .int .i64 K := hv.2.1
          obtain ⟨q, l2, hq, hD, hO, hl2⟩ := hS
          refine owe_run rfl (wp_val ?_ (hK _ _ ⟨q, l2, by omega, hD, hO, hl2⟩ trivial (fun _ => rfl)))
          first
            | (go_simp; done)
            | (go_simp; rfl)
        · intro n a u KK hfr hn hS hv hK
          have h1 : a.tmps.getD 31 undef = .pointer (some ⟨gb, K, none⟩) := hv.1
          obtain ⟨q, l2, hq, hD, hO, hl2⟩ := hS
          have hO' : u.ownsRow w.heap.size 5 1 (.slice (some ⟨gb, 0, none⟩) l.length rc) l.length (bvs l2) := by have := hO; unfold OwnB at this; rwa [hl2] at this
          have hc : u.cell? ⟨gb, K, none⟩ = some (.int .u8 ((l2[K]'(by omega)).toNat : Int)) := by
            rw [hO'.cellAt K (by omega)]
            simp [bvs, List.getElem?_eq_getElem (show K < l2.length by omega)]
          refine owe_run rfl (wp_val (v := .int .u8 ((l2[K]'(by omega)).toNat : Int)) ?_ (hK _ _ ⟨q, l2, by omega, hD, hO, hl2⟩ trivial (fun _ => ⟨_, rfl⟩)))
          first
            | (go_simp; done)
            | (go_simp; rfl)
        · intro n a u KK hfr hn hS hv hK
          have e4 : a.tmps.getD 0 undef = .pointer (some ⟨g, 0, none⟩) := hfr 0 (not_dst (by kernel_rfl))
          obtain ⟨q, l2, hq, hD, hO, hl2⟩ := hS
          refine owe_run rfl (wp_val ?_ (hK _ _ ⟨q, l2, by omega, hD, hO, hl2⟩ trivial (fun _ => rfl)))
          first
            | (go_simp; done)
            | (go_simp; rfl)
        · intro n a u KK hfr hn hS hv hK
          have h1 : a.tmps.getD 33 undef = .pointer (some ⟨g, 0, none⟩) := hv.1
          obtain ⟨q, l2, hq, hD, hO, hl2⟩ := hS
          refine owe_run rfl (wp_fn rfl (args2 h1 rfl) (enter_fn Tryz.func59 (by kernel_rfl) rfl _ _) ((pick_in u u g q (Drawn.start hD.rd) (hqs n q hn hq) 255 (by decide) (by decide)).mono ?_))
          rintro e u1 ⟨x, rfl, hx0, hx1, hD2⟩
          exact ⟨_, rfl, hK _ _ ⟨q + 1, l2, by omega, hD.next hD2, owns_drawn hO hD2.grow zg, hl2⟩ trivial (fun _ => ⟨x, rfl, hx0, hx1⟩)⟩
        · intro n a u KK hfr hn hS hv hK
          obtain ⟨x, h1, hx0, hx1⟩ : ∃ x : Int, a.tmps.getD 34 undef = .int .i64 x ∧ 0 ≤ x ∧ x < 255 := hv.1
          obtain ⟨q, l2, hq, hD, hO, hl2⟩ := hS
          have hw : IntKind.i64.wrap (1 + x) = 1 + x := IntWalk.i64_in _ (by omega)
          refine owe_run rfl (wp_val (v := .int .i64 (1 + x)) ?_ (hK _ _ ⟨q, l2, by omega, hD, hO, hl2⟩ trivial (fun _ => ⟨_, rfl, by omega, by omega⟩)))
          first
            | (go_simp; done)
            | (go_simp; rfl)
        · intro n a u KK hfr hn hS hv hK
          obtain ⟨x, h1, hx0, hx1⟩ : ∃ x : Int, a.tmps.getD 35 undef = .int .i64 x ∧ 1 ≤ x ∧ x ≤ 255 := hv.1
          obtain ⟨q, l2, hq, hD, hO, hl2⟩ := hS
          have hw : IntKind.u8.wrap x = x := by simp [IntKind.wrap, IntKind.bits, IntKind.signed]; omega
          refine owe_run rfl (wp_val (v := .int .u8 x) ?_ (hK _ _ ⟨q, l2, by omega, hD, hO, hl2⟩ trivial (fun _ => ⟨_, rfl, by omega, by omega⟩)))
          first
            | (go_simp; done)
            | (go_simp; rfl)
        · intro n a u KK hfr hn hS hv hK
          obtain ⟨c, h1⟩ : ∃ c : UInt8, a.tmps.getD 32 undef = .int .u8 (c.toNat : Int) := hv.1
          obtain ⟨x, h2, hx0, hx1⟩ : ∃ x : Int, a.tmps.getD 36 undef = .int .u8 x ∧ 0 ≤ x ∧ x ≤ 255 := hv.2.1
          obtain ⟨q, l2, hq, hD, hO, hl2⟩ := hS
          obtain ⟨y, hy⟩ : ∃ y : UInt8, IntKind.u8.wrap ((c.toNat : Int) + x) = (y.toNat : Int) := by
            refine ⟨UInt8.ofNat (((c.toNat : Int) + x).toNat), ?_⟩
            rw [UInt8.toNat_ofNat']
            simp [IntKind.wrap, IntKind.bits, IntKind.signed]; omega
          refine owe_run rfl (wp_val (v := .int .u8 (y.toNat : Int)) ?_ (hK _ _ ⟨q, l2, by omega, hD, hO, hl2⟩ trivial (fun _ => ⟨_, rfl⟩)))
          first
            | (go_simp; done)
            | (go_simp; rfl)
        · intro n a u KK hfr hn hS hv hK
          have h1 : a.tmps.getD 27 undef = .slice (some ⟨gb, 0, none⟩) l.length rc := hv.1
          have h2 : a.tmps.getD 28 undef = .int .i64 K := hv.2.1
          obtain ⟨q, l2, hq, hD, hO, hl2⟩ := hS
          refine owe_run rfl (wp_val ?_ (hK _ _ ⟨q, l2, by omega, hD, hO, hl2⟩ trivial (fun _ => rfl)))
          first
            | (go_simp; done)
            | (go_simp; rfl)
        · intro n a u KK hfr hn hS hv hK
          obtain ⟨c, h1⟩ : ∃ c : UInt8, a.tmps.getD 37 undef = .int .u8 (c.toNat : Int) := hv.1
          have h2 : a.tmps.getD 38 undef = .pointer (some ⟨gb, K, none⟩) := hv.2.1
          obtain ⟨q, l2, hq, hD, hO, hl2⟩ := hS
          have hO' : u.ownsRow w.heap.size 5 1 (.slice (some ⟨gb, 0, none⟩) l.length rc) l.length (bvs l2) := by have := hO; unfold OwnB at this; rwa [hl2] at this
          obtain ⟨uc, hc⟩ : ∃ uc, u.cell? ⟨gb, K, none⟩ = some uc := by
            rw [hO'.cellAt K (by omega)]
            exact ⟨_, List.getElem?_eq_getElem (by rw [bvs_length]; omega)⟩
          have hf : u.frozen? ⟨gb, K, none⟩ = false := hO'.frozenAt K
          have hOs : OwnB (u.setCell ⟨gb, K, none⟩ (.int .u8 (c.toNat : Int))) w.heap.size (.slice (some ⟨gb, 0, none⟩) l.length rc) (l2.set K c) := by
            have := (hO'.stored K (.int .u8 (c.toNat : Int))).1
            unfold OwnB
            rw [List.length_set, hl2]
            have e : bvs (l2.set K c) = (bvs l2).set K (.int .u8 (c.toNat : Int)) := by simp [bvs, List.map_set]
            rw [e]; exact this
          refine owe_run rfl (wp_skp (w' := u.setCell ⟨gb, K, none⟩ (.int .u8 (c.toNat : Int))) ?_ (hK _ _ ⟨q, l2.set K c, by omega, hD.set hgb zg _ _, hOs, by simp [hl2]⟩ trivial (fun _ => trivial)))
          first
            | (go_simp; done)
            | (go_simp; rfl)
      case hq =>
        intro G u hS hV
        obtain ⟨q, l2, hq, hD, hO, hl2⟩ := hS
        have HDu := Lib.hid hD
        have HOu := Lib.hid hO
        clear hV hD hO V hqs
        simp only [List.map, putG, List.setIfInBounds_toArray, List.set_cons_zero, List.set_cons_succ]
        go_wp2_with fail
        go_ret
        exact ⟨_, q, rfl, ⟨l2, reads_of_owns HOu.out, by omega⟩, by simp at hq; omega, HDu.out⟩
  · go_wp2_with fail
    refine (pick_in w2 _ g (p + 1) (Drawn.start HD2.out.rd) (by omega) ((l.length : Int) + 1) (by omega) (by omega)).mono ?_
    rintro e w3 ⟨k, rfl, hk0, hk1, hD⟩
    have HO3 := Lib.hid (owns_drawn HO2.out hD.grow zg)
    have HD3 := Lib.hid (HD2.out.next hD)
    clear hD HO2 HD2
    obtain ⟨K, rfl⟩ := Int.eq_ofNat_of_zero_le hk0
    have hcap : l.length ≤ rc := by
      obtain ⟨_, a', cap', hv, h2, _⟩ := reads_of_owns HO3.out
      simp only [Value.slice.injEq] at hv
      omega
    have hK : (K : Int) ≤ (rc : Int) := by omega
    have HT := Lib.hid (owns_take HO3.out K (by omega))
    clear HO3
    go_wp2_with fail
    go_ret
    refine ⟨_, _, rfl, ⟨l.take K, ?_, by rw [List.length_take]; omega⟩, by omega, HD3.out⟩
    have := reads_of_owns HT.out
    unfold BytesAt
    have e : (l.take K).length = K := by rw [List.length_take]; omega
    rw [e]
    have e2 : bvs (l.take K) = (bvs l).take (K * 1) := by simp [bvs, List.map_take]
    rw [e2]
    exact this
  · go_wp2_with fail
    refine (pick_in w2 _ g (p + 1) (Drawn.start HD2.out.rd) (by omega) 256 (by decide) (by decide)).mono ?_
    rintro e w3 ⟨k, rfl, hk0, hk1, hD⟩
    have HO3 := Lib.hid (owns_drawn HO2.out hD.grow zg)
    have HD3 := Lib.hid (HD2.out.next hD)
    clear hD HO2 HD2
    go_wp2_with (at_builtin; refine wpList_append_src rfl _ _ 22 22 rfl w.heap.size 5 i0 (.int .u8 0) 1 1 Tryz.underlying22 hi hz0 hz1 hz2 rfl (by decide) _ _ _ rfl (HO3.out.alloc _) _ 1 [_] rfl (src_new Tryz.underlying22 _ [_] 1 1 1 _ rfl ?d0) ?d1 ?d2 ?d3 ?_)
    case d0 => intro u hu; obtain rfl := List.mem_singleton.1 hu; rfl
    case d1 => unfold maxLen; omega
    case d2 => omega
    case d3 => have := HD3.out.grow.size; simp; omega
    intro v' w4 hown hgr
    have HO4 := Lib.hid (owns_snoc (c := UInt8.ofNat k.toNat) hown (by rw [UInt8.toNat_ofNat']; omega))
    have HD4 := Lib.hid ((HD3.out.alloc _).ownGrown hgr (HO3.out.alloc _) zg)
    clear hown hgr HO3 HD3
    go_wp2_with fail
    go_ret
    exact ⟨_, _, rfl, ⟨_, reads_of_owns HO4.out, by simp⟩, by omega, HD4.out⟩
end Go.Proofs.YtpgmmjdianoaeaaGreat
