/- What the statements on tables of names draw. -/
import Derived.Test.YtadbafjmmhfeaaaTab
import Derived.Test.YtadbafjmmhfeaaaDrawA
import Derived.Test.YtadbafjmmhfeaaaInvU
namespace Go.Proofs.Ytadbafjmmhfeaaa
open Go.ChangeShapes Go.WideShapes Go.ChangeAt Go.RowKit Go.Joins
set_option linter.unusedSimpArgs false
set_option linter.unusedVariables false
set_option maxRecDepth 100000
theorem tableL_length (l : List ByteArray) : (tableL l).length ≤ 361 := by
  unfold tableL
  split
  · rename_i h
    unfold namesB at h
    rw [Bool.and_eq_true, decide_eq_true_eq, List.all_eq_true] at h
    have hs : ∀ s ∈ sortS (l.map bytesS), s.length ≤ 8 := fun s hs => by
      rw [mem_sortS] at hs
      obtain ⟨x, hx, rfl⟩ := List.mem_map.1 hs
      have := (nameB_size (h.2 x hx)).2
      unfold bytesS; rw [Array.length_toList]; exact this
    have h1 := tabBody_length (sortS (l.map bytesS)) hs (sortS (l.map bytesS)) (fun s h => h)
    have h2 := sortS_length (l.map bytesS)
    rw [List.length_map] at h2
    unfold tabOf
    rw [List.length_cons]
    omega
  · simp
theorem ownB_drawn {w w' : World} {g B : Nat} {v : Value} {l : List UInt8} (h : OwnB w B v l) (hg : w.grownBy w' (some g)) (hB : g < B) : OwnB w' B v l := owns_drawn h hg hB
theorem ownS_drawn {w w' : World} {g B : Nat} {v : Value} {l : List ByteArray} (h : OwnS w B v l) (hg : w.grownBy w' (some g)) (hB : g < B) : OwnS w' B v l := owns_drawn h hg hB
def BytesInt (k : Nat) (a b : Int) (w : World) (v : Value) : Prop := ∃ (vb : Value) (l : List UInt8) (n : Int), v = .tuple #[vb, .int .i64 n] ∧ BytesAt w vb l ∧ l.length ≤ k ∧ a ≤ n ∧ n ≤ b
def BytesStr (k n : Nat) (w : World) (v : Value) : Prop := ∃ (vb : Value) (l : List UInt8) (s : ByteArray), v = .tuple #[vb, .string s] ∧ BytesAt w vb l ∧ l.length ≤ k ∧ s.size ≤ n
set_option maxHeartbeats 1000000 in
theorem drawNameAt_any (w : World) (v : Value) (l : List UInt8) (h : BytesAt w v l) :
    Calls Try.prog 13 #[v] w (DrawB (BytesInt 361 (-1) 22) w) := by
  go_enter Try.func13, Try.ntmps13
  go_wp2_with fail
  refine (l20Open_any _ _ l h).mono ?_
  rintro e w1 ⟨g, rfl, hg, hR, hb⟩
  have HF := Lib.hid ((From.start w).call hb)
  have HR := Lib.hid hR
  clear hb hR h
  go_wp2_with fail
  refine (l20Names_any _ g 0 HR.out (by decide) 0 (by decide) (by decide)).mono ?_
  rintro e w2 ⟨_, q, rfl, ⟨k, hO, hk, hs⟩, hq, hD⟩
  obtain ⟨ra, rc, rfl⟩ := owns_form hO
  have HO := Lib.hid hO
  have HD := Lib.hid hD
  have HS := Lib.hid hs
  clear hO hD hs
  go_wp2_with fail
  refine (s_NameTable w2 _ k HO.out.reads (fun s h => by have := HS.out s h; unfold maxLen; omega) (by omega)).mono ?_
  rintro e w3 ⟨r, rfl, o3, hb⟩
  have HT := tableL_length k
  have HD3 := Lib.hid (HD.out.below hb)
  have HF3 := Lib.hid ((HF.out.drawn HD.out hg).call hb)
  generalize tableL k = T at *
  obtain ⟨ta, tc, rfl⟩ := owns_form o3
  have zg : g < w2.heap.size := HD.out.lt
  have HO3 := Lib.hid o3
  clear o3 hb HD HO HF HS
  go_wp2_with fail
  refine (odd_any w3 g q HD3.out.rd (by omega) 6 (by decide) (by decide)).mono ?_
  rintro e w4 ⟨_, q2, rfl, ⟨bo, rfl⟩, hq2, hD⟩
  have HD4 := Lib.hid hD
  have HO4 := Lib.hid (ownB_drawn HO3.out hD.grow zg)
  have HF4 := Lib.hid (HF3.out.drawn hD hg)
  clear hD HD3 HO3 HF3
  cases bo
  · go_wp2_with fail
    refine (pick_in w4 _ g q2 (Drawn.start HD4.out.rd) (by omega) 24 (by decide) (by decide)).mono ?_
    rintro e w5 ⟨x, rfl, hx0, hx1, hD⟩
    have HO5 := Lib.hid (ownB_drawn HO4.out hD.grow zg)
    have HF5 := Lib.hid (HF4.out.drawn hD hg)
    clear hD HO4 HF4
    go_wp2_with fail
    go_ret2
    exact ⟨_, rfl, ⟨_, T, x - 1, rfl, HO5.out.reads, HT, by omega, by omega⟩, HF5.out⟩
  · by_cases hz : T.length = 0
    · have e0 : ¬ (0 : Int) < (T.length : Int) := by omega
      clear hz
      go_wp2_with fail
      refine (pick_in w4 _ g q2 (Drawn.start HD4.out.rd) (by omega) 24 (by decide) (by decide)).mono ?_
      rintro e w5 ⟨x, rfl, hx0, hx1, hD⟩
      have HO5 := Lib.hid (ownB_drawn HO4.out hD.grow zg)
      have HF5 := Lib.hid (HF4.out.drawn hD hg)
      clear hD HO4 HF4
      go_wp2_with fail
      go_ret2
      exact ⟨_, rfl, ⟨_, T, x - 1, rfl, HO5.out.reads, HT, by omega, by omega⟩, HF5.out⟩
    · obtain ⟨m, hm⟩ : ∃ m, T.length = m + 1 := ⟨T.length - 1, by omega⟩
      have e0 : (0 : Int) < (T.length : Int) := by omega
      have e1 : (T.length : Int) - 1 = (m : Int) := by omega
      have e2 : (m : Int) ≤ (tc : Int) := by
        have h := HO4.out.reads.form
        obtain ⟨_, _, hv, hc, _⟩ := h
        simp only [Value.slice.injEq] at hv
        obtain ⟨_, _, rfl⟩ := hv
        omega
      have HM := Lib.hid hm
      clear hz hm
      go_wp2_with fail
      refine (pick_in w4 _ g q2 (Drawn.start HD4.out.rd) (by omega) 24 (by decide) (by decide)).mono ?_
      rintro e w5 ⟨x, rfl, hx0, hx1, hD⟩
      have HO5 := Lib.hid (owns_take (owns_drawn HO4.out hD.grow zg) m (by have := HM.out; omega))
      have HF5 := Lib.hid (HF4.out.drawn hD hg)
      clear hD HO4 HF4
      go_wp2_with fail
      go_ret2
      have hr : BytesAt w5 (.slice ta m tc) (T.take m) := by
        have h1 : (T.take m).length = m := by rw [List.length_take]; have := HM.out; omega
        unfold BytesAt
        rw [h1]
        have := reads_of_owns HO5.out
        rw [Nat.mul_one] at this
        unfold bvs at this ⊢
        rw [List.map_take]
        exact this
      exact ⟨_, rfl, ⟨_, T.take m, x - 1, rfl, hr, by rw [List.length_take]; omega, by omega, by omega⟩, HF5.out⟩
set_option maxHeartbeats 1000000 in
theorem drawPlaceOf_any (w : World) (v : Value) (l : List UInt8) (h : BytesAt w v l) :
    Calls Try.prog 17 #[v] w (DrawB (BytesStr 361 9) w) := by
  go_enter Try.func17, Try.ntmps17
  go_wp2_with fail
  refine (l20Open_any _ _ l h).mono ?_
  rintro e w1 ⟨g, rfl, hg, hR, hb⟩
  have HF := Lib.hid ((From.start w).call hb)
  have HR := Lib.hid hR
  clear hb hR h
  go_wp2_with fail
  refine (l20Names_any _ g 0 HR.out (by decide) 0 (by decide) (by decide)).mono ?_
  rintro e w2 ⟨_, q, rfl, ⟨k, hO, hk, hs⟩, hq, hD⟩
  obtain ⟨ka, kc, rfl⟩ := owns_form hO
  have HO := Lib.hid hO
  have HD := Lib.hid hD
  have HSZ := Lib.hid hs
  have z1 : g < w1.heap.size := HR.out.lt
  clear hO hD hs
  go_wp2_with fail
  refine (s_NameTable w2 _ k HO.out.reads (fun s h => by have := HSZ.out s h; unfold maxLen; omega) (by omega)).mono ?_
  rintro e w3 ⟨r, rfl, o3, hb⟩
  have HT := tableL_length k
  have HD3 := Lib.hid (HD.out.below hb)
  have HF3 := Lib.hid ((HF.out.drawn HD.out hg).call hb)
  have HK3 := Lib.hid (ownS_call HO.out hb)
  generalize tableL k = T at *
  obtain ⟨ta, tc, rfl⟩ := owns_form o3
  have zg : g < w2.heap.size := HD.out.lt
  have HO3 := Lib.hid o3
  clear o3 hb HD HO HF
  by_cases hz : k.length = 0
  · have e0 : ¬ (0 : Int) < (k.length : Int) := by omega
    clear hz
    go_wp2_with fail
    refine (l20Name_any w3 g q HD3.out.rd (by omega) 4 (by decide) (by decide)).mono ?_
    rintro e w4 ⟨_, q2, rfl, ⟨s, rfl, hs⟩, hq2, hD⟩
    have HO4 := Lib.hid (ownB_drawn HO3.out hD.grow zg)
    have HF4 := Lib.hid (HF3.out.drawn hD hg)
    clear hD HD3 HO3 HF3
    go_wp2_with fail
    go_ret2
    exact ⟨_, rfl, ⟨_, T, s, rfl, HO4.out.reads, HT, hs⟩, HF4.out⟩
  have e0 : 0 < k.length := by omega
  go_wp2_with fail
  refine (pick_in w3 _ g q (Drawn.start HD3.out.rd) (by omega) 3 (by decide) (by decide)).mono ?_
  rintro e w4 ⟨x, rfl, hx0, hx1, hD⟩
  have HO4 := Lib.hid (ownB_drawn HO3.out hD.grow zg)
  have HK4 := Lib.hid (ownS_drawn HK3.out hD.grow z1)
  have HF4 := Lib.hid (HF3.out.drawn hD hg)
  have HD4 := Lib.hid hD
  clear hD HO3 HF3 HK3 HD3
  by_cases hx : x = 0
  · subst hx
    clear hx0 hx1
    go_wp2_with fail
    refine (l20Name_any w4 g (q + 1) HD4.out.rd (by omega) 4 (by decide) (by decide)).mono ?_
    rintro e w5 ⟨_, q2, rfl, ⟨s, rfl, hs⟩, hq2, hD⟩
    have HO5 := Lib.hid (ownB_drawn HO4.out hD.grow zg)
    have HF5 := Lib.hid (HF4.out.drawn hD hg)
    clear hD HD4 HO4 HF4 HK4
    go_wp2_with fail
    go_ret2
    exact ⟨_, rfl, ⟨_, T, s, rfl, HO5.out.reads, HT, hs⟩, HF5.out⟩
  have hx2 : 0 < x := by omega
  have hform : ∃ b, ka = some ⟨b, 0, none⟩ ∧ w1.heap.size ≤ b := by
    rcases HK4.out.2 with ⟨h2, _⟩ | ⟨gb, cap, cur, hv, hb, _⟩
    · simp only [Value.slice.injEq] at h2; omega
    · simp only [Value.slice.injEq] at hv; exact ⟨gb, hv.1, hb⟩
  obtain ⟨b, rfl, hb1⟩ := hform
  have HCL : Hid (∀ u, w4.grownBy u (some g) → ∀ X (hX : X < k.length), u.cell? ⟨b, X, none⟩ = some (.string k[X])) := fun u hg2 X hX => by
    obtain ⟨_, _, hv, _, _, _, hc⟩ := HK4.out.reads.form
    obtain ⟨b', off', e, hc⟩ := hc (by omega)
    simp only [Value.slice.injEq] at hv
    obtain ⟨rfl, _, rfl⟩ := hv
    simp only [Option.some.injEq, Addr.mk.injEq] at e
    obtain ⟨rfl, rfl, _⟩ := e
    have hcX := hc X hX
    rw [Nat.zero_add] at hcX
    exact hg2.cell hcX (by show some b ≠ some g; intro e; simp only [Option.some.injEq] at e; omega)
  clear hx0 hx1 hx HK4
  obtain ⟨cc, hcc⟩ : ∃ cc, kc = cc := ⟨_, rfl⟩
  subst hcc
  obtain ⟨vt, hvt⟩ : ∃ vt, Value.slice ta T.length tc = vt := ⟨_, rfl⟩
  rw [hvt] at HO4
  rw [hvt]
  clear hvt
  go_wp2_with fail
  let V : Nat → Value → World → Prop := fun i v u => match i with
    | 0 => v = vt
    | 1 => v = .slice (some ⟨b, 0, none⟩) k.length kc
    | 2 => v = .pointer (some ⟨g, 0, none⟩)
    | 3 => v = .slice (some ⟨b, 0, none⟩) k.length kc
    | 4 => v = .int .i64 k.length
    | 5 => ∃ X : Nat, v = .int .i64 X ∧ X < k.length
    | 6 => ∃ X : Nat, v = .pointer (some ⟨b, X, none⟩) ∧ X < k.length
    | 7 => ∃ s : ByteArray, v = .string s ∧ s.size ≤ 9
    | 8 => v = vt
    | 9 => ∃ s : ByteArray, v = .string s ∧ s.size ≤ 9
    | _ => True
  have hqs : ∀ n r, n < 10 → r ≤ q + 1 + n → r ≤ 1073741824 := by intro n r h1 h2; omega
  have hstab : ∀ j v u u', u.grownBy u' (some g) → V j v u → V j v u' := by
    intro j v u u' hb h
    rcases j with _ | _ | _ | _ | _ | _ | _ | _ | _ | _ | j
    all_goals exact h
  refine wp_region_use V (PickS g (q + 1) w4) [[], [], [], [], [3], [2, 4], [1, 5], [6], [0], [7]] [[], [], [], [], [3], [2, 3, 4], [1, 2, 3, 4, 5], [1, 2, 3, 4, 5, 6], [0, 2, 3, 4, 5], [0, 1, 2, 3, 4, 5, 6, 7, 8]] [8, 9] (by kernel_rfl) (by kernel_rfl) (by kernel_rfl) (by kernel_rfl) (by kernel_rfl) ⟨q + 1, Nat.le_refl _, (Drawn.start HD4.out.rd).more (World.grownBy_drewN w4 1 _) (HD4.out.rd.drewN 1)⟩ ?ho ?hq
  case ho =>
    refine ⟨?_, ?_, ?_, ?_, ?_, ?_, ?_, ?_, ?_, ?_, trivial⟩
    · intro n A u K hfr hn hS hv hK
      have e4 : A.tmps.getD 6 undef = vt := hfr 6 (not_dst (by kernel_rfl))
      refine owe_run rfl (wp_val (v := vt) ?_ (hK _ _ hS.stay (fun _ _ _ h => h) (fun _ => rfl)))
      first
        | (go_simp; done)
        | (go_simp; rfl)
    · intro n A u K hfr hn hS hv hK
      have e4 : A.tmps.getD 5 undef = (.slice (some ⟨b, 0, none⟩) k.length kc) := hfr 5 (not_dst (by kernel_rfl))
      refine owe_run rfl (wp_val (v := (.slice (some ⟨b, 0, none⟩) k.length kc)) ?_ (hK _ _ hS.stay (fun _ _ _ h => h) (fun _ => rfl)))
      first
        | (go_simp; done)
        | (go_simp; rfl)
    · intro n A u K hfr hn hS hv hK
      have e4 : A.tmps.getD 4 undef = (.pointer (some ⟨g, 0, none⟩)) := hfr 4 (not_dst (by kernel_rfl))
      refine owe_run rfl (wp_val (v := (.pointer (some ⟨g, 0, none⟩))) ?_ (hK _ _ hS.stay (fun _ _ _ h => h) (fun _ => rfl)))
      first
        | (go_simp; done)
        | (go_simp; rfl)
    · intro n A u K hfr hn hS hv hK
      have e4 : A.tmps.getD 5 undef = (.slice (some ⟨b, 0, none⟩) k.length kc) := hfr 5 (not_dst (by kernel_rfl))
      refine owe_run rfl (wp_val (v := (.slice (some ⟨b, 0, none⟩) k.length kc)) ?_ (hK _ _ hS.stay (fun _ _ _ h => h) (fun _ => rfl)))
      first
        | (go_simp; done)
        | (go_simp; rfl)
    · intro n A u K hfr hn hS hv hK
      have q0 : A.tmps.getD 24 undef = (.slice (some ⟨b, 0, none⟩) k.length kc) := hv.1
      have r0 : (A.tmps[24]?).getD undef = (.slice (some ⟨b, 0, none⟩) k.length kc) := by simpa using q0
      refine owe_run rfl (wp_val (v := (.int .i64 k.length)) ?_ (hK _ _ hS.stay (fun _ _ _ h => h) (fun _ => rfl)))
      first
        | (go_simp; done)
        | (go_simp; rfl)
    · intro n A u K hfr hn hS hv hK
      obtain ⟨h0, h1, -⟩ : A.tmps.getD 23 undef = .pointer (some ⟨g, 0, none⟩) ∧ A.tmps.getD 25 undef = .int .i64 k.length ∧ True := ⟨hv.1, hv.2.1, trivial⟩
      obtain ⟨q, hq, hD⟩ := hS
      refine owe_run rfl (wp_fn rfl (args2 h0 h1) (enter_fn Try.func51 (by kernel_rfl) rfl _ _) ((pick_in u u g q (Drawn.start hD.rd) (hqs n q hn hq) k.length (by omega) (by omega)).mono ?_))
      rintro e u1 ⟨x, rfl, hx0, hx1, hD2⟩
      obtain ⟨X, rfl⟩ := Int.eq_ofNat_of_zero_le hx0
      exact ⟨_, rfl, hK _ _ ⟨q + 1, by omega, hD.next hD2⟩ (fun j x hj h => hstab j x u u1 hD2.grow h) (fun _ => ⟨X, rfl, by omega⟩)⟩
    · intro n A u K hfr hn hS hv hK
      obtain ⟨h0, ⟨X, h1, hX⟩, -⟩ : A.tmps.getD 22 undef = .slice (some ⟨b, 0, none⟩) k.length kc ∧ (∃ X : Nat, A.tmps.getD 26 undef = .int .i64 X ∧ X < k.length) ∧ True := ⟨hv.1, hv.2.1, trivial⟩
      have r0 : (A.tmps[22]?).getD undef = .slice (some ⟨b, 0, none⟩) k.length kc := by simpa using h0
      have r1 : (A.tmps[26]?).getD undef = .int .i64 X := by simpa using h1
      have i1 : (X : Int) < (k.length : Int) := by omega
      have i0 : (0 : Int) ≤ (X : Int) := by omega
      refine owe_run rfl (wp_val (v := .pointer (some ⟨b, X, none⟩)) ?_ (hK _ _ hS.stay (fun _ _ _ h => h) (fun _ => ⟨X, rfl, hX⟩)))
      first
        | (go_simp; done)
        | (go_simp; rfl)
    · intro n A u K hfr hn hS hv hK
      obtain ⟨X, h1, hX⟩ : ∃ X : Nat, A.tmps.getD 27 undef = .pointer (some ⟨b, X, none⟩) ∧ X < k.length := hv.1
      have r1 : (A.tmps[27]?).getD undef = .pointer (some ⟨b, X, none⟩) := by simpa using h1
      have hcx : u.cell? ⟨b, X, none⟩ = some (.string k[X]) := by
        obtain ⟨q, hq, hD⟩ := hS
        exact HCL.out u hD.grow X hX
      refine owe_run rfl (wp_val (v := .string k[X]) ?_ (hK _ _ hS.stay (fun _ _ _ h => h) (fun _ => ⟨_, rfl, HSZ.out _ (List.getElem_mem hX)⟩)))
      first
        | (go_simp; done)
        | (go_simp; rfl)
    · intro n A u K hfr hn hS hv hK
      have q0 : A.tmps.getD 21 undef = vt := hv.1
      have r0 : (A.tmps[21]?).getD undef = vt := by simpa using q0
      refine owe_run rfl (wp_val (v := vt) ?_ (hK _ _ hS.stay (fun _ _ _ h => h) (fun _ => rfl)))
      first
        | (go_simp; done)
        | (go_simp; rfl)
    · intro n A u K hfr hn hS hv hK
      obtain ⟨s, h1, hX⟩ : ∃ s : ByteArray, A.tmps.getD 28 undef = .string s ∧ s.size ≤ 9 := hv.1
      have r1 : (A.tmps[28]?).getD undef = .string s := by simpa using h1
      refine owe_run rfl (wp_val (v := .string s) ?_ (hK _ _ hS.stay (fun _ _ _ h => h) (fun _ => ⟨s, rfl, hX⟩)))
      first
        | (go_simp; done)
        | (go_simp; rfl)
  case hq =>
    intro gg u hS hv
    have h8 : gg 8 = vt := hv.2.2.2.2.2.2.2.2.1 (by decide)
    obtain ⟨s, h9, hs9⟩ : ∃ s : ByteArray, gg 9 = .string s ∧ s.size ≤ 9 := hv.2.2.2.2.2.2.2.2.2.1 (by decide)
    obtain ⟨r2, hr2, hD5⟩ := hS
    have HO5 := Lib.hid (ownB_drawn HO4.out hD5.grow zg)
    have HF5 := Lib.hid (HF4.out.drawn hD5 hg)
    clear hv HO4 HF4
    simp only [List.map, putG, List.setIfInBounds_toArray, List.set_cons_succ, List.set_cons_zero]
    rw [h8, h9]
    go_wp2_with fail
    go_ret2
    exact ⟨_, rfl, ⟨_, T, s, rfl, HO5.out.reads, HT, hs9⟩, HF5.out⟩
end Go.Proofs.Ytadbafjmmhfeaaa
