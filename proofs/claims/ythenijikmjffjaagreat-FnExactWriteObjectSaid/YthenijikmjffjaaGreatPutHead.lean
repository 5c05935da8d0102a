/- The bytes of headers: both functions compute the same. -/
import Derived.Test.YthenijikmjffjaaGreatHead
import Derived.Test.YthenijikmjffjaaGreatBytes
namespace Go.Proofs.YthenijikmjffjaaGreat
open Go.ChangeShapes Go.WideShapes Go.ChangeAt Go.RowKit Go.Joins
set_option linter.unusedSimpArgs false
set_option linter.unusedVariables false
set_option maxRecDepth 100000

/-- The bytes of a header; none of an invalid one. -/
def putHead (a b c d : Int) : List UInt8 := if headerB a b c d then [111, 98, 106, 1, UInt8.ofNat a.toNat, UInt8.ofNat b.toNat, UInt8.ofNat c.toNat] ++ leBytes 2 d.toNat ++ [0] else []
theorem putHead_length (a b c d : Int) : (putHead a b c d).length ≤ 10 := by
  unfold putHead
  split
  · simp [leBytes]
  · simp

set_option maxHeartbeats 1000000 in
theorem i_PutHeader (w : World) (a b c d : Int) :
    Calls Tryz.prog 37 #[headerV a b c d] w (RetB w (putHead a b c d)) := by
  cases hv : headerB a b c d
  · have E : putHead a b c d = [] := by simp [putHead, hv]
    rw [E]
    go_enter Tryz.func37, Tryz.ntmps37
    go_wp2_with fail
    refine (i_HeaderValid _ _ _ _ _).mono ?_
    rintro e w1 ⟨rfl, h1⟩
    have F1 := ((From.start w).alloc _).call h1
    rw [hv]
    clear h1
    go_wp2_with fail
    go_ret
    first
      | exact retB_nil _ _ _ rfl F1.below
      | exact ⟨_, rfl, World.ownsRow_lit w1 #[] 0 F1.le (Nat.zero_le _) rfl, (F1.alloc _).below⟩
  · have hh := hv
    simp only [headerB, Bool.and_eq_true] at hh
    obtain ⟨⟨⟨q1, q2⟩, q3⟩, q4⟩ := hh
    have q1 := (withinB_iff _ _ _).1 q1
    have q2 := (withinB_iff _ _ _).1 q2
    have q3 := (withinB_iff _ _ _).1 q3
    have q4 := (withinB_iff _ _ _).1 q4
    obtain ⟨A, rfl⟩ := Int.eq_ofNat_of_zero_le q1.1
    obtain ⟨B, rfl⟩ := Int.eq_ofNat_of_zero_le q2.1
    obtain ⟨C, rfl⟩ := Int.eq_ofNat_of_zero_le q3.1
    obtain ⟨D, rfl⟩ := Int.eq_ofNat_of_zero_le (show 0 ≤ d by omega)
    have q1 := q1.2
    have q2 := q2.2
    have q3 := q3.2
    obtain ⟨q4, q5⟩ := q4
    have E : putHead A B C D = [111, 98, 106, 1, UInt8.ofNat A, UInt8.ofNat B, UInt8.ofNat C] ++ leBytes 2 D ++ [0] := by simp [putHead, hv]
    have En : putNum (D : Int) 2 = leBytes 2 D := by
      unfold putNum numB
      rw [show withinB 2 1 4 = true from rfl, (withinB_iff _ _ _).2 (show 0 ≤ (D : Int) ∧ (D : Int) ≤ pow256 2 - 1 by show _ ∧ _ ≤ 65536 - 1; omega)]
      rfl
    have hcells : ([.int .u8 111, .int .u8 98, .int .u8 106, .int .u8 1, .int .u8 A, .int .u8 B, .int .u8 C] : List Value) = bvs [111, 98, 106, 1, UInt8.ofNat A, UInt8.ofNat B, UInt8.ofNat C] := by
      have f : ∀ n : Nat, n ≤ 255 → ((UInt8.ofNat n).toNat : Int) = n := fun n hn => by rw [UInt8.toNat_ofNat']; omega
      simp only [bvs, List.map_cons, List.map_nil, f A (by omega), f B (by omega), f C (by omega)]
      rfl
    obtain ⟨i0, hi, hz0, hz1, hz2⟩ := info_parts info_u8
    have EN := Lib.hid En
    have EE := Lib.hid E
    have HV := Lib.hid hv
    have HCL := Lib.hid hcells
    clear E En hv hcells
    go_enter Tryz.func37, Tryz.ntmps37
    go_wp2_with fail
    refine (i_HeaderValid _ _ _ _ _).mono ?_
    rintro e w1 ⟨rfl, h1⟩
    have F1 := ((From.start w).alloc _).call h1
    have b1 := (Blk.new w _ _).call h1
    have c1 := b1.cell
    have z1 := b1.lt
    rw [HV.out]
    clear h1
    go_wp2_with fail
    refine (i_PutNumber _ _ _).mono ?_
    rw [EN.out]
    rintro e w2 ⟨r, rfl, o2, h2⟩
    have hl2 : (leBytes 2 D).length = 2 := leBytes_length 2 D
    have F2 := (F1.alloc _).call h2
    have O2 : w2.ownsRow w.heap.size 5 1 (.slice (some ⟨w1.heap.size, 0, none⟩) 7 7) 7 [.int .u8 111, .int .u8 98, .int .u8 106, .int .u8 1, .int .u8 A, .int .u8 B, .int .u8 C] :=
      owns_call (World.ownsRow_lit (size := 1) w1 #[.int .u8 111, .int .u8 98, .int .u8 106, .int .u8 1, .int .u8 A, .int .u8 B, .int .u8 C] 7 F1.le (by decide) rfl) h2
    have S2 := src_reads Tryz.underlying27 o2.reads (bvs_one _)
    have HF := Lib.hid F2
    have HO := Lib.hid O2
    have HS := Lib.hid S2
    clear h2 o2 F1 b1 c1 F2 O2 S2 z1
    go_wp2_with (at_builtin; refine wpList_append_src rfl (.tmp 17) (.tmp 20) 27 27 rfl w.heap.size 5 i0 (.int .u8 0) 1 1 Tryz.underlying27 hi hz0 hz1 hz2 rfl (by decide) _ _ _ rfl HO.out _ _ _ rfl HS.out ?c1 ?c2 ?c3 ?_)
    case c1 => rw [hl2]; unfold maxLen; omega
    case c2 => rw [hl2]; omega
    case c3 => exact HF.out.le
    intro v3 w3 hown3 hgr3
    have F3 := HF.out.grown hgr3 (owns_block HO.out)
    have HF3 := Lib.hid F3
    have hown3' : w3.ownsRow w.heap.size 5 1 v3 9 (bvs ([111, 98, 106, 1, UInt8.ofNat A, UInt8.ofNat B, UInt8.ofNat C] ++ leBytes 2 D)) := by
      rw [bvs_append, ← HCL.out]; exact hown3
    have HO3 := Lib.hid hown3'
    clear hown3'
    clear hown3 F3 hgr3 HF HO HS
    go_wp2_with (at_builtin; refine wpList_append_src rfl _ _ 27 27 rfl w.heap.size 5 i0 (.int .u8 0) 1 1 Tryz.underlying27 hi hz0 hz1 hz2 rfl (by decide) _ _ _ rfl (HO3.out.alloc _) _ 1 [_] rfl (src_new Tryz.underlying27 _ [_] 1 1 1 _ rfl ?c0) ?c4 ?c5 ?c6 ?_)
    case c0 => intro u hu; obtain rfl := List.mem_singleton.1 hu; rfl
    case c4 => unfold maxLen; omega
    case c5 => omega
    case c6 => have := HF3.out.le; simp; omega
    intro v4 w4 hown4 hgr4
    have F4 := (HF3.out.alloc _).grown hgr4 (owns_block HO3.out)
    have HF4 := Lib.hid F4
    have HO4 : Hid (OwnB w4 w.heap.size v4 (putHead A B C D)) := by
      show OwnB _ _ _ _
      rw [EE.out]
      unfold OwnB
      rw [bvs_append, List.length_append, List.length_append, hl2]
      exact hown4
    clear hown4 F4 hgr4 HF3 HO3
    go_wp2_with fail
    go_ret
    exact ⟨_, rfl, HO4.out, HF4.out.below⟩
set_option maxHeartbeats 1000000 in
theorem s_PutHeader (w : World) (a b c d : Int) :
    Calls Tryz.prog 29 #[headerV a b c d] w (RetB w (putHead a b c d)) := by
  cases hv : headerB a b c d
  · have E : putHead a b c d = [] := by simp [putHead, hv]
    rw [E]
    go_enter Tryz.func29, Tryz.ntmps29
    go_wp2_with fail
    refine (s_HeaderValid _ _ _ _ _).mono ?_
    rintro e w1 ⟨rfl, h1⟩
    have F1 := ((From.start w).alloc _).call h1
    rw [hv]
    clear h1
    go_wp2_with fail
    go_ret
    first
      | exact retB_nil _ _ _ rfl F1.below
      | exact ⟨_, rfl, World.ownsRow_lit w1 #[] 0 F1.le (Nat.zero_le _) rfl, (F1.alloc _).below⟩
  · have hh := hv
    simp only [headerB, Bool.and_eq_true] at hh
    obtain ⟨⟨⟨q1, q2⟩, q3⟩, q4⟩ := hh
    have q1 := (withinB_iff _ _ _).1 q1
    have q2 := (withinB_iff _ _ _).1 q2
    have q3 := (withinB_iff _ _ _).1 q3
    have q4 := (withinB_iff _ _ _).1 q4
    obtain ⟨A, rfl⟩ := Int.eq_ofNat_of_zero_le q1.1
    obtain ⟨B, rfl⟩ := Int.eq_ofNat_of_zero_le q2.1
    obtain ⟨C, rfl⟩ := Int.eq_ofNat_of_zero_le q3.1
    obtain ⟨D, rfl⟩ := Int.eq_ofNat_of_zero_le (show 0 ≤ d by omega)
    have q1 := q1.2
    have q2 := q2.2
    have q3 := q3.2
    obtain ⟨q4, q5⟩ := q4
    have E : putHead A B C D = [111, 98, 106, 1, UInt8.ofNat A, UInt8.ofNat B, UInt8.ofNat C] ++ leBytes 2 D ++ [0] := by simp [putHead, hv]
    have En : putNum (D : Int) 2 = leBytes 2 D := by
      unfold putNum numB
      rw [show withinB 2 1 4 = true from rfl, (withinB_iff _ _ _).2 (show 0 ≤ (D : Int) ∧ (D : Int) ≤ pow256 2 - 1 by show _ ∧ _ ≤ 65536 - 1; omega)]
      rfl
    have hcells : ([.int .u8 111, .int .u8 98, .int .u8 106, .int .u8 1, .int .u8 A, .int .u8 B, .int .u8 C] : List Value) = bvs [111, 98, 106, 1, UInt8.ofNat A, UInt8.ofNat B, UInt8.ofNat C] := by
      have f : ∀ n : Nat, n ≤ 255 → ((UInt8.ofNat n).toNat : Int) = n := fun n hn => by rw [UInt8.toNat_ofNat']; omega
      simp only [bvs, List.map_cons, List.map_nil, f A (by omega), f B (by omega), f C (by omega)]
      rfl
    obtain ⟨i0, hi, hz0, hz1, hz2⟩ := info_parts info_u8
    have EN := Lib.hid En
    have EE := Lib.hid E
    have HV := Lib.hid hv
    have HCL := Lib.hid hcells
    clear E En hv hcells
    go_enter Tryz.func29, Tryz.ntmps29
    go_wp2_with fail
    refine (s_HeaderValid _ _ _ _ _).mono ?_
    rintro e w1 ⟨rfl, h1⟩
    have F1 := ((From.start w).alloc _).call h1
    have b1 := (Blk.new w _ _).call h1
    have c1 := b1.cell
    have z1 := b1.lt
    rw [HV.out]
    clear h1
    go_wp2_with fail
    refine (s_PutNumber _ _ _).mono ?_
    rw [EN.out]
    rintro e w2 ⟨r, rfl, o2, h2⟩
    have hl2 : (leBytes 2 D).length = 2 := leBytes_length 2 D
    have F2 := (F1.alloc _).call h2
    have O2 : w2.ownsRow w.heap.size 5 1 (.slice (some ⟨w1.heap.size, 0, none⟩) 7 7) 7 [.int .u8 111, .int .u8 98, .int .u8 106, .int .u8 1, .int .u8 A, .int .u8 B, .int .u8 C] :=
      owns_call (World.ownsRow_lit (size := 1) w1 #[.int .u8 111, .int .u8 98, .int .u8 106, .int .u8 1, .int .u8 A, .int .u8 B, .int .u8 C] 7 F1.le (by decide) rfl) h2
    have S2 := src_reads Tryz.underlying27 o2.reads (bvs_one _)
    have HF := Lib.hid F2
    have HO := Lib.hid O2
    have HS := Lib.hid S2
    clear h2 o2 F1 b1 c1 F2 O2 S2 z1
    go_wp2_with (at_builtin; refine wpList_append_src rfl (.tmp 18) (.tmp 21) 27 27 rfl w.heap.size 5 i0 (.int .u8 0) 1 1 Tryz.underlying27 hi hz0 hz1 hz2 rfl (by decide) _ _ _ rfl HO.out _ _ _ rfl HS.out ?c1 ?c2 ?c3 ?_)
    case c1 => rw [hl2]; unfold maxLen; omega
    case c2 => rw [hl2]; omega
    case c3 => exact HF.out.le
    intro v3 w3 hown3 hgr3
    have F3 := HF.out.grown hgr3 (owns_block HO.out)
    have HF3 := Lib.hid F3
    have hown3' : w3.ownsRow w.heap.size 5 1 v3 9 (bvs ([111, 98, 106, 1, UInt8.ofNat A, UInt8.ofNat B, UInt8.ofNat C] ++ leBytes 2 D)) := by
      rw [bvs_append, ← HCL.out]; exact hown3
    have HO3 := Lib.hid hown3'
    clear hown3'
    clear hown3 F3 hgr3 HF HO HS
    go_wp2_with (at_builtin; refine wpList_append_src rfl _ _ 27 27 rfl w.heap.size 5 i0 (.int .u8 0) 1 1 Tryz.underlying27 hi hz0 hz1 hz2 rfl (by decide) _ _ _ rfl (HO3.out.alloc _) _ 1 [_] rfl (src_new Tryz.underlying27 _ [_] 1 1 1 _ rfl ?c0) ?c4 ?c5 ?c6 ?_)
    case c0 => intro u hu; obtain rfl := List.mem_singleton.1 hu; rfl
    case c4 => unfold maxLen; omega
    case c5 => omega
    case c6 => have := HF3.out.le; simp; omega
    intro v4 w4 hown4 hgr4
    have F4 := (HF3.out.alloc _).grown hgr4 (owns_block HO3.out)
    have HF4 := Lib.hid F4
    have HO4 : Hid (OwnB w4 w.heap.size v4 (putHead A B C D)) := by
      show OwnB _ _ _ _
      rw [EE.out]
      unfold OwnB
      rw [bvs_append, List.length_append, List.length_append, hl2]
      exact hown4
    clear hown4 F4 hgr4 HF3 HO3
    go_wp2_with fail
    go_ret
    exact ⟨_, rfl, HO4.out, HF4.out.below⟩
end Go.Proofs.YthenijikmjffjaaGreat
