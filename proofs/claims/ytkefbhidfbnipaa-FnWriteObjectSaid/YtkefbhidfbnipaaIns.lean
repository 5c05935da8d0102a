/- A text put into a sorted list: the reference's way. -/
import Derived.Test.YtkefbhidfbnipaaBase
import Derived.Test.YtkefbhidfbnipaaBytes
import Derived.Test.YtkefbhidfbnipaaInv
import Derived.Test.YtkefbhidfbnipaaSec
namespace Go.Proofs.Ytkefbhidfbnipaa
open Go.ChangeShapes Go.WideShapes Go.ChangeAt Go.RowKit Go.Joins
set_option linter.unusedSimpArgs false
set_option linter.unusedVariables false
set_option maxRecDepth 100000
theorem lss_of {a b : ByteArray} {c : Bool} (h : less (bytesS a) (bytesS b) = c) : Op.bytesLess a.toList b.toList = c := by
  rw [toList_bytesS, toList_bytesS]; exact h
theorem svs_take (l : List ByteArray) (k : Nat) : svs (l.take k) = (svs l).take k := by simp [svs]
theorem svs_drop (l : List ByteArray) (k : Nat) : svs (l.drop k) = (svs l).drop k := by simp [svs]
/-- The end of a slice. -/
theorem Reads.drop {w : World} {a : Option Addr} {n cap : Nat} {xs : List Value} (h : Reads w 1 (.slice a n cap) n xs) (m : Nat) (hm : m ≤ n) : ∀ b, (∀ bl off, a = some ⟨bl, off, none⟩ → b = some ⟨bl, off + m, none⟩ ∨ m = n) → (b = none → cap = m) → Reads w 1 (.slice b (n - m) (cap - m)) (n - m) (xs.drop m) := by
  intro b hb hb2
  obtain ⟨h1, a', cap', hv, h2, h3, h4, h5⟩ := h
  simp only [Value.slice.injEq] at hv
  obtain ⟨rfl, _, rfl⟩ := hv
  refine ⟨by rw [List.length_drop, h1]; omega, b, cap - m, rfl, by omega, by omega, fun h => by have := hb2 h; omega, fun hn => ?_⟩
  obtain ⟨bl, off, rfl, hc⟩ := h5 (by omega)
  rcases hb bl off rfl with rfl | h
  · refine ⟨bl, off + m, rfl, fun j u hu => ?_⟩
    rw [List.getElem?_drop] at hu
    have := hc (m + j) u hu
    rwa [← Nat.add_assoc] at this
  · omega
/-- What a function ends in that hands back texts of its own. -/
def RetStrs (base : Nat) (w : World) (l : List ByteArray) (e : Ending) (w' : World) : Prop := ∃ r, e = .returned r ∧ OwnS w' base r l ∧ Below w.heap.size w w'
theorem ownS_call {w w' : World} {base : Nat} {v : Value} {l : List ByteArray} (h : OwnS w base v l) (hb : Below w.heap.size w w') : OwnS w' base v l := owns_call h hb
set_option maxHeartbeats 1000000 in
theorem l2Insert_any (w : World) (base : Nat) (hbase : base ≤ w.heap.size) (v : Value) (l : List ByteArray) (h : OwnS w base v l) (hl : l.length ≤ 1048576) (s : ByteArray) :
    Calls Try.prog 60 #[v, .string s] w (RetStrs base w (insB s l)) := by
  obtain ⟨i0, hi, hz0, hz1, hz2⟩ := info_parts info_str
  have HR := Lib.hid h.reads
  have HO := Lib.hid h
  obtain ⟨a, cap, rfl, hcap, hmax, hnone, hcell⟩ := h.reads.form
  have HC := Lib.hid hcell
  have HZ := Lib.hid hnone
  clear h hnone hcell
  unfold maxLen at hmax
  go_enter Try.func60, Try.ntmps60
  go_wp2_with fail
  go_loop [5] (fun i => ∃ k : Nat, k ≤ l.length ∧ i = .int .i64 k ∧ Hid (∀ j (hj : j < k) (hk : k ≤ l.length), less (bytesS (l[j]'(by omega))) (bytesS s) = true)) (fun i => l.length - (intOf i).toNat)
  case atStart => exact ⟨0, Nat.zero_le _, rfl, fun j hj => by omega⟩
  case round =>
    obtain ⟨k, hk, rfl, HL⟩ := hrel
    by_cases hlt : k < l.length
    · obtain ⟨b, off, rfl, hc⟩ := HC.out (by omega)
      have c0 := hc k hlt
      have i1 : (k : Int) < (l.length : Int) := by omega
      by_cases hls : less (bytesS l[k]) (bytesS s) = true
      · have e1 := lss_of hls
        have HL2 : Hid (∀ j (hj : j < k + 1) (hk : k + 1 ≤ l.length), less (bytesS (l[j]'(by omega))) (bytesS s) = true) := fun j hj hk2 => by
          by_cases hj2 : j < k
          · exact HL.out j hj2 (by omega)
          · obtain rfl : j = k := by omega
            exact hls
        clear hc hls
        go_wp2_with fail
        go_round
        case rel => exact ⟨k + 1, by omega, by go_num, HL2⟩
        case measure => simp [intOf]; try omega
      · have hls' : less (bytesS l[k]) (bytesS s) = false := by simpa using hls
        have e1 := lss_of hls'
        by_cases heq : bytesS l[k] = bytesS s
        · have e2 := str_eq heq
          have E : Hid (insB s l = l) := insB_same s l k hlt (fun j hj => HL.out j hj (by omega)) hls' heq
          clear hc hls hls' heq
          go_wp2_with fail
          go_ret
          exact ⟨_, rfl, by rw [E.out]; exact HO.out, Below.refl _ _⟩
        · have e2 := str_ne heq
          have E : Hid (insB s l = l.take k ++ [s] ++ l.drop k) := insB_new s l k (by omega) (fun j hj => HL.out j hj (by omega)) (fun _ => ⟨hls', heq⟩)
          clear hc hls hls' heq
          go_wp2_with fail
          have i2 : (k : Int) ≤ (l.length : Int) := by omega
          have i3 : (k : Int) ≤ (cap : Int) := by omega
          have i4 : (0 : Int) ≤ (k : Int) := by omega
          have hO := HO.out
          have hform : ∃ sd, (∀ u : World, ∀ A : Act, A.tmps.getD 41 undef = .slice (some ⟨b, off, none⟩) l.length cap → A.tmps.getD 42 undef = .int .i64 k → (execOp A.eval (Oper.mk (some 43) (Op.slice 61 (.tmp 41) (some (.tmp 42)) none none) 61 "" #[] none)).run Try.prog u = .ok (.value sd) u) ∧
              (∀ u : World, ∀ A : Act, A.tmps.getD 34 undef = .slice (some ⟨b, off, none⟩) l.length cap → A.tmps.getD 35 undef = .int .i64 k → (execOp A.eval (Oper.mk (some 36) (Op.slice 61 (.tmp 34) none (some (.tmp 35)) none) 61 "" #[] none)).run Try.prog u = .ok (.value (.slice (some ⟨b, off, none⟩) k cap)) u) ∧
              Reads w 1 sd (l.length - k) (svs (l.drop k)) := by
            by_cases hce : cap = k
            · have hkn : k = l.length := by omega
              refine ⟨.slice (some ⟨b, off, none⟩) (l.length - k) (cap - k), ?_, ?_, ?_⟩
              · intro u A h1 h2
                simp at h1 h2
                clear hkn
                go_simp
              · intro u A h1 h2
                simp at h1 h2
                clear hkn
                go_simp
              · rw [svs_drop]
                exact Reads.drop (show Reads w 1 _ _ _ from HR.out) k hk _ (fun bl of _ => .inr hkn) (fun h => by cases h)
            · refine ⟨.slice (some ⟨b, off + k, none⟩) (l.length - k) (cap - k), ?_, ?_, ?_⟩
              · intro u A h1 h2
                simp at h1 h2
                go_simp
              · intro u A h1 h2
                simp at h1 h2
                go_simp
              · rw [svs_drop]
                exact Reads.drop (show Reads w 1 _ _ _ from HR.out) k hk _ (fun bl of e => by simp only [Option.some.injEq, Addr.mk.injEq] at e; obtain ⟨rfl, rfl, _⟩ := e; exact .inl rfl) (fun h => by cases h)
          obtain ⟨sd, hs2, hs1, hrd⟩ := hform
          have HS2 := Lib.hid hs2
          have HS1 := Lib.hid hs1
          have HRD := Lib.hid hrd
          have HRT : Hid (Reads w 1 (.slice (some ⟨b, off, none⟩) k cap) k (svs (l.take k))) := by
            have := (show Reads w 1 _ _ _ from HR.out).take k hk cap (by omega) (Nat.le_refl _) HZ.out
            rw [Nat.mul_one] at this
            rw [svs_take]; exact this
          clear hs1 hs2 hrd hO e1 
          let V : Nat → Value → World → Prop := fun i v u => match i with
            | 0 => ∃ q, v = .slice (some ⟨q, 0, none⟩) 0 0 ∧ w.heap.size ≤ q ∧ Blk u q #[] 9
            | 1 => v = .slice (some ⟨b, off, none⟩) l.length cap
            | 2 => v = .int .i64 k
            | 3 => v = .slice (some ⟨b, off, none⟩) k cap
            | 4 => u.ownsRow w.heap.size 9 1 v (0 + k) ([] ++ svs (l.take k))
            | 5 => v = .string s
            | 6 => ∃ q, v = .slice (some ⟨q, 0, none⟩) 1 1 ∧ w.heap.size ≤ q ∧ Blk u q #[Value.string s] 9
            | 7 => u.ownsRow w.heap.size 9 1 v (0 + k + 1) ([] ++ svs (l.take k) ++ [Value.string s])
            | 8 => v = .slice (some ⟨b, off, none⟩) l.length cap
            | 9 => v = .int .i64 k
            | 10 => v = sd
            | 11 => u.ownsRow w.heap.size 9 1 v (0 + k + 1 + (l.length - k)) ([] ++ svs (l.take k) ++ [Value.string s] ++ svs (l.drop k))
            | 12 => u.ownsRow w.heap.size 9 1 v (0 + k + 1 + (l.length - k)) ([] ++ svs (l.take k) ++ [Value.string s] ++ svs (l.drop k))
            | _ => True
          have hstab : ∀ j v u u', Below u.heap.size u u' → V j v u → V j v u' := by
            intro j v u u' hb h
            rcases j with _ | _ | _ | _ | _ | _ | _ | _ | _ | _ | _ | _ | _ | j
            · obtain ⟨q, h1, h2, h3⟩ := h; exact ⟨q, h1, h2, h3.call hb⟩
            · exact h
            · exact h
            · exact h
            · exact owns_call h hb
            · exact h
            · obtain ⟨q, h1, h2, h3⟩ := h; exact ⟨q, h1, h2, h3.call hb⟩
            · exact owns_call h hb
            · exact h
            · exact h
            · exact h
            · exact owns_call h hb
            · exact owns_call h hb
            · exact h
          refine wp_region_use V (fun _ u => From w.heap.size w u) [[], [], [], [1, 2], [0, 3], [], [5], [4, 6], [], [], [8, 9], [7, 10], [11]] [[], [], [], [1, 2], [0, 1, 2, 3], [], [5], [0, 1, 2, 3, 4, 5, 6], [], [], [8, 9], [0, 1, 2, 3, 4, 5, 6, 7, 8, 9, 10], [0, 1, 2, 3, 4, 5, 6, 7, 8, 9, 10, 11]] [12] (by kernel_rfl) (by kernel_rfl) (by kernel_rfl) (by kernel_rfl) (by kernel_rfl) (From.start w).drew ?ho ?hq
          case ho =>
            refine ⟨?_, ?_, ?_, ?_, ?_, ?_, ?_, ?_, ?_, ?_, ?_, ?_, ?_, trivial⟩
            · intro n A u K hfr hn hS hv hK
              refine owe_run rfl (wp_val (v := .slice (some ⟨u.heap.size, 0, none⟩) 0 0) (w' := u.alloc (.cells #[] 9)) ?_ (hK _ _ (hS.alloc _) (fun j x _ h => hstab j x _ _ ((From.start u).alloc _).below h) (fun _ => ⟨_, rfl, hS.le, Blk.new u _ _⟩)))
              first
                | (go_simp; done)
                | (go_simp; rfl)
            · intro n A u K hfr hn hS hv hK
              have e4 : A.tmps.getD 0 undef = .slice (some ⟨b, off, none⟩) l.length cap := hfr 0 (not_dst (by kernel_rfl))
              refine owe_run rfl (wp_val (v := .slice (some ⟨b, off, none⟩) l.length cap) ?_ (hK _ _ hS (fun _ _ _ h => h) (fun _ => rfl)))
              first
                | (go_simp; done)
                | (go_simp; rfl)
            · intro n A u K hfr hn hS hv hK
              have e4 : A.tmps.getD 5 undef = .int .i64 k := hfr 5 (not_dst (by kernel_rfl))
              refine owe_run rfl (wp_val (v := .int .i64 k) ?_ (hK _ _ hS (fun _ _ _ h => h) (fun _ => rfl)))
              first
                | (go_simp; done)
                | (go_simp; rfl)
            · intro n A u K hfr hn hS hv hK
              refine owe_run rfl (wp_val (v := .slice (some ⟨b, off, none⟩) k cap) (HS1.out u A hv.1 hv.2.1) (hK _ _ hS (fun _ _ _ h => h) (fun _ => rfl)))
            · intro n A u K hfr hn hS hv hK
              obtain ⟨⟨q, h0, h1, h2⟩, h3, -⟩ : (∃ q, A.tmps.getD 33 undef = .slice (some ⟨q, 0, none⟩) 0 0 ∧ w.heap.size ≤ q ∧ Blk u q #[] 9) ∧ A.tmps.getD 36 undef = .slice (some ⟨b, off, none⟩) k cap ∧ True := ⟨hv.1, hv.2.1, trivial⟩
              have ho : u.ownsRow w.heap.size 9 1 (.slice (some ⟨q, 0, none⟩) 0 0) 0 [] := ⟨rfl, .inr ⟨q, 0, #[], rfl, h1, h2, Nat.le_refl _, Nat.zero_le _, rfl, rfl⟩⟩
              obtain ⟨v', u', hrun, hown, hgr⟩ := run_append_src u 61 61 61 w.heap.size 9 i0 (.string ⟨#[]⟩) Try.underlying61 hi hz0 hz1.symm (by rw [hz1]; decide) _ 0 [] (by rw [hz1]; exact ho) (.slice (some ⟨b, off, none⟩) k cap) k (svs (l.take k)) (by rw [hz1]; exact src_reads Try.underlying61 (HRT.out.below (Nat.le_refl _) hS.below) (svs_one _)) (by unfold maxLen; omega) (by rw [hz2]; omega) hS.le
              rw [hz1] at hown
              refine owe_run rfl (wp_val (v := v') (w' := u') ?_ (hK _ _ (hS.grown hgr (fun b hb => by simp [Value.ownBlock] at hb; omega)) (fun j x hj h => ?_) (fun _ => hown)))
              · simp [execOp, resolve, invoke, builtin, Act.eval, h0, h3, hrun]
              · rcases j with _ | _ | _ | _ | _ | _ | _ | _ | _ | _ | _ | _ | _ | j
                all_goals first
                  | exact h
                  | exact absurd hj (by decide)
                  | (obtain ⟨p, h4, h5, h6⟩ := h
                     refine ⟨p, h4, h5, h6.grown hgr (fun e => ?_)⟩
                     simp only [Value.ownBlock, Option.some.injEq] at e
                     subst e
                     have h7 : u.heap[p]? = some (.cells #[] 9 (0, 0)) := h2
                     have h8 : u.heap[p]? = some (.cells #[Value.string s] 9 (0, 0)) := h6
                     rw [h7] at h8
                     simp at h8)
            · intro n A u K hfr hn hS hv hK
              have e4 : A.tmps.getD 1 undef = .string s := hfr 1 (not_dst (by kernel_rfl))
              refine owe_run rfl (wp_val (v := .string s) ?_ (hK _ _ hS (fun _ _ _ h => h) (fun _ => rfl)))
              first
                | (go_simp; done)
                | (go_simp; rfl)
            · intro n A u K hfr hn hS hv hK
              have e4 : A.tmps.getD 38 undef = .string s := hv.1
              have e4' : (A.tmps[38]?).getD undef = .string s := by simpa using e4
              refine owe_run rfl (wp_val (v := .slice (some ⟨u.heap.size, 0, none⟩) 1 1) (w' := u.alloc (.cells #[Value.string s] 9)) ?_ (hK _ _ (hS.alloc _) (fun j x _ h => hstab j x _ _ ((From.start u).alloc _).below h) (fun _ => ⟨_, rfl, hS.le, Blk.new u _ _⟩)))
              first
                | (go_simp; done)
                | (go_simp; rfl)
            · intro n A u K hfr hn hS hv hK
              obtain ⟨h0, ⟨q, h3, h1, h2⟩, -⟩ : u.ownsRow w.heap.size 9 1 (A.tmps.getD 37 undef) (0 + k) ([] ++ svs (l.take k)) ∧ (∃ q, A.tmps.getD 39 undef = .slice (some ⟨q, 0, none⟩) 1 1 ∧ w.heap.size ≤ q ∧ Blk u q #[Value.string s] 9) ∧ True := ⟨hv.1, hv.2.1, trivial⟩
              obtain ⟨v', u', hrun, hown, hgr⟩ := run_append_src u 61 61 61 w.heap.size 9 i0 (.string ⟨#[]⟩) Try.underlying61 hi hz0 hz1.symm (by rw [hz1]; decide) _ _ _ (by rw [hz1]; exact h0) (.slice (some ⟨q, 0, none⟩) 1 1) 1 [Value.string s] (by rw [hz1]; exact src_blk Try.underlying61 u q [Value.string s] 1 1 1 9 h2 rfl (fun x hx => by obtain rfl := List.mem_singleton.1 hx; rfl)) (by unfold maxLen; omega) (by rw [hz2]; omega) hS.le
              rw [hz1] at hown
              refine owe_run rfl (wp_val (v := v') (w' := u') ?_ (hK _ _ (hS.grown hgr (owns_block h0)) (fun j x hj h => ?_) (fun _ => hown)))
              · simp at h3 hrun
                simp [execOp, resolve, invoke, builtin, Act.eval, h3, hrun]
              · rcases j with _ | _ | _ | _ | _ | _ | _ | _ | _ | _ | _ | _ | _ | j
                all_goals first
                  | exact h
                  | exact absurd hj (by decide)
            · intro n A u K hfr hn hS hv hK
              have e4 : A.tmps.getD 0 undef = .slice (some ⟨b, off, none⟩) l.length cap := hfr 0 (not_dst (by kernel_rfl))
              refine owe_run rfl (wp_val (v := .slice (some ⟨b, off, none⟩) l.length cap) ?_ (hK _ _ hS (fun _ _ _ h => h) (fun _ => rfl)))
              first
                | (go_simp; done)
                | (go_simp; rfl)
            · intro n A u K hfr hn hS hv hK
              have e4 : A.tmps.getD 5 undef = .int .i64 k := hfr 5 (not_dst (by kernel_rfl))
              refine owe_run rfl (wp_val (v := .int .i64 k) ?_ (hK _ _ hS (fun _ _ _ h => h) (fun _ => rfl)))
              first
                | (go_simp; done)
                | (go_simp; rfl)
            · intro n A u K hfr hn hS hv hK
              refine owe_run rfl (wp_val (v := sd) (HS2.out u A hv.1 hv.2.1) (hK _ _ hS (fun _ _ _ h => h) (fun _ => rfl)))
            · intro n A u K hfr hn hS hv hK
              obtain ⟨h0, h3, -⟩ : u.ownsRow w.heap.size 9 1 (A.tmps.getD 40 undef) (0 + k + 1) ([] ++ svs (l.take k) ++ [Value.string s]) ∧ A.tmps.getD 43 undef = sd ∧ True := ⟨hv.1, hv.2.1, trivial⟩
              obtain ⟨v', u', hrun, hown, hgr⟩ := run_append_src u 61 61 61 w.heap.size 9 i0 (.string ⟨#[]⟩) Try.underlying61 hi hz0 hz1.symm (by rw [hz1]; decide) _ _ _ (by rw [hz1]; exact h0) sd (l.length - k) (svs (l.drop k)) (by rw [hz1]; exact src_reads Try.underlying61 (Reads.below HRD.out (Nat.le_refl _) hS.below) (svs_one _)) (by unfold maxLen; omega) (by rw [hz2]; omega) hS.le
              rw [hz1] at hown
              refine owe_run rfl (wp_val (v := v') (w' := u') ?_ (hK _ _ (hS.grown hgr (owns_block h0)) (fun j x hj h => ?_) (fun _ => hown)))
              · simp at h3 hrun
                simp [execOp, resolve, invoke, builtin, Act.eval, h3, hrun]
              · rcases j with _ | _ | _ | _ | _ | _ | _ | _ | _ | _ | _ | _ | _ | j
                all_goals first
                  | exact h
                  | exact absurd hj (by decide)
            · intro n A u K hfr hn hS hv hK
              have h0 : u.ownsRow w.heap.size 9 1 (A.tmps.getD 44 undef) (0 + k + 1 + (l.length - k)) ([] ++ svs (l.take k) ++ [Value.string s] ++ svs (l.drop k)) := hv.1
              refine owe_run rfl (wp_val (v := A.tmps.getD 44 undef) ?_ (hK _ _ hS (fun _ _ _ h => h) (fun _ => h0)))
              simp [execOp, Act.eval]
          case hq =>
            intro g u hS hv
            have h12 : u.ownsRow w.heap.size 9 1 (g 12) (0 + k + 1 + (l.length - k)) ([] ++ svs (l.take k) ++ [Value.string s] ++ svs (l.drop k)) := hv.2.2.2.2.2.2.2.2.2.2.2.2.1 (by decide)
            have HO3 : Hid (OwnS u w.heap.size (g 12) (insB s l)) := by
              show OwnS _ _ _ _
              rw [E.out]
              unfold OwnS
              have e5 : (l.take k ++ [s] ++ l.drop k).length = 0 + k + 1 + (l.length - k) := by simp; omega
              rw [e5, svs_append, svs_append]
              exact h12
            have HF3 := Lib.hid hS
            clear hv h12 hS
            simp only [List.map, putG, List.setIfInBounds_toArray, List.set_cons_succ, List.set_cons_zero]
            go_wp2_with fail
            go_ret
            exact ⟨_, rfl, owns_mono HO3.out hbase, HF3.out.below⟩
    · have HK2 : Hid (k = l.length) := (by omega : k = l.length)
      have i1 : ¬ (k : Int) < (l.length : Int) := by omega
      have E : Hid (insB s l = l.take k ++ [s] ++ l.drop k) := insB_new s l k hk (fun j hj => HL.out j hj hk) (fun h => absurd h (by omega))
      go_wp2_with fail
      have i2 : (k : Int) ≤ (l.length : Int) := by omega
      have i3 : (k : Int) ≤ (cap : Int) := by omega
      have i4 : (0 : Int) ≤ (k : Int) := by omega
      have hO := HO.out
      have hform : ∃ sd, (∀ u : World, ∀ A : Act, A.tmps.getD 41 undef = .slice a l.length cap → A.tmps.getD 42 undef = .int .i64 k → (execOp A.eval (Oper.mk (some 43) (Op.slice 61 (.tmp 41) (some (.tmp 42)) none none) 61 "" #[] none)).run Try.prog u = .ok (.value sd) u) ∧
          (∀ u : World, ∀ A : Act, A.tmps.getD 34 undef = .slice a l.length cap → A.tmps.getD 35 undef = .int .i64 k → (execOp A.eval (Oper.mk (some 36) (Op.slice 61 (.tmp 34) none (some (.tmp 35)) none) 61 "" #[] none)).run Try.prog u = .ok (.value (.slice a k cap)) u) ∧
          Reads w 1 sd (l.length - k) (svs (l.drop k)) := by
        have hkn : k = l.length := HK2.out
        cases a with
        | none =>
          obtain rfl := HZ.out rfl
          obtain rfl : k = 0 := by omega
          have hl0 : l.length = 0 := by omega
          refine ⟨.slice none 0 0, ?_, ?_, ?_⟩
          · intro u A h1 h2
            rw [hl0] at h1
            simp at h1 h2
            clear hkn hl0
            go_simp
          · intro u A h1 h2
            rw [hl0] at h1
            simp at h1 h2
            clear hkn hl0
            go_simp
          · have : l = [] := List.eq_nil_of_length_eq_zero hl0
            subst this
            exact Reads.nil _ _
        | some ad =>
          by_cases hce : cap = k
          · refine ⟨.slice (some ad) (l.length - k) (cap - k), ?_, ?_, ?_⟩
            · intro u A h1 h2
              simp at h1 h2
              clear hkn
              go_simp
            · intro u A h1 h2
              simp at h1 h2
              clear hkn
              go_simp
            · rw [svs_drop]
              exact Reads.drop (show Reads w 1 _ _ _ from HR.out) k hk _ (fun bl of _ => .inr hkn) (fun h => by cases h)
          · refine ⟨.slice (some (ad.add k)) (l.length - k) (cap - k), ?_, ?_, ?_⟩
            · intro u A h1 h2
              simp at h1 h2
              clear hkn
              go_simp
            · intro u A h1 h2
              simp at h1 h2
              clear hkn
              go_simp
            · rw [svs_drop]
              exact Reads.drop (show Reads w 1 _ _ _ from HR.out) k hk _ (fun bl of _ => .inr hkn) (fun h => by cases h)
      obtain ⟨sd, hs2, hs1, hrd⟩ := hform
      have HS2 := Lib.hid hs2
      have HS1 := Lib.hid hs1
      have HRD := Lib.hid hrd
      have HRT : Hid (Reads w 1 (.slice a k cap) k (svs (l.take k))) := by
        have := (show Reads w 1 _ _ _ from HR.out).take k hk cap (by omega) (Nat.le_refl _) HZ.out
        rw [Nat.mul_one] at this
        rw [svs_take]; exact this
      clear hs1 hs2 hrd hO 
      let V : Nat → Value → World → Prop := fun i v u => match i with
        | 0 => ∃ q, v = .slice (some ⟨q, 0, none⟩) 0 0 ∧ w.heap.size ≤ q ∧ Blk u q #[] 9
        | 1 => v = .slice a l.length cap
        | 2 => v = .int .i64 k
        | 3 => v = .slice a k cap
        | 4 => u.ownsRow w.heap.size 9 1 v (0 + k) ([] ++ svs (l.take k))
        | 5 => v = .string s
        | 6 => ∃ q, v = .slice (some ⟨q, 0, none⟩) 1 1 ∧ w.heap.size ≤ q ∧ Blk u q #[Value.string s] 9
        | 7 => u.ownsRow w.heap.size 9 1 v (0 + k + 1) ([] ++ svs (l.take k) ++ [Value.string s])
        | 8 => v = .slice a l.length cap
        | 9 => v = .int .i64 k
        | 10 => v = sd
        | 11 => u.ownsRow w.heap.size 9 1 v (0 + k + 1 + (l.length - k)) ([] ++ svs (l.take k) ++ [Value.string s] ++ svs (l.drop k))
        | 12 => u.ownsRow w.heap.size 9 1 v (0 + k + 1 + (l.length - k)) ([] ++ svs (l.take k) ++ [Value.string s] ++ svs (l.drop k))
        | _ => True
      have hstab : ∀ j v u u', Below u.heap.size u u' → V j v u → V j v u' := by
        intro j v u u' hb h
        rcases j with _ | _ | _ | _ | _ | _ | _ | _ | _ | _ | _ | _ | _ | j
        · obtain ⟨q, h1, h2, h3⟩ := h; exact ⟨q, h1, h2, h3.call hb⟩
        · exact h
        · exact h
        · exact h
        · exact owns_call h hb
        · exact h
        · obtain ⟨q, h1, h2, h3⟩ := h; exact ⟨q, h1, h2, h3.call hb⟩
        · exact owns_call h hb
        · exact h
        · exact h
        · exact h
        · exact owns_call h hb
        · exact owns_call h hb
        · exact h
      refine wp_region_use V (fun _ u => From w.heap.size w u) [[], [], [], [1, 2], [0, 3], [], [5], [4, 6], [], [], [8, 9], [7, 10], [11]] [[], [], [], [1, 2], [0, 1, 2, 3], [], [5], [0, 1, 2, 3, 4, 5, 6], [], [], [8, 9], [0, 1, 2, 3, 4, 5, 6, 7, 8, 9, 10], [0, 1, 2, 3, 4, 5, 6, 7, 8, 9, 10, 11]] [12] (by kernel_rfl) (by kernel_rfl) (by kernel_rfl) (by kernel_rfl) (by kernel_rfl) (From.start w).drew ?ho ?hq
      case ho =>
        refine ⟨?_, ?_, ?_, ?_, ?_, ?_, ?_, ?_, ?_, ?_, ?_, ?_, ?_, trivial⟩
        · intro n A u K hfr hn hS hv hK
          refine owe_run rfl (wp_val (v := .slice (some ⟨u.heap.size, 0, none⟩) 0 0) (w' := u.alloc (.cells #[] 9)) ?_ (hK _ _ (hS.alloc _) (fun j x _ h => hstab j x _ _ ((From.start u).alloc _).below h) (fun _ => ⟨_, rfl, hS.le, Blk.new u _ _⟩)))
          first
            | (go_simp; done)
            | (go_simp; rfl)
        · intro n A u K hfr hn hS hv hK
          have e4 : A.tmps.getD 0 undef = .slice a l.length cap := hfr 0 (not_dst (by kernel_rfl))
          refine owe_run rfl (wp_val (v := .slice a l.length cap) ?_ (hK _ _ hS (fun _ _ _ h => h) (fun _ => rfl)))
          first
            | (go_simp; done)
            | (go_simp; rfl)
        · intro n A u K hfr hn hS hv hK
          have e4 : A.tmps.getD 5 undef = .int .i64 k := hfr 5 (not_dst (by kernel_rfl))
          refine owe_run rfl (wp_val (v := .int .i64 k) ?_ (hK _ _ hS (fun _ _ _ h => h) (fun _ => rfl)))
          first
            | (go_simp; done)
            | (go_simp; rfl)
        · intro n A u K hfr hn hS hv hK
          refine owe_run rfl (wp_val (v := .slice a k cap) (HS1.out u A hv.1 hv.2.1) (hK _ _ hS (fun _ _ _ h => h) (fun _ => rfl)))
        · intro n A u K hfr hn hS hv hK
          obtain ⟨⟨q, h0, h1, h2⟩, h3, -⟩ : (∃ q, A.tmps.getD 33 undef = .slice (some ⟨q, 0, none⟩) 0 0 ∧ w.heap.size ≤ q ∧ Blk u q #[] 9) ∧ A.tmps.getD 36 undef = .slice a k cap ∧ True := ⟨hv.1, hv.2.1, trivial⟩
          have ho : u.ownsRow w.heap.size 9 1 (.slice (some ⟨q, 0, none⟩) 0 0) 0 [] := ⟨rfl, .inr ⟨q, 0, #[], rfl, h1, h2, Nat.le_refl _, Nat.zero_le _, rfl, rfl⟩⟩
          obtain ⟨v', u', hrun, hown, hgr⟩ := run_append_src u 61 61 61 w.heap.size 9 i0 (.string ⟨#[]⟩) Try.underlying61 hi hz0 hz1.symm (by rw [hz1]; decide) _ 0 [] (by rw [hz1]; exact ho) (.slice a k cap) k (svs (l.take k)) (by rw [hz1]; exact src_reads Try.underlying61 (HRT.out.below (Nat.le_refl _) hS.below) (svs_one _)) (by unfold maxLen; omega) (by rw [hz2]; omega) hS.le
          rw [hz1] at hown
          refine owe_run rfl (wp_val (v := v') (w' := u') ?_ (hK _ _ (hS.grown hgr (fun b hb => by simp [Value.ownBlock] at hb; omega)) (fun j x hj h => ?_) (fun _ => hown)))
          · simp [execOp, resolve, invoke, builtin, Act.eval, h0, h3, hrun]
          · rcases j with _ | _ | _ | _ | _ | _ | _ | _ | _ | _ | _ | _ | _ | j
            all_goals first
              | exact h
              | exact absurd hj (by decide)
              | (obtain ⟨p, h4, h5, h6⟩ := h
                 refine ⟨p, h4, h5, h6.grown hgr (fun e => ?_)⟩
                 simp only [Value.ownBlock, Option.some.injEq] at e
                 subst e
                 have h7 : u.heap[p]? = some (.cells #[] 9 (0, 0)) := h2
                 have h8 : u.heap[p]? = some (.cells #[Value.string s] 9 (0, 0)) := h6
                 rw [h7] at h8
                 simp at h8)
        · intro n A u K hfr hn hS hv hK
          have e4 : A.tmps.getD 1 undef = .string s := hfr 1 (not_dst (by kernel_rfl))
          refine owe_run rfl (wp_val (v := .string s) ?_ (hK _ _ hS (fun _ _ _ h => h) (fun _ => rfl)))
          first
            | (go_simp; done)
            | (go_simp; rfl)
        · intro n A u K hfr hn hS hv hK
          have e4 : A.tmps.getD 38 undef = .string s := hv.1
          have e4' : (A.tmps[38]?).getD undef = .string s := by simpa using e4
          refine owe_run rfl (wp_val (v := .slice (some ⟨u.heap.size, 0, none⟩) 1 1) (w' := u.alloc (.cells #[Value.string s] 9)) ?_ (hK _ _ (hS.alloc _) (fun j x _ h => hstab j x _ _ ((From.start u).alloc _).below h) (fun _ => ⟨_, rfl, hS.le, Blk.new u _ _⟩)))
          first
            | (go_simp; done)
            | (go_simp; rfl)
        · intro n A u K hfr hn hS hv hK
          obtain ⟨h0, ⟨q, h3, h1, h2⟩, -⟩ : u.ownsRow w.heap.size 9 1 (A.tmps.getD 37 undef) (0 + k) ([] ++ svs (l.take k)) ∧ (∃ q, A.tmps.getD 39 undef = .slice (some ⟨q, 0, none⟩) 1 1 ∧ w.heap.size ≤ q ∧ Blk u q #[Value.string s] 9) ∧ True := ⟨hv.1, hv.2.1, trivial⟩
          obtain ⟨v', u', hrun, hown, hgr⟩ := run_append_src u 61 61 61 w.heap.size 9 i0 (.string ⟨#[]⟩) Try.underlying61 hi hz0 hz1.symm (by rw [hz1]; decide) _ _ _ (by rw [hz1]; exact h0) (.slice (some ⟨q, 0, none⟩) 1 1) 1 [Value.string s] (by rw [hz1]; exact src_blk Try.underlying61 u q [Value.string s] 1 1 1 9 h2 rfl (fun x hx => by obtain rfl := List.mem_singleton.1 hx; rfl)) (by unfold maxLen; omega) (by rw [hz2]; omega) hS.le
          rw [hz1] at hown
          refine owe_run rfl (wp_val (v := v') (w' := u') ?_ (hK _ _ (hS.grown hgr (owns_block h0)) (fun j x hj h => ?_) (fun _ => hown)))
          · simp at h3 hrun
            simp [execOp, resolve, invoke, builtin, Act.eval, h3, hrun]
          · rcases j with _ | _ | _ | _ | _ | _ | _ | _ | _ | _ | _ | _ | _ | j
            all_goals first
              | exact h
              | exact absurd hj (by decide)
        · intro n A u K hfr hn hS hv hK
          have e4 : A.tmps.getD 0 undef = .slice a l.length cap := hfr 0 (not_dst (by kernel_rfl))
          refine owe_run rfl (wp_val (v := .slice a l.length cap) ?_ (hK _ _ hS (fun _ _ _ h => h) (fun _ => rfl)))
          first
            | (go_simp; done)
            | (go_simp; rfl)
        · intro n A u K hfr hn hS hv hK
          have e4 : A.tmps.getD 5 undef = .int .i64 k := hfr 5 (not_dst (by kernel_rfl))
          refine owe_run rfl (wp_val (v := .int .i64 k) ?_ (hK _ _ hS (fun _ _ _ h => h) (fun _ => rfl)))
          first
            | (go_simp; done)
            | (go_simp; rfl)
        · intro n A u K hfr hn hS hv hK
          refine owe_run rfl (wp_val (v := sd) (HS2.out u A hv.1 hv.2.1) (hK _ _ hS (fun _ _ _ h => h) (fun _ => rfl)))
        · intro n A u K hfr hn hS hv hK
          obtain ⟨h0, h3, -⟩ : u.ownsRow w.heap.size 9 1 (A.tmps.getD 40 undef) (0 + k + 1) ([] ++ svs (l.take k) ++ [Value.string s]) ∧ A.tmps.getD 43 undef = sd ∧ True := ⟨hv.1, hv.2.1, trivial⟩
          obtain ⟨v', u', hrun, hown, hgr⟩ := run_append_src u 61 61 61 w.heap.size 9 i0 (.string ⟨#[]⟩) Try.underlying61 hi hz0 hz1.symm (by rw [hz1]; decide) _ _ _ (by rw [hz1]; exact h0) sd (l.length - k) (svs (l.drop k)) (by rw [hz1]; exact src_reads Try.underlying61 (Reads.below HRD.out (Nat.le_refl _) hS.below) (svs_one _)) (by unfold maxLen; omega) (by rw [hz2]; omega) hS.le
          rw [hz1] at hown
          refine owe_run rfl (wp_val (v := v') (w' := u') ?_ (hK _ _ (hS.grown hgr (owns_block h0)) (fun j x hj h => ?_) (fun _ => hown)))
          · simp at h3 hrun
            simp [execOp, resolve, invoke, builtin, Act.eval, h3, hrun]
          · rcases j with _ | _ | _ | _ | _ | _ | _ | _ | _ | _ | _ | _ | _ | j
            all_goals first
              | exact h
              | exact absurd hj (by decide)
        · intro n A u K hfr hn hS hv hK
          have h0 : u.ownsRow w.heap.size 9 1 (A.tmps.getD 44 undef) (0 + k + 1 + (l.length - k)) ([] ++ svs (l.take k) ++ [Value.string s] ++ svs (l.drop k)) := hv.1
          refine owe_run rfl (wp_val (v := A.tmps.getD 44 undef) ?_ (hK _ _ hS (fun _ _ _ h => h) (fun _ => h0)))
          simp [execOp, Act.eval]
      case hq =>
        intro g u hS hv
        have h12 : u.ownsRow w.heap.size 9 1 (g 12) (0 + k + 1 + (l.length - k)) ([] ++ svs (l.take k) ++ [Value.string s] ++ svs (l.drop k)) := hv.2.2.2.2.2.2.2.2.2.2.2.2.1 (by decide)
        have HO3 : Hid (OwnS u w.heap.size (g 12) (insB s l)) := by
          show OwnS _ _ _ _
          rw [E.out]
          unfold OwnS
          have e5 : (l.take k ++ [s] ++ l.drop k).length = 0 + k + 1 + (l.length - k) := by simp; omega
          rw [e5, svs_append, svs_append]
          exact h12
        have HF3 := Lib.hid hS
        clear hv h12 hS
        simp only [List.map, putG, List.setIfInBounds_toArray, List.set_cons_succ, List.set_cons_zero]
        go_wp2_with fail
        go_ret
        exact ⟨_, rfl, owns_mono HO3.out hbase, HF3.out.below⟩
end Go.Proofs.Ytkefbhidfbnipaa
