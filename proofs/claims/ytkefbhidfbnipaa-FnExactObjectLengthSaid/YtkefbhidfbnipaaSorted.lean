/- Sorted, each once: the program's way. -/
import Derived.Test.YtkefbhidfbnipaaShelf
import Derived.Test.YtkefbhidfbnipaaBytes
import Derived.Test.YtkefbhidfbnipaaIns
import Derived.Test.YtkefbhidfbnipaaBase
import Derived.Sort.OwnSorted
namespace Go.Proofs.Ytkefbhidfbnipaa
open Go.ChangeShapes Go.WideShapes Go.ChangeAt Go.RowKit Go.Joins Go.Sort
set_option linter.unusedSimpArgs false
set_option linter.unusedVariables false
set_option maxRecDepth 100000
theorem encStr_bytes (s : ByteArray) : encStr (bytesS s) = Value.string s := by
  unfold bytesS encStr
  rfl
theorem svs_enc (l : List ByteArray) : svs l = (l.map bytesS).map encStr := by
  rw [List.map_map]
  unfold svs
  congr 1
/-- Texts of bytes. -/
theorem svs_sorted (l : List ByteArray) : svs (sortB l) = (sortS (l.map bytesS)).map encStr := by
  rw [svs_enc, sortB_map]
set_option maxHeartbeats 1000000 in
theorem i_sorted (w : World) (b off cap : Nat) (l : List ByteArray) (h : StrsAt w (.slice (some ⟨b, off, none⟩) l.length cap) l) (hl : l.length ≤ 1048576) :
    Calls Try.prog 86 #[.slice (some ⟨b, off, none⟩) l.length cap] w fun e w' => ∃ r, e = .returned r ∧ OwnS w' w.heap.size r (sortB l) ∧ (∃ g c, r = .slice (some ⟨g, 0, none⟩) (sortB l).length c) ∧ Below w.heap.size w w' := by
  have hc : ∀ j, j < l.length → w.cell? ⟨b, off + j, none⟩ = some (.string (l.getD j ByteArray.empty)) := by
    intro j hj
    obtain ⟨a, c, hv, -, -, -, hcell⟩ := h.form
    simp only [Value.slice.injEq] at hv
    obtain ⟨rfl, -, rfl⟩ := hv
    obtain ⟨b', off', e, hcell⟩ := hcell (by omega)
    simp only [Option.some.injEq, Addr.mk.injEq] at e
    obtain ⟨rfl, rfl, -⟩ := e
    rw [hcell j hj]
    simp [List.getD, hj]
  have HC := Lib.hid hc
  clear h hc
  go_enter Try.func86, Try.ntmps86
  go_wp2_with fail
  refine (Any.slices_Clone_string Try.lays16 b off l.length cap l w (Nat.le_refl _) (by omega) HC.out).mono ?_
  rintro e w1 ⟨v1, rfl, h1, hn1, hb1⟩
  rw [List.take_length] at h1
  rcases h1.2 with ⟨hnil, _⟩ | ⟨g, cp, cur, rfl, hg, hh, k1, k2, k3, k4⟩
  · exact absurd hnil hn1
  have hgl : g < w1.heap.size := (Array.getElem?_eq_some_iff.1 hh).1
  have hH : Holds encStr w1 g 0 (l.map bytesS).toArray := holds_of_block hh (by
    have e : (l.map bytesS).length = l.length * 1 := by simp
    rw [e, k4, ← svs_enc]
    rfl)
  have q1 := Any.slices_Sort_string Try.lays190 g 0 cp (l.map bytesS) w1 hH hgl (by rw [List.length_map]; omega)
  rw [List.length_map] at q1
  have hts : ((l.map bytesS).mergeSort fun x y => decide (x ≤ y)).length = l.length := by simp
  have hsc := sort_compact (l.map bytesS)
  generalize (l.map bytesS).mergeSort (fun x y => decide (x ≤ y)) = ts at q1 hts hsc
  have F1 := (From.start w).call hb1
  have HK : Hid (∀ w2 nn os, w2 = grow (putRow encStr (Sort.ahead w1 nn) g 0 ts.toArray) os → From w.heap.size w w2 ∧ Holds encStr w2 g 0 ts.toArray ∧ w2.ownsRow w.heap.size 9 1 (.slice (some ⟨g, 0, none⟩) l.length cp) l.length (ts.map encStr)) := by
    intro w2 nn os e
    subst e
    have o := ownsRow_sorted (n := nn) (os := os) (ss := l.map bytesS) (ts := ts) (base := w.heap.size) (by rw [hts]; simp) hg hh (by simpa using k1) k2 k3
    rw [List.length_map] at o
    refine ⟨F1.grown (grownBy_sorted _) (fun k e => by simp only [Option.some.injEq] at e; omega), ?_, o⟩
    rcases o.2 with ⟨hv0, _⟩ | ⟨g', cp', cur', hv0, _, hh', _, _, _, k4'⟩
    · cases hv0
    · simp only [Value.slice.injEq, Option.some.injEq, Addr.mk.injEq] at hv0
      obtain ⟨⟨rfl, -, -⟩, -, -⟩ := hv0
      exact holds_of_block hh' (by rw [hts]; simpa using k4')
  have Q1 := Lib.hid q1
  have HTS := Lib.hid hts
  have HSC := Lib.hid hsc
  have kcap : l.length ≤ cp := k1
  have kmax : cp ≤ maxLen := k2
  have gbase : w.heap.size ≤ g := hg
  clear h1 hn1 hb1 hh k1 k2 k3 k4 hH q1 hts hsc F1 HC hgl hg
  go_wp2_with fail
  refine Q1.out.mono ?_
  rintro e w2 ⟨rfl, nn, os, hw2⟩
  obtain ⟨F2, hH2, o2⟩ := HK.out w2 nn os hw2
  have q2 := Any.slices_Compact_string Try.lays194 g 0 cp ts w2 hH2 (by rw [HTS.out]; omega) (by rw [HTS.out]; exact kcap)
  rw [HTS.out] at q2
  have hcl : (Lib.compact ts).length = (sortB l).length := by rw [HSC.out, ← sortB_map, List.length_map]
  have hcle : (sortB l).length ≤ l.length := sortB_length l
  have HK2 : Hid (∀ w3 q, w3 = putRow encStr (Sort.ahead w2 q) g 0 (Lib.compact ts ++ List.replicate (l.length - (Lib.compact ts).length) []).toArray → From w.heap.size w w3 ∧ ∀ j, j < (sortB l).length → w3.cell? ⟨g, 0 + j, none⟩ = some (.string ((sortB l).getD j ByteArray.empty))) := by
    intro w3 q e
    have e2 : w3 = grow (putRow encStr (Sort.ahead w2 q) g 0 (Lib.compact ts ++ List.replicate (l.length - (Lib.compact ts).length) []).toArray) #[] := by
      rw [e]
      unfold grow
      simp
      rfl
    subst e2
    rcases o2.2 with ⟨hv0, _⟩ | ⟨g', cp', cur', hv0, hg', hh', j1, j2, j3, j4⟩
    · cases hv0
    simp only [Value.slice.injEq, Option.some.injEq, Addr.mk.injEq] at hv0
    obtain ⟨⟨rfl, -, -⟩, -, rfl⟩ := hv0
    have o := ownsRow_sorted (n := q) (os := #[]) (ss := ts) (ts := Lib.compact ts ++ List.replicate (l.length - (Lib.compact ts).length) []) (base := w.heap.size) (by rw [List.length_append, List.length_replicate, HTS.out, hcl]; omega) hg' hh' (by rw [HTS.out]; exact j1) j2 j3
    refine ⟨F2.grown (grownBy_sorted _) (fun k e => by simp only [Option.some.injEq] at e; omega), fun j hj => ?_⟩
    rw [Nat.zero_add, o.cellAt j (by rw [HTS.out]; omega), List.map_append, List.getElem?_append_left (by rw [List.length_map, hcl]; exact hj), HSC.out, ← svs_sorted]
    simp [svs, List.getD, hj]
  have Q2 := Lib.hid q2
  have HCL := Lib.hid hcl
  clear hw2 F2 hH2 o2 q2 HK Q1 hcl
  go_wp2_with fail
  refine Q2.out.mono ?_
  rintro e w3 ⟨rfl, q, hw3⟩
  obtain ⟨F3, hc3⟩ := HK2.out w3 q hw3
  rw [HCL.out]
  have q3 := Any.slices_Clone_string Try.lays16 g 0 (sortB l).length cp (sortB l) w3 (Nat.le_refl _) (by omega) hc3
  have Q3 := Lib.hid q3
  have HF3 := Lib.hid F3
  clear hw3 HK2 Q2 q3 F3 hc3
  go_wp2_with fail
  refine Q3.out.mono ?_
  rintro e w4 ⟨v4, rfl, h4, hn4, hb4⟩
  rw [List.take_length] at h4
  have HF4 := Lib.hid (HF3.out.call hb4)
  have HO : Hid (OwnS w4 w.heap.size v4 (sortB l)) := owns_mono (show w4.ownsRow w3.heap.size 9 1 v4 (sortB l).length (svs (sortB l)) from h4) HF3.out.le
  have HS : Hid (∃ g c, v4 = .slice (some ⟨g, 0, none⟩) (sortB l).length c) := by
    rcases h4.2 with ⟨hnil, _⟩ | ⟨g', c', cur', hv', _⟩
    · exact absurd hnil hn4
    · exact ⟨g', c', hv'⟩
  clear h4 hn4 hb4
  go_wp2_with fail
  go_ret
  exact ⟨v4, rfl, HO.out, HS.out, HF4.out.below⟩
end Go.Proofs.Ytkefbhidfbnipaa
