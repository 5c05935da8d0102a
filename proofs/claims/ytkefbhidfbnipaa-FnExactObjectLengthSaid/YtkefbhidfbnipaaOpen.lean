/- Arguments of the statements: symbols, sections, objects, texts, numbers. -/
import Derived.Test.YtkefbhidfbnipaaSec
import Derived.Test.YtkefbhidfbnipaaBase
import Derived.SliceStrings
namespace Go.Proofs.Ytkefbhidfbnipaa
open Go.ChangeShapes Go.WideShapes Go.ChangeAt Go.RowKit Go.Joins
set_option linter.unusedSimpArgs false
set_option linter.unusedVariables false
set_option maxRecDepth 100000
theorem list_of {α : Type} {p : Nat → α → Prop} : ∀ (n : Nat), (∀ i, i < n → ∃ x, p i x) → ∃ l : List α, l.length = n ∧ ∀ i (hi : i < l.length), p i l[i]
  | 0, _ => ⟨[], rfl, fun i hi => by cases hi⟩
  | n + 1, h => by
    obtain ⟨l, h1, h2⟩ := list_of n fun i hi => h i (by omega)
    obtain ⟨x, hx⟩ := h n (by omega)
    refine ⟨l ++ [x], by simp [h1], fun i hi => ?_⟩
    by_cases hi2 : i < l.length
    · rw [List.getElem_append_left hi2]; exact h2 i hi2
    · obtain rfl : i = l.length := by simp at hi; omega
      rw [List.getElem_append_right (by omega)]
      simpa [h1] using hx
/-- A slice whose things are read one by one. -/
theorem reads_rows {α : Type} {f : α → List Value} {k : Nat} (hk : 0 < k) (hf : ∀ x, (f x).length = k) {w : World} {a : Addr} {cap : Nat} (l : List α) (hl : l.length ≤ cap) (hm : cap ≤ maxLen)
    (hc : ∀ i (hi : i < l.length) j u, (f l[i])[j]? = some u → w.cell? (a.add (i * k + j)) = some u) : Reads w k (.slice (some a) l.length cap) l.length (l.flatMap f) := by
  refine ⟨flat_length f k hf l, some a, cap, rfl, hl, hm, fun h => (by cases h), fun hn => ?_⟩
  obtain ⟨ab, ao, spot⟩ := a
  have h0 := hc 0 hn 0 _ (List.getElem?_eq_getElem (by rw [hf]; exact hk))
  have hspot : spot = none := by simpa [Addr.add] using World.cell?_spot h0
  subst hspot
  refine ⟨ab, ao, rfl, fun j u hu => ?_⟩
  have hj : j < l.length * k := by have := (List.getElem?_eq_some_iff.1 hu).1; rwa [flat_length f k hf] at this
  have h1 : j / k < l.length := by rw [Nat.div_lt_iff_lt_mul hk]; exact hj
  have h2 : j % k < k := Nat.mod_lt _ hk
  have h3 : j / k * k + j % k = j := by rw [Nat.mul_comm]; exact Nat.div_add_mod j k
  have h4 := flat_get f k hf l (j / k) (j % k) h1 h2
  rw [h3, hu] at h4
  have := hc (j / k) h1 (j % k) u h4.symm
  rw [h3, Addr.add_lit] at this
  exact this
/-- Whole numbers and lengths of a symbol, of an object. -/
def symWf (s : SymD) : Prop := s.name.size ≤ maxLen ∧ (Lit.int .i64 s.bind).wf = true ∧ (Lit.int .i64 s.whr).wf = true ∧ (Lit.int .i64 s.val).wf = true
def objWf (o : ObjD) : Prop := (∀ s ∈ o.secs, secWf s) ∧ ∀ s ∈ o.syms, symWf s
theorem open_secsT {H : Type} {enc : TypeId × Value → H} {W : World} {base fuel : Nat} {v : Value} {x : DataW H × List MemPlace}
    (h : DataW.trod enc Try.prog W base (fun _ => true) true fuel 37 [v] = some x) : ∃ l : List SecD, SecsAt W v l ∧ ∀ s ∈ l, secWf s := by
  rcases open_rowsAt Try.underlying37 Try.underlying100 (by kernel_rfl) (by kernel_rfl) h with hv | ⟨a, len, cap, hv, hl, hm, hc⟩
  · obtain rfl : v = .slice none 0 0 := by simpa using hv
    exact ⟨[], ⟨[], rfl, Reads.nil _ _, fun x hx => by cases hx⟩, fun s hs => by cases hs⟩
  obtain rfl : v = .slice (some a) len cap := by simpa using hv
  have each : ∀ i, i < len → ∃ x : SecD × Value × Value, (∀ j u, (secL x)[j]? = some u → W.cell? (a.add (i * 6 + j)) = some u) ∧ (BytesAt W x.2.1 x.1.bytes ∧ FixAt W x.2.2 x.1.fix) ∧ secWf x.1 := by
    intro i hi
    obtain ⟨u0, n0, y0, c0, t0⟩ := hc i 0 _ hi rfl
    obtain ⟨u1, n1, y1, c1, t1⟩ := hc i 1 _ hi rfl
    obtain ⟨u2, n2, y2, c2, t2⟩ := hc i 2 _ hi rfl
    obtain ⟨u3, n3, y3, c3, t3⟩ := hc i 3 _ hi rfl
    obtain ⟨u4, n4, y4, c4, t4⟩ := hc i 4 _ hi rfl
    obtain ⟨u5, n5, y5, c5, t5⟩ := hc i 5 _ hi rfl
    obtain ⟨x0, k0, _, w0⟩ := DataW.trod_string Try.underlying9 t0
    obtain ⟨x1, k1, _, w1⟩ := DataW.trod_int Try.underlying3 t1
    obtain ⟨x2, k2, _, w2⟩ := DataW.trod_int Try.underlying3 t2
    obtain ⟨x4, k4, _, w4⟩ := DataW.trod_int Try.underlying3 t4
    obtain ⟨l3, h3⟩ := open_bytesT t3
    obtain ⟨l5, h5, w5⟩ := open_fixAt t5
    simp at k0 k1 k2 k4
    subst k0 k1 k2 k4
    refine ⟨(⟨x0, x1, x2, l3, x4, l5⟩, u3, u5), fun j u hu => ?_, ⟨h3, h5⟩, w0, w1, w2, w4, w5⟩
    have hj : j < 6 := (List.getElem?_eq_some_iff.1 hu).1
    have hj' : j = 0 ∨ j = 1 ∨ j = 2 ∨ j = 3 ∨ j = 4 ∨ j = 5 := by omega
    rcases hj' with rfl | rfl | rfl | rfl | rfl | rfl <;> (simp at hu; subst hu; assumption)
  obtain ⟨ls, hlen, hq⟩ := list_of len each
  subst hlen
  refine ⟨ls.map (·.1), ⟨ls, rfl, reads_rows (by decide) secL_length ls hl hm fun i hi => (hq i hi).1, fun x hx => ?_⟩, fun s hs => ?_⟩
  · obtain ⟨i, hi, rfl⟩ := List.getElem_of_mem hx
    exact (hq i hi).2.1
  · obtain ⟨x, hx, rfl⟩ := List.mem_map.1 hs
    obtain ⟨i, hi, rfl⟩ := List.getElem_of_mem hx
    exact (hq i hi).2.2
theorem open_sectionsAt {H : Type} {enc : TypeId × Value → H} {W : World} {base : Nat} {v : Value} {d : DataW H} {p : List MemPlace}
    (hval : Value.okWide Try.prog W .any base 37 v) (h : DataW.Trod enc Try.prog W 0 (fun _ => true) true 37 v d p) : ∃ l : List SecD, SecsAt W v l ∧ ∀ s ∈ l, secWf s := by
  obtain ⟨a1, len, cap, rfl⟩ := okWide_slice Try.underlying37 hval
  obtain ⟨fuel, hf⟩ := h
  exact open_secsT hf
theorem open_symbolAt {H : Type} {enc : TypeId × Value → H} {W : World} {base : Nat} {v : Value} {d : DataW H} {p : List MemPlace}
    (hval : Value.okWide Try.prog W .any base 102 v) (h : DataW.Trod enc Try.prog W 0 (fun _ => true) true 102 v d p) : ∃ s : SymD, v = symV s ∧ symWf s := by
  obtain ⟨cs, rfl, hsz, hc⟩ := open_aggAt Try.underlying102 (by kernel_rfl) (by kernel_rfl) hval h
  obtain ⟨u0, n0, y0, e0, t0⟩ := hc 0 _ rfl
  obtain ⟨u1, n1, y1, e1, t1⟩ := hc 1 _ rfl
  obtain ⟨u2, n2, y2, e2, t2⟩ := hc 2 _ rfl
  obtain ⟨u3, n3, y3, e3, t3⟩ := hc 3 _ rfl
  obtain rfl : cs = #[u0, u1, u2, u3] := by
    apply Array.ext_getElem?
    intro i
    by_cases hi : i < 4
    · have : i = 0 ∨ i = 1 ∨ i = 2 ∨ i = 3 := by omega
      rcases this with rfl | rfl | rfl | rfl <;> assumption
    · rw [Array.getElem?_eq_none (by rw [hsz]; simpa using hi), Array.getElem?_eq_none (by simpa using hi)]
  obtain ⟨x0, k0, _, w0⟩ := DataW.trod_string Try.underlying9 t0
  obtain ⟨x1, k1, _, w1⟩ := DataW.trod_int Try.underlying3 t1
  obtain ⟨x2, k2, _, w2⟩ := DataW.trod_int Try.underlying3 t2
  obtain ⟨x3, k3, _, w3⟩ := DataW.trod_int Try.underlying3 t3
  simp at k0 k1 k2 k3
  subst k0 k1 k2 k3
  exact ⟨⟨x0, x1, x2, x3⟩, rfl, w0, w1, w2, w3⟩
theorem open_symsT {H : Type} {enc : TypeId × Value → H} {W : World} {base fuel : Nat} {v : Value} {x : DataW H × List MemPlace}
    (h : DataW.trod enc Try.prog W base (fun _ => true) true fuel 38 [v] = some x) : ∃ l : List SymD, SymsAt W v l ∧ ∀ s ∈ l, symWf s := by
  rcases open_rowsAt Try.underlying38 Try.underlying102 (by kernel_rfl) (by kernel_rfl) h with hv | ⟨a, len, cap, hv, hl, hm, hc⟩
  · obtain rfl : v = .slice none 0 0 := by simpa using hv
    exact ⟨[], Reads.nil _ _, fun s hs => by cases hs⟩
  obtain rfl : v = .slice (some a) len cap := by simpa using hv
  have each : ∀ i, i < len → ∃ x : SymD, (∀ j u, (symL x)[j]? = some u → W.cell? (a.add (i * 4 + j)) = some u) ∧ symWf x := by
    intro i hi
    obtain ⟨u0, n0, y0, c0, t0⟩ := hc i 0 _ hi rfl
    obtain ⟨u1, n1, y1, c1, t1⟩ := hc i 1 _ hi rfl
    obtain ⟨u2, n2, y2, c2, t2⟩ := hc i 2 _ hi rfl
    obtain ⟨u3, n3, y3, c3, t3⟩ := hc i 3 _ hi rfl
    obtain ⟨x0, k0, _, w0⟩ := DataW.trod_string Try.underlying9 t0
    obtain ⟨x1, k1, _, w1⟩ := DataW.trod_int Try.underlying3 t1
    obtain ⟨x2, k2, _, w2⟩ := DataW.trod_int Try.underlying3 t2
    obtain ⟨x3, k3, _, w3⟩ := DataW.trod_int Try.underlying3 t3
    simp at k0 k1 k2 k3
    subst k0 k1 k2 k3
    refine ⟨⟨x0, x1, x2, x3⟩, fun j u hu => ?_, w0, w1, w2, w3⟩
    have hj : j < 4 := (List.getElem?_eq_some_iff.1 hu).1
    have hj' : j = 0 ∨ j = 1 ∨ j = 2 ∨ j = 3 := by omega
    rcases hj' with rfl | rfl | rfl | rfl <;> (simp at hu; subst hu; assumption)
  obtain ⟨ls, hlen, hq⟩ := list_of len each
  subst hlen
  refine ⟨ls, reads_rows (by decide) symL_length ls hl hm fun i hi => (hq i hi).1, fun s hs => ?_⟩
  obtain ⟨i, hi, rfl⟩ := List.getElem_of_mem hs
  exact (hq i hi).2
theorem open_objectAt {H : Type} {enc : TypeId × Value → H} {W : World} {base : Nat} {v : Value} {d : DataW H} {p : List MemPlace}
    (hval : Value.okWide Try.prog W .any base 40 v) (h : DataW.Trod enc Try.prog W 0 (fun _ => true) true 40 v d p) : ∃ o : ObjD, ObjAt W v o ∧ objWf o := by
  obtain ⟨cs, rfl, hsz, hc⟩ := open_aggAt Try.underlying40 (by kernel_rfl) (by kernel_rfl) hval h
  obtain ⟨u0, n0, y0, e0, t0⟩ := hc 0 _ rfl
  obtain ⟨u1, n1, y1, e1, t1⟩ := hc 1 _ rfl
  obtain rfl : cs = #[u0, u1] := by
    apply Array.ext_getElem?
    intro i
    by_cases hi : i < 2
    · have : i = 0 ∨ i = 1 := by omega
      rcases this with rfl | rfl <;> assumption
    · rw [Array.getElem?_eq_none (by rw [hsz]; simpa using hi), Array.getElem?_eq_none (by simpa using hi)]
  obtain ⟨l0, h0, w0⟩ := open_secsT t0
  obtain ⟨l1, h1, w1⟩ := open_symsT t1
  exact ⟨⟨l0, l1⟩, ⟨u0, u1, rfl, h0, h1⟩, w0, w1⟩
/-- A slice of objects; where the sections and the symbols of each lie. -/
@[reducible] def objL (x : ObjD × Value × Value) : List Value := [x.2.1, x.2.2]
theorem objL_length (x : ObjD × Value × Value) : (objL x).length = 2 := rfl
def ObjsAt (w : World) (v : Value) (l : List ObjD) : Prop := ∃ ls : List (ObjD × Value × Value), l = ls.map (·.1) ∧ Reads w 2 v ls.length (ls.flatMap objL) ∧ ∀ x ∈ ls, SecsAt w x.2.1 x.1.secs ∧ SymsAt w x.2.2 x.1.syms
theorem ObjsAt.below {w w' : World} {v : Value} {l : List ObjD} {B : Nat} (h : ObjsAt w v l) (hB : w.heap.size ≤ B) (hb : Below B w w') : ObjsAt w' v l := by
  obtain ⟨ls, h1, h2, h3⟩ := h
  exact ⟨ls, h1, Reads.below h2 hB hb, fun x hx => ⟨(h3 x hx).1.below hB hb, (h3 x hx).2.below hB hb⟩⟩
/-- For a walk: a slice of objects. -/
theorem ObjsAt.form {w : World} {v : Value} {l : List ObjD} (h : ObjsAt w v l) :
    ∃ (a : Option Addr) (cap : Nat), v = .slice a l.length cap ∧ l.length ≤ cap ∧ cap ≤ maxLen ∧ (a = none → cap = 0) ∧
      (0 < l.length → ∃ b off, a = some ⟨b, off, none⟩ ∧ ∀ i (hi : i < l.length), ∃ vs vy, SecsAt w vs l[i].secs ∧ SymsAt w vy l[i].syms ∧
        w.cell? ⟨b, off + i * 2, none⟩ = some vs ∧ w.cell? ⟨b, off + i * 2 + 1, none⟩ = some vy) := by
  obtain ⟨ls, rfl, h1, h2⟩ := h
  obtain ⟨a, cap, rfl, h3, h4, h5, h6⟩ := reads_form objL_length h1
  refine ⟨a, cap, by rw [List.length_map], by rw [List.length_map]; exact h3, h4, h5, fun hn => ?_⟩
  obtain ⟨b, off, rfl, hc⟩ := h6 (by simpa using hn)
  refine ⟨b, off, rfl, fun i hi => ?_⟩
  have hi' : i < ls.length := by simpa using hi
  have hm := h2 ls[i] (List.getElem_mem hi')
  refine ⟨ls[i].2.1, ls[i].2.2, ?_, ?_, ?_⟩
  · rw [List.getElem_map]; exact hm.1
  · rw [List.getElem_map]; exact hm.2
  · exact ⟨hc i hi' 0 _ rfl, hc i hi' 1 _ rfl⟩
theorem svs_flat : ∀ l : List ByteArray, l.flatMap (fun s => [Value.string s]) = svs l
  | [] => rfl
  | s :: r => by rw [List.flatMap_cons, svs_flat r]; rfl
theorem open_stringsAt {H : Type} {enc : TypeId × Value → H} {W : World} {base : Nat} {v : Value} {d : DataW H} {p : List MemPlace}
    (hval : Value.okWide Try.prog W .any base 61 v) (h : DataW.Trod enc Try.prog W 0 (fun _ => true) true 61 v d p) : ∃ l : List ByteArray, StrsAt W v l ∧ ∀ s ∈ l, s.size ≤ maxLen := by
  obtain ⟨a1, len, cap, rfl⟩ := okWide_slice Try.underlying61 hval
  obtain ⟨fuel, hf⟩ := h
  rcases open_strings Try.underlying61 Try.underlying9 (by kernel_rfl) hf with ⟨hv, _⟩ | ⟨a, len', cap', ss, hv, _, hl, hm, hs, _, hc, hz⟩
  · simp [Value.cells] at hv
    obtain ⟨rfl, rfl, rfl⟩ := hv
    exact ⟨[], Reads.nil _ _, fun s hs => by cases hs⟩
  simp [Value.cells] at hv
  obtain ⟨rfl, rfl, rfl⟩ := hv
  simp only [if_true] at hs
  have hlen : (ss.take len).length = len := by rw [List.length_take]; omega
  have hr := reads_rows (a := a) (cap := cap) (by decide : 0 < 1) (fun s : ByteArray => rfl) (ss.take len) (by omega) hm (f := fun s => [Value.string s]) (w := W) fun i hi j u hu => by
    have hj : j = 0 := by have := (List.getElem?_eq_some_iff.1 hu).1; simp at this; omega
    subst hj
    simp at hu
    subst hu
    have := hc i (by rw [hlen] at hi; omega)
    rw [Nat.mul_one, Nat.add_zero, this]
    rw [hlen] at hi
    simp [List.getD, List.getElem?_eq_getElem (show i < ss.length by omega)]
  refine ⟨ss.take len, ?_, fun s hs => hz s (List.mem_of_mem_take hs)⟩
  unfold StrsAt
  rw [svs_flat, hlen] at hr
  rw [hlen]
  exact hr
end Go.Proofs.Ytkefbhidfbnipaa
