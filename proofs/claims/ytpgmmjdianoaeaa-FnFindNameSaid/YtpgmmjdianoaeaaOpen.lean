/- Arguments of the statements: symbols, sections, objects, texts, numbers. -/
import Derived.Test.YtpgmmjdianoaeaaSec
import Derived.Test.YtpgmmjdianoaeaaBase
import Derived.SliceStrings
namespace Go.Proofs.Ytpgmmjdianoaeaa
open Go.ChangeShapes Go.WideShapes Go.ChangeAt Go.RowKit Go.Joins
set_option linter.unusedSimpArgs false
set_option linter.unusedVariables false
set_option maxRecDepth 100000
theorem list_of {α : Type} {p : Nat → α → Prop} : ∀ (n : Nat), (∀ i, i < n → ∃ x, p i x) → ∃ l : List α, l.length = n ∧ ∀ i (hi : i < l.length), p i l[i]
  | 0, _ => ⟨[], rfl, fun i hi => by cases hi⟩
  | n + 1, h => by
    obtain ⟨l, h1, h2⟩ := list_of n fun i hi => h i (by omega)
    obtain ⟨x, hx⟩ := h n (by omega)
    refine ⟨l ++ [x], by simp [h1], fun i hi => ?_⟩
    by_cases hi2 : i < l.length
    · rw [List.getElem_append_left hi2]; exact h2 i hi2
    · obtain rfl : i = l.length := by simp at hi; omega
      rw [List.getElem_append_right (by omega)]
      simpa [h1] using hx
/-- A slice whose things are read one by one. -/
theorem reads_rows {α : Type} {f : α → List Value} {k : Nat} (hk : 0 < k) (hf : ∀ x, (f x).length = k) {w : World} {a : Addr} {cap : Nat} (l : List α) (hl : l.length ≤ cap) (hm : cap ≤ maxLen)
    (hc : ∀ i (hi : i < l.length) j u, (f l[i])[j]? = some u → w.cell? (a.add (i * k + j)) = some u) : Reads w k (.slice (some a) l.length cap) l.length (l.flatMap f) := by
  refine ⟨flat_length f k hf l, some a, cap, rfl, hl, hm, fun h => (by cases h), fun hn => ?_⟩
  obtain ⟨ab, ao, spot⟩ := a
  have h0 := hc 0 hn 0 _ (List.getElem?_eq_getElem (by rw [hf]; exact hk))
  have hspot : spot = none := by simpa [Addr.add] using World.cell?_spot h0
  subst hspot
  refine ⟨ab, ao, rfl, fun j u hu => ?_⟩
  have hj : j < l.length * k := by have := (List.getElem?_eq_some_iff.1 hu).1; rwa [flat_length f k hf] at this
  have h1 : j / k < l.length := by rw [Nat.div_lt_iff_lt_mul hk]; exact hj
  have h2 : j % k < k := Nat.mod_lt _ hk
  have h3 : j / k * k + j % k = j := by rw [Nat.mul_comm]; exact Nat.div_add_mod j k
  have h4 := flat_get f k hf l (j / k) (j % k) h1 h2
  rw [h3, hu] at h4
  have := hc (j / k) h1 (j % k) u h4.symm
  rw [h3, Addr.add_lit] at this
  exact this
/-- Whole numbers and lengths of a symbol, of an object. -/
def symWf (s : SymD) : Prop := s.name.size ≤ maxLen ∧ (Lit.int .i64 s.bind).wf = true ∧ (Lit.int .i64 s.whr).wf = true ∧ (Lit.int .i64 s.val).wf = true
def objWf (o : ObjD) : Prop := (∀ s ∈ o.secs, secWf s) ∧ ∀ s ∈ o.syms, symWf s
/-- A slice of objects; where the sections and the symbols of each lie. -/
@[reducible] def objL (x : ObjD × Value × Value) : List Value := [x.2.1, x.2.2]
theorem objL_length (x : ObjD × Value × Value) : (objL x).length = 2 := rfl
def ObjsAt (w : World) (v : Value) (l : List ObjD) : Prop := ∃ ls : List (ObjD × Value × Value), l = ls.map (·.1) ∧ Reads w 2 v ls.length (ls.flatMap objL) ∧ ∀ x ∈ ls, SecsAt w x.2.1 x.1.secs ∧ SymsAt w x.2.2 x.1.syms
theorem ObjsAt.below {w w' : World} {v : Value} {l : List ObjD} {B : Nat} (h : ObjsAt w v l) (hB : w.heap.size ≤ B) (hb : Below B w w') : ObjsAt w' v l := by
  obtain ⟨ls, h1, h2, h3⟩ := h
  exact ⟨ls, h1, Reads.below h2 hB hb, fun x hx => ⟨(h3 x hx).1.below hB hb, (h3 x hx).2.below hB hb⟩⟩
/-- For a walk: a slice of objects. -/
theorem ObjsAt.form {w : World} {v : Value} {l : List ObjD} (h : ObjsAt w v l) :
    ∃ (a : Option Addr) (cap : Nat), v = .slice a l.length cap ∧ l.length ≤ cap ∧ cap ≤ maxLen ∧ (a = none → cap = 0) ∧
      (0 < l.length → ∃ b off, a = some ⟨b, off, none⟩ ∧ ∀ i (hi : i < l.length), ∃ vs vy, SecsAt w vs l[i].secs ∧ SymsAt w vy l[i].syms ∧
        w.cell? ⟨b, off + i * 2, none⟩ = some vs ∧ w.cell? ⟨b, off + i * 2 + 1, none⟩ = some vy) := by
  obtain ⟨ls, rfl, h1, h2⟩ := h
  obtain ⟨a, cap, rfl, h3, h4, h5, h6⟩ := reads_form objL_length h1
  refine ⟨a, cap, by rw [List.length_map], by rw [List.length_map]; exact h3, h4, h5, fun hn => ?_⟩
  obtain ⟨b, off, rfl, hc⟩ := h6 (by simpa using hn)
  refine ⟨b, off, rfl, fun i hi => ?_⟩
  have hi' : i < ls.length := by simpa using hi
  have hm := h2 ls[i] (List.getElem_mem hi')
  refine ⟨ls[i].2.1, ls[i].2.2, ?_, ?_, ?_⟩
  · rw [List.getElem_map]; exact hm.1
  · rw [List.getElem_map]; exact hm.2
  · exact ⟨hc i hi' 0 _ rfl, hc i hi' 1 _ rfl⟩
theorem svs_flat : ∀ l : List ByteArray, l.flatMap (fun s => [Value.string s]) = svs l
  | [] => rfl
  | s :: r => by rw [List.flatMap_cons, svs_flat r]; rfl
theorem open_stringsAt {H : Type} {enc : TypeId × Value → H} {W : World} {base : Nat} {v : Value} {d : DataW H} {p : List MemPlace}
    (hval : Value.okWide Try.prog W .any base 50 v) (h : DataW.Trod enc Try.prog W 0 (fun _ => true) true 50 v d p) : ∃ l : List ByteArray, StrsAt W v l ∧ ∀ s ∈ l, s.size ≤ maxLen := by
  obtain ⟨a1, len, cap, rfl⟩ := okWide_slice Try.underlying50 hval
  obtain ⟨fuel, hf⟩ := h
  rcases open_strings Try.underlying50 Try.underlying9 (by kernel_rfl) hf with ⟨hv, _⟩ | ⟨a, len', cap', ss, hv, _, hl, hm, hs, _, hc, hz⟩
  · simp [Value.cells] at hv
    obtain ⟨rfl, rfl, rfl⟩ := hv
    exact ⟨[], Reads.nil _ _, fun s hs => by cases hs⟩
  simp [Value.cells] at hv
  obtain ⟨rfl, rfl, rfl⟩ := hv
  simp only [if_true] at hs
  have hlen : (ss.take len).length = len := by rw [List.length_take]; omega
  have hr := reads_rows (a := a) (cap := cap) (by decide : 0 < 1) (fun s : ByteArray => rfl) (ss.take len) (by omega) hm (f := fun s => [Value.string s]) (w := W) fun i hi j u hu => by
    have hj : j = 0 := by have := (List.getElem?_eq_some_iff.1 hu).1; simp at this; omega
    subst hj
    simp at hu
    subst hu
    have := hc i (by rw [hlen] at hi; omega)
    rw [Nat.mul_one, Nat.add_zero, this]
    rw [hlen] at hi
    simp [List.getD, List.getElem?_eq_getElem (show i < ss.length by omega)]
  refine ⟨ss.take len, ?_, fun s hs => hz s (List.mem_of_mem_take hs)⟩
  unfold StrsAt
  rw [svs_flat, hlen] at hr
  rw [hlen]
  exact hr
end Go.Proofs.Ytpgmmjdianoaeaa
