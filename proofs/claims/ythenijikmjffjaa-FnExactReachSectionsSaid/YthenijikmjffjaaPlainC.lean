/- Sorted by the library, each once: the same as by insertion. -/
import Derived.Test.YthenijikmjffjaaPlainT
import Derived.Lib.SlicesCompact
namespace Go.Proofs.Ythenijikmjffjaa
set_option linter.unusedSimpArgs false
set_option linter.unusedVariables false
theorem lt_less : ∀ {a b : List UInt8}, a < b ↔ less a b = true
  | a, [] => by cases a <;> simp [less, Op.bytesLess]
  | [], y :: b => by simp [less, Op.bytesLess]
  | x :: a, y :: b => by
    rw [List.cons_lt_cons_iff, lt_less (a := a) (b := b)]
    simp [less, Op.bytesLess]
theorem le_less {a b : List UInt8} : a ≤ b ↔ less b a = false := by
  show ¬ b < a ↔ _
  rw [lt_less]
  simp
theorem le_cases {a b : List UInt8} (h : less b a = false) : a = b ∨ less a b = true := by
  rcases less_total h with h | h
  · exact .inl h.symm
  · exact .inr h
theorem compactUpTo_sorted (d : Array (List UInt8)) (h : ∀ i j, i < j → j < d.size → less d[j]! d[i]! = false) : ∀ m, m ≤ d.size → Asc (Lib.compactUpTo d m) ∧ ∀ x, x ∈ Lib.compactUpTo d m ↔ ∃ j, j < m ∧ d[j]! = x
  | 0, _ => by simp [Lib.compactUpTo, Asc]
  | m + 1, hm => by
    obtain ⟨h1, h2⟩ := compactUpTo_sorted d h m (by omega)
    rw [Lib.compactUpTo_succ]
    cases hk : Lib.keeps d m
    · simp only [Bool.false_eq_true, if_false, List.append_nil]
      refine ⟨h1, fun x => ?_⟩
      rw [h2]
      have hk' : ¬ (m = 0 ∨ d[m]! ≠ d[m - 1]!) := by simpa [Lib.keeps] using hk
      have hm0 : m ≠ 0 := fun e => hk' (.inl e)
      have he : d[m]! = d[m - 1]! := Classical.byContradiction fun e => hk' (.inr e)
      constructor
      · rintro ⟨j, hj, e⟩; exact ⟨j, by omega, e⟩
      · rintro ⟨j, hj, e⟩
        by_cases hjm : j < m
        · exact ⟨j, hjm, e⟩
        · obtain rfl : j = m := by omega
          exact ⟨j - 1, by omega, by rw [← he]; exact e⟩
    · simp only [if_true]
      have hk' : m = 0 ∨ d[m]! ≠ d[m - 1]! := by simpa [Lib.keeps] using hk
      refine ⟨List.pairwise_append.2 ⟨h1, by simp, fun a ha b hb => ?_⟩, fun x => ?_⟩
      · obtain rfl := List.mem_singleton.1 hb
        obtain ⟨j, hj, rfl⟩ := (h2 a).1 ha
        have hne : d[m]! ≠ d[m - 1]! := hk'.resolve_left (by omega)
        have h3 : less d[m - 1]! d[m]! = true := (le_cases (h (m - 1) m (by omega) (by omega))).resolve_left (Ne.symm hne)
        by_cases hjm : j = m - 1
        · rw [hjm]; exact h3
        · rcases le_cases (h j (m - 1) (by omega) (by omega)) with e | e
          · rw [e]; exact h3
          · exact less_trans e h3
      · rw [List.mem_append, h2, List.mem_singleton]
        constructor
        · rintro (⟨j, hj, e⟩ | e)
          · exact ⟨j, by omega, e⟩
          · exact ⟨m, by omega, e.symm⟩
        · rintro ⟨j, hj, e⟩
          by_cases hjm : j < m
          · exact .inl ⟨j, hjm, e⟩
          · obtain rfl : j = m := by omega
            exact .inr e.symm
theorem get_bang (zs : List (List UInt8)) (j : Nat) (hj : j < zs.length) : zs.toArray[j]! = zs[j] := by simp [hj]
theorem compact_sorted (zs : List (List UInt8)) (h : zs.Pairwise fun a b => less b a = false) : Asc (Lib.compact zs) ∧ ∀ x, x ∈ Lib.compact zs ↔ x ∈ zs := by
  have h0 := compactUpTo_sorted zs.toArray (fun i j hij hj => by
    have hj' : j < zs.length := by simpa using hj
    rw [get_bang zs j hj', get_bang zs i (by omega)]
    exact List.pairwise_iff_getElem.1 h i j (by omega) hj' hij) zs.length (by simp)
  refine ⟨h0.1, fun x => ?_⟩
  unfold Lib.compact
  rw [h0.2]
  constructor
  · rintro ⟨j, hj, e⟩
    rw [get_bang zs j hj] at e
    exact e ▸ List.getElem_mem hj
  · intro hx
    obtain ⟨j, hj, e⟩ := List.getElem_of_mem hx
    exact ⟨j, hj, by rw [get_bang zs j hj]; exact e⟩
theorem less_trans_le {a b c : List UInt8} (h1 : less b a = false) (h2 : less c b = false) : less c a = false := by
  cases h : less c a with
  | false => rfl
  | true =>
    rcases le_cases h2 with e | e
    · subst e; rw [h] at h1; cases h1
    · have := less_trans e h; rw [this] at h1; cases h1
/-- The library's way: sorted, then each once. -/
theorem sort_compact (zs : List (List UInt8)) : Lib.compact (zs.mergeSort fun x y => decide (x ≤ y)) = sortS zs := by
  have hp := List.pairwise_mergeSort (le := fun x y : List UInt8 => decide (x ≤ y)) (fun a b c h1 h2 => by
    simp only [decide_eq_true_eq, le_less] at h1 h2 ⊢
    exact less_trans_le h1 h2) (fun a b => by
    simp only [Bool.or_eq_true, decide_eq_true_eq, le_less]
    cases h : less b a with
    | false => exact .inl rfl
    | true =>
      right
      cases h2 : less a b with
      | false => rfl
      | true => have := less_trans h h2; rw [less_irrefl] at this; cases this) zs
  have h := compact_sorted (zs.mergeSort fun x y => decide (x ≤ y)) (hp.imp fun h => by simpa [le_less] using h)
  exact sortS_eq h.1 fun x => (h.2 x).trans List.mem_mergeSort
end Go.Proofs.Ythenijikmjffjaa
