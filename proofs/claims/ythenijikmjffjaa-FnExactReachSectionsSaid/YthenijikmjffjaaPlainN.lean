/- What names and texts in tables obey, with no program in sight. -/
import Derived.Test.YthenijikmjffjaaName
import Derived.Test.YthenijikmjffjaaPlace
namespace Go.Proofs.Ythenijikmjffjaa
theorem nameB_blank (s : ByteArray) : nameB (s ++ ⟨#[32]⟩) = false := by
  have hs : (s ++ ⟨#[32]⟩ : ByteArray).size = s.size + 1 := by rw [ByteArray.size_append]; rfl
  unfold nameB
  rw [Bool.and_eq_false_iff]
  left
  rw [decide_eq_false_iff_not]
  intro h
  have h1 := h s.size (by omega)
  have h2 : (s ++ ⟨#[32]⟩ : ByteArray)[s.size]'(by omega) = 32 := by
    rw [ByteArray.getElem_append_right (by omega)]
    simp
    rfl
  rw [h2] at h1
  simp [charB, letterB, digitB] at h1
theorem nameB_first {s t : ByteArray} (h : nameB s = true) (h1 : t.size = 1) (h2 : ∀ (a : 0 < t.size) (b : 0 < s.size), t[0] = s[0]) : nameB t = true := by
  unfold nameB at h ⊢
  simp only [Bool.and_eq_true, decide_eq_true_eq] at h ⊢
  have hb := (withinB_iff _ _ _).1 h.2
  refine ⟨fun i hi => ?_, (withinB_iff _ _ _).2 (by omega)⟩
  obtain rfl : i = 0 := by omega
  rw [h2 hi (by omega)]
  exact h.1 0 (by omega)
theorem nameB_size {s : ByteArray} (h : nameB s = true) : 1 ≤ s.size ∧ s.size ≤ 8 := by
  unfold nameB at h
  rw [Bool.and_eq_true] at h
  have hb := (withinB_iff _ _ _).1 h.2
  omega
/-- What a text in a table is. -/
theorem textAt_some : ∀ {l s : List UInt8}, textAt l = some s → ∃ r, l = s ++ 0 :: r ∧ ∀ c ∈ s, c ≠ 0
  | [], s, h => by simp [textAt] at h
  | c :: l, s, h => by
    unfold textAt at h
    split at h
    · rename_i hc
      simp at h
      subst h hc
      exact ⟨l, rfl, fun c hc => by cases hc⟩
    · rename_i hc
      rw [Option.map_eq_some_iff] at h
      obtain ⟨s', hs, rfl⟩ := h
      obtain ⟨r, rfl, h2⟩ := textAt_some hs
      refine ⟨r, rfl, fun d hd => ?_⟩
      rcases List.mem_cons.1 hd with rfl | hd
      · exact hc
      · exact h2 d hd
theorem textAt_of : ∀ {s r : List UInt8}, (∀ c ∈ s, c ≠ 0) → textAt (s ++ 0 :: r) = some s
  | [], r, _ => by simp [textAt]
  | c :: s, r, h => by
    have h1 : c ≠ 0 := h c (by simp)
    rw [List.cons_append, textAt, if_neg h1, textAt_of (fun d hd => h d (by simp [hd]))]
    rfl
theorem nameAtL_rest {l : List UInt8} {a : Int} {c : UInt8} {s : List UInt8} (h : nameAtL l a = some (c :: s)) :
    nameAtL l (a + 1) = some s ∧ 0 ≤ a ∧ a + ((c :: s).length : Int) < l.length ∧ l[(a + ((c :: s).length : Int)).toNat]? = some 0 := by
  unfold nameAtL at h
  split at h
  · rename_i hw
    have hw := (withinB_iff _ _ _).1 hw
    obtain ⟨r, hr, hne⟩ := textAt_some h
    have hl : (l.drop a.toNat).length = (c :: s).length + 1 + r.length := by rw [hr]; simp; omega
    rw [List.length_drop] at hl
    simp only [List.length_cons] at hl ⊢
    have hd : l.drop (a + 1).toNat = s ++ 0 :: r := by
      rw [show (a + 1).toNat = a.toNat + 1 by omega, ← List.drop_drop, hr]; rfl
    refine ⟨?_, hw.1, by omega, ?_⟩
    · unfold nameAtL
      rw [if_pos ((withinB_iff _ _ _).2 (by omega)), hd]
      exact textAt_of fun d hd => hne d (by simp [hd])
    · have : (l.drop a.toNat)[s.length + 1]? = some 0 := by
        rw [hr, List.getElem?_append_right (by simp)]; simp
      rw [List.getElem?_drop] at this
      rw [← this]
      congr 1
      omega
  · cases h
end Go.Proofs.Ythenijikmjffjaa
