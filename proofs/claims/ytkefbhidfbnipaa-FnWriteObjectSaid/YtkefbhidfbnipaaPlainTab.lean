/- What tables of names obey, over texts. -/
import Derived.Test.YtkefbhidfbnipaaTab
import Derived.Test.YtkefbhidfbnipaaBytes
namespace Go.Proofs.Ytkefbhidfbnipaa
set_option linter.unusedSimpArgs false
set_option linter.unusedVariables false
theorem charB_zero (k : Nat) : charB k 0 = false := by cases k <;> rfl
theorem nameB_nonzero {s : ByteArray} (h : nameB s = true) : ∀ c ∈ bytesS s, c ≠ 0 := by
  intro c hc e
  subst e
  obtain ⟨k, hk, e⟩ := List.getElem_of_mem hc
  have hk' : k < s.size := by unfold bytesS at hk; simpa using hk
  have : s[k] = 0 := by
    have e2 : s.data.toList[k]'(by unfold bytesS at hk; exact hk) = 0 := e
    rw [← e2]; rfl
  have := nameB_bad hk' (by rw [this]; exact charB_zero k)
  rw [h] at this; cases this
theorem bytesS_len (s : ByteArray) : (bytesS s).length = s.size := by unfold bytesS; rw [Array.length_toList]; rfl
theorem namesB_mem {l : List ByteArray} (h : namesB l = true) : l.length ≤ 40 ∧ ∀ s ∈ l, nameB s = true := by
  unfold namesB at h
  rwa [Bool.and_eq_true, decide_eq_true_eq, List.all_eq_true] at h
theorem tableL_names {l : List ByteArray} (h : namesB l = true) : tableL l = tabOf (sortS (l.map bytesS)) := by unfold tableL; rw [if_pos h]
theorem tableL_zero (l : List ByteArray) (h : 0 < (tableL l).length) : namesB l = true ∧ ∃ r, tableL l = 0 :: r := by
  cases hb : namesB l with
  | true => exact ⟨rfl, by rw [tableL_names hb]; exact ⟨_, rfl⟩⟩
  | false => unfold tableL at h; rw [hb] at h; simp at h
theorem tableL_rev (l : List ByteArray) : tableL l.reverse = tableL l := by
  have hb : namesB l.reverse = namesB l := by unfold namesB; rw [List.length_reverse, List.all_reverse]
  cases h : namesB l with
  | true => rw [tableL_names (hb.trans h), tableL_names h]; rw [sortS_congr (l := l.map bytesS) (k := l.reverse.map bytesS) (fun x => by simp)]
  | false => unfold tableL; rw [hb, h]; simp
theorem tableL_has {l : List ByteArray} (h : namesB l = true) {s : ByteArray} (hs : s ∈ l) : nameAtL (tableL l) (placeOf (tableL l) (bytesS s)) = some (bytesS s) ∧ 0 ≤ placeOf (tableL l) (bytesS s) := by
  rw [tableL_names h]
  have hn := (namesB_mem h).2
  refine tab_has (fun x hx => ?_) (fun x hx => ?_) ((mem_sortS _ _).2 (List.mem_map.2 ⟨s, hs, rfl⟩))
  · obtain ⟨y, hy, rfl⟩ := List.mem_map.1 ((mem_sortS _ _).1 hx)
    rw [bytesS_len]; exact (nameB_size (hn y hy)).2
  · obtain ⟨y, hy, rfl⟩ := List.mem_map.1 ((mem_sortS _ _).1 hx)
    exact nameB_nonzero (hn y hy)
theorem tableL_end {l : List ByteArray} {s e : ByteArray} (hs : s ∈ l) (h : namesB l = true) (hl : l.length < 40) (he : bytesS e = (bytesS s).drop 1) (h2 : 2 ≤ s.size) (hv : nameB e = true) : tableL (l ++ [e]) = tableL l := by
  have hb : namesB (l ++ [e]) = true := by
    unfold namesB
    have := (namesB_mem h).2
    rw [Bool.and_eq_true, decide_eq_true_eq, List.all_eq_true, List.length_append]
    refine ⟨by simp; omega, fun x hx => ?_⟩
    rcases List.mem_append.1 hx with hx | hx
    · exact this x hx
    · obtain rfl := List.mem_singleton.1 hx; exact hv
  rw [tableL_names hb, tableL_names h, List.map_append]
  exact tab_end (x := bytesS s) (List.mem_map.2 ⟨s, hs, rfl⟩) (by rw [he]; exact List.drop_suffix 1 _) (by rw [he, List.length_drop, bytesS_len]; omega)
end Go.Proofs.Ytkefbhidfbnipaa
