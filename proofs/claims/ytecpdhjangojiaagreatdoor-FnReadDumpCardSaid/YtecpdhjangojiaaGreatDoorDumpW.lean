/- The lines of an object: none is long, there are few. -/
import Derived.Test.YtecpdhjangojiaaGreatDoorDumpI
namespace Go.Proofs.YtecpdhjangojiaaGreatDoor
set_option linter.unusedSimpArgs false
set_option linter.unusedVariables false
theorem spaced_le : ∀ ws : List (List UInt8), (∀ x ∈ ws, x.length ≤ 100) → (spaced ws).length ≤ 101 * ws.length
  | [], _ => by simp [spaced]
  | x :: r, h => by
    have ih := spaced_le r fun y hy => h y (by simp [hy])
    have h1 := h x (by simp)
    unfold spaced
    simp only [List.length_cons, List.length_append]
    omega
theorem itoa_le {n : Int} (h0 : -1000000 ≤ n) (h1 : n ≤ 1000000) : (Lib.itoa n).length ≤ 100 := Nat.le_trans (itoa_small h0 h1) (by decide)
theorem fixLine_le {f : FixD} {m : Int} (h : FixOk f m 48) (hm : m ≤ 1000) : (fixLine f).length ≤ 1000 := by
  have h1 := h.kind
  have h2 := h.to
  have h3 := h.add
  have h4 := h.at_
  have hs := spaced_le (fixWords f) (fun x hx => by
    unfold fixWords at hx
    simp only [List.mem_cons, List.not_mem_nil, or_false] at hx
    rcases hx with rfl | rfl | rfl | rfl <;> exact itoa_le (by omega) (by omega))
  have hl : (fixWords f).length = 4 := rfl
  unfold fixLine lineOf
  rw [List.length_append]
  have : fixT.length = 5 := rfl
  omega
theorem symLine_le {s : SymD} {l : List SecD} (h : SymOk s l) (hl : l.length ≤ 8) : (symLine s).length ≤ 1000 := by
  have h0 := (nameB_pos h.name).2
  have h1 := h.bind
  have h2 := h.whr
  have h3 := h.val
  have hs := spaced_le (symWords s) (fun x hx => by
    unfold symWords at hx
    simp only [List.mem_cons, List.not_mem_nil, or_false] at hx
    rcases hx with rfl | rfl | rfl | rfl
    · omega
    · exact itoa_le (by omega) (by omega)
    · exact itoa_le (by omega) (by omega)
    · exact itoa_le (by omega) (by omega))
  have hl : (symWords s).length = 4 := rfl
  unfold symLine lineOf
  rw [List.length_append]
  have : symT.length = 6 := rfl
  omega
theorem secLine_le {s : SecD} {m : Int} (h : SecOk s m) : (secLine s).length ≤ 1000 := by
  rw [secLine_eq h.name, List.length_append]
  have h1 := secLine0_len h
  have h2 := h.bytes
  split
  · simp; omega
  · rw [List.length_cons, hexText_length]; omega
theorem dump_lines (o : ObjD) : ∀ x ∈ dumpL o, x.length ≤ 1000 := by
  intro x hx
  unfold dumpL at hx
  split at hx
  · rename_i h
    have hf := objB_few8 h
    rcases List.mem_append.1 hx with hx | hx
    · obtain ⟨s, hs, hx⟩ := List.mem_flatMap.1 hx
      have ho := objB_sec h hs
      rcases List.mem_cons.1 hx with rfl | hx
      · exact secLine_le ho
      · obtain ⟨f, hf', rfl⟩ := List.mem_map.1 hx
        exact fixLine_le (ho.fix f hf') (by omega)
    · obtain ⟨s, hs, rfl⟩ := List.mem_map.1 hx
      exact symLine_le (objB_sym h hs) hf.1
  · cases hx
theorem dump_few (o : ObjD) : (dumpL o).length ≤ 1000 := by
  unfold dumpL
  split
  · rename_i h
    have h1 := dumpS_len o h
    have h2 := (objB_few8 h).2
    rw [List.length_append, List.length_map]
    omega
  · simp
end Go.Proofs.YtecpdhjangojiaaGreatDoor
