/- What numbers in bytes obey, with no program in sight. -/
import Derived.Test.YthenijikmjffjaaGreatBytes
namespace Go.Proofs.YthenijikmjffjaaGreat
theorem getNum_good {l : List UInt8} {a wide : Int} (h : 0 ≤ getNum l a wide) : withinB wide 1 4 = true ∧ withinB a 0 ((l.length : Int) - wide) = true ∧ getNum l a wide = leNum ((l.drop a.toNat).take wide.toNat) := by
  unfold getNum at h ⊢
  split at h
  · rename_i hc
    simp only [Bool.and_eq_true] at hc
    exact ⟨hc.1, hc.2, by rw [if_pos (by simp [hc.1, hc.2])]⟩
  · omega
theorem getNum_of {l : List UInt8} {a wide : Int} (h1 : withinB wide 1 4 = true) (h2 : withinB a 0 ((l.length : Int) - wide) = true) : getNum l a wide = leNum ((l.drop a.toNat).take wide.toNat) := by
  unfold getNum
  rw [if_pos (by simp [h1, h2])]
theorem leNum_append : ∀ a b : List UInt8, leNum (a ++ b) = leNum a + 256 ^ a.length * leNum b
  | [], b => by simp [leNum]
  | c :: r, b => by
    have ih := leNum_append r b
    simp only [List.cons_append, leNum, ih, List.length_cons, Int.pow_succ]
    rw [Int.mul_add, ← Int.mul_assoc, Int.mul_comm 256 (256 ^ r.length)]
    omega
theorem numJoin (l : List UInt8) (a : Int) (h : 0 ≤ getNum l a 4) : getNum l a 4 = getNum l a 2 + 65536 * getNum l (a + 2) 2 ∧ 0 ≤ a ∧ a + 4 ≤ l.length := by
  obtain ⟨_, h2, h3⟩ := getNum_good h
  have hb := (withinB_iff _ _ _).1 h2
  rw [h3, getNum_of (wide := 2) rfl ((withinB_iff _ _ _).2 ⟨hb.1, by omega⟩), getNum_of (wide := 2) rfl ((withinB_iff _ _ _).2 ⟨by omega, by omega⟩)]
  refine ⟨?_, hb.1, by omega⟩
  have e1 : (a + 2).toNat = a.toNat + 2 := by omega
  have hs : (l.drop a.toNat).take (4 : Int).toNat = (l.drop a.toNat).take (2 : Int).toNat ++ (l.drop (a + 2).toNat).take (2 : Int).toNat := by
    rw [e1, ← List.drop_drop]
    show (l.drop a.toNat).take (2 + 2) = _
    rw [List.take_add]
    rfl
  rw [hs, leNum_append]
  congr 2
  rw [List.length_take, List.length_drop]
  have : min (2 : Int).toNat (l.length - a.toNat) = 2 := by show min 2 _ = 2; omega
  rw [this]
  rfl
theorem leBytes_leNum : ∀ l : List UInt8, leBytes l.length (leNum l).toNat = l
  | [] => rfl
  | c :: r => by
    have hc := u8_lt c
    have hr := leNum_nonneg r
    have e : (leNum (c :: r)).toNat = c.toNat + 256 * (leNum r).toNat := by simp only [leNum]; omega
    simp only [List.length_cons, leBytes, e]
    rw [show (c.toNat + 256 * (leNum r).toNat) % 256 = c.toNat by omega, show (c.toNat + 256 * (leNum r).toNat) / 256 = (leNum r).toNat by omega, leBytes_leNum r]
    simp
theorem leNum_lt : ∀ l : List UInt8, leNum l < 256 ^ l.length
  | [] => by simp [leNum]
  | c :: r => by
    have hc := u8_lt c
    have ih := leNum_lt r
    simp only [leNum, List.length_cons, Int.pow_succ]
    omega
theorem leNum_leBytes : ∀ (k n : Nat), n < 256 ^ k → leNum (leBytes k n) = n
  | 0, n, h => by simp at h; subst h; rfl
  | k + 1, n, h => by
    have h2 : n / 256 < 256 ^ k := by rw [Nat.pow_succ] at h; omega
    simp only [leBytes, leNum, leNum_leBytes k _ h2, UInt8.toNat_ofNat']
    omega
theorem pow256_nat {wide : Int} (h : withinB wide 1 4 = true) : pow256 wide = ((256 ^ wide.toNat : Nat) : Int) := by
  rcases wide_four h with rfl | rfl | rfl | rfl <;> rfl
theorem putNum_getNum {l : List UInt8} {a wide : Int} (h : 0 ≤ getNum l a wide) : putNum (getNum l a wide) wide = (l.drop a.toNat).take wide.toNat ∧ 0 ≤ a ∧ a + wide ≤ l.length ∧ 1 ≤ wide := by
  obtain ⟨h1, h2, h3⟩ := getNum_good h
  have hb := (withinB_iff _ _ _).1 h2
  have hw := (withinB_iff _ _ _).1 h1
  have hlen : ((l.drop a.toNat).take wide.toNat).length = wide.toNat := by rw [List.length_take, List.length_drop]; omega
  refine ⟨?_, hb.1, by omega, hw.1⟩
  rw [h3]
  have h5 := leNum_lt ((l.drop a.toNat).take wide.toNat)
  have h6 := leBytes_leNum ((l.drop a.toNat).take wide.toNat)
  have h7 := leNum_nonneg ((l.drop a.toNat).take wide.toNat)
  rw [hlen] at h5 h6
  unfold putNum numB
  rw [if_pos]
  · exact h6
  · rw [h1, pow256_nat h1]
    simp only [Bool.true_and]
    refine (withinB_iff _ _ _).2 ⟨h7, ?_⟩
    have e5 : ((256 ^ wide.toNat : Nat) : Int) = (256 : Int) ^ wide.toNat := by rw [Int.natCast_pow]; rfl
    rw [e5]
    omega
theorem putNum_good {n wide : Int} (h : putNum n wide ≠ []) : numB n wide = true := by
  unfold putNum at h
  split at h
  · assumption
  · exact absurd rfl h
theorem getNum_putNum {n wide : Int} (h : numB n wide = true) : ((putNum n wide).length : Int) = wide ∧ getNum (putNum n wide) 0 wide = n := by
  have hh := h
  unfold numB at hh
  rw [Bool.and_eq_true] at hh
  have hw := (withinB_iff _ _ _).1 hh.1
  have hn := (withinB_iff _ _ _).1 hh.2
  have e : putNum n wide = leBytes wide.toNat n.toNat := by unfold putNum; rw [if_pos h]
  have hl : ((putNum n wide).length : Int) = wide := by rw [e, leBytes_length]; omega
  refine ⟨hl, ?_⟩
  rw [getNum_of hh.1 ((withinB_iff _ _ _).2 ⟨Int.le_refl _, by omega⟩)]
  have hl2 : (leBytes wide.toNat n.toNat).length = wide.toNat := leBytes_length _ _
  show leNum (List.take wide.toNat (List.drop 0 _)) = n
  rw [List.drop_zero, e, List.take_of_length_le (by omega), leNum_leBytes]
  · omega
  · rw [pow256_nat hh.1] at hn
    omega
theorem signedOf_law (n wide : Int) (h : numB n wide = true) : (signedOf n wide = n ∨ signedOf n wide = n - pow256 wide) ∧ - pow256 wide ≤ 2 * signedOf n wide ∧ 2 * signedOf n wide < pow256 wide := by
  have hh := h
  unfold numB at hh
  rw [Bool.and_eq_true] at hh
  have hn := (withinB_iff _ _ _).1 hh.2
  unfold signedOf
  rw [if_pos h]
  rcases wide_four hh.1 with rfl | rfl | rfl | rfl <;> simp only [pow256] at * <;> split <;> simp at * <;> omega
theorem alignUp_law (n to : Int) (h : 0 ≤ alignUp n to) : alignB to = true ∧ n ≤ alignUp n to ∧ alignUp n to < n + to ∧ alignUp n to % to = 0 ∧ 0 ≤ n ∧ n ≤ 1000000 := by
  unfold alignUp at h ⊢
  split at h
  · rename_i hc
    rw [if_pos hc]
    rw [Bool.and_eq_true] at hc
    have hn := (withinB_iff _ _ _).1 hc.2
    rcases (alignB_iff _).1 hc.1 with rfl | rfl | rfl | rfl <;> refine ⟨hc.1, ?_⟩ <;> omega
  · omega
theorem alignUp_neg (n to : Int) (h : ¬ 0 ≤ alignUp n to) : alignUp n to = -1 := by
  unfold alignUp at h ⊢
  split at h
  · rename_i hc
    rw [Bool.and_eq_true] at hc
    have hn := (withinB_iff _ _ _).1 hc.2
    exfalso; apply h
    rcases (alignB_iff _).1 hc.1 with rfl | rfl | rfl | rfl <;> omega
  · rename_i hc; rw [if_neg hc]
end Go.Proofs.YthenijikmjffjaaGreat
