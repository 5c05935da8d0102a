/- What digits obey, with no program in sight. -/
import Derived.Test.YtecpdhjangojiaaGreatDoorReadHex
import Derived.Test.YtecpdhjangojiaaGreatDoorBytes
namespace Go.Proofs.YtecpdhjangojiaaGreatDoor
theorem readHex_hexText : ∀ l : List UInt8, readHexL (hexText l) = some l
  | [] => rfl
  | c :: r => by
    have hc := u8_lt c
    have h1 : hexN (hexC (c.toNat / 16)) = ((c.toNat / 16 : Nat) : Int) := (hexC_iff _ _ (by omega)).1 rfl
    have h2 : hexN (hexC (c.toNat % 16)) = ((c.toNat % 16 : Nat) : Int) := (hexC_iff _ _ (by omega)).1 rfl
    rw [hexText, readHexL, h1, h2, if_neg (by omega), if_neg (by omega), readHex_hexText r]
    have : (16 * ((c.toNat / 16 : Nat) : Int) + ((c.toNat % 16 : Nat) : Int)).toNat = c.toNat := by omega
    rw [this]
    simp
theorem hexText_readHex : ∀ (l b : List UInt8), readHexL l = some b → hexText b = l
  | [], b, h => by simp [readHexL] at h; subst h; rfl
  | [_], b, h => by simp [readHexL] at h
  | x :: y :: r, b, h => by
    unfold readHexL at h
    split at h
    · cases h
    · rename_i h1
      split at h
      · cases h
      · rename_i h2
        rw [Option.map_eq_some_iff] at h
        obtain ⟨b', hb, rfl⟩ := h
        have ih := hexText_readHex r b' hb
        have rx := hexN_range x
        have ry := hexN_range y
        have e : (UInt8.ofNat (16 * hexN x + hexN y).toNat).toNat = (16 * hexN x + hexN y).toNat := by rw [UInt8.toNat_ofNat']; omega
        rw [hexText, ih, e]
        have e1 : hexC ((16 * hexN x + hexN y).toNat / 16) = x := (hexC_iff _ _ (by omega)).2 (by omega)
        have e2 : hexC ((16 * hexN x + hexN y).toNat % 16) = y := (hexC_iff _ _ (by omega)).2 (by omega)
        rw [e1, e2]
theorem readHex_more {l b : List UInt8} (h : readHexL l = some b) (c : UInt8) : readHexL (l ++ [c]) = none := by
  have := readHexL_length l b h
  exact readHexL_odd _ (by rw [List.length_append]; simp; omega)
end Go.Proofs.YtecpdhjangojiaaGreatDoor
