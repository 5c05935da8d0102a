/- FindName of the reference, and what its law compares. -/
import Derived.Test.YtpgmmjdianoaeaaFind
import Derived.Test.YtpgmmjdianoaeaaObjsX
namespace Go.Proofs.Ytpgmmjdianoaeaa
open Go.ChangeShapes Go.WideShapes Go.ChangeAt Go.RowKit Go.Joins
set_option linter.unusedSimpArgs false
set_option linter.unusedVariables false
set_option maxRecDepth 100000
set_option maxHeartbeats 1000000 in
theorem s_FindName (w : World) (v : Value) (l : List ObjD) (h : ObjsAt w v l) (hs : ObjsLen l) (nm : ByteArray) :
    Calls Try.prog 11 #[v, .string nm] w fun e w' => e = .returned (.tuple #[giveV (findV l nm), .bool (findV l nm).isSome]) ∧ Below w.heap.size w w' := by
  have H := Lib.hid h
  have HS := Lib.hid hs
  obtain ⟨a, cap, rfl, -⟩ := h.each
  clear h hs
  obtain ⟨R0, hR0⟩ : ∃ R0, findV l nm = R0 := ⟨_, rfl⟩
  rw [hR0]
  have HR : Hid ((if objsB l = true then findNm l nm else none) = R0) := hR0
  clear hR0
  go_enter Try.func11, Try.ntmps11
  go_wp2_with fail
  have hb0 : Blk (w.alloc (.cells #[.int .i64 0, .int .i64 0] 35)) w.heap.size #[.int .i64 0, .int .i64 0] 35 := Blk.new w _ _
  have HB0 := Lib.hid hb0
  have HF0 := Lib.hid ((From.start w).alloc (.cells #[.int .i64 0, .int .i64 0] 35))
  clear hb0
  refine (s_ObjectsValid _ _ l (H.out.below (Nat.le_refl _) HF0.out.below) HS.out).mono ?_
  rintro e w1 ⟨rfl, h1⟩
  have HF := Lib.hid (HF0.out.call h1)
  have HB := Lib.hid (HB0.out.call h1)
  have cb := HB.out.cell
  have fb := HB.out.frozen
  have zb := HB.out.lt
  clear h1 HF0 HB0
  obtain ⟨q, hq⟩ : ∃ q, objsB l = q := ⟨_, rfl⟩
  have HQ := Lib.hid hq
  rw [hq] at HR ⊢
  clear hq
  cases q
  · have E : Hid (R0 = none) := HR.out.symm
    clear HR
    go_wp2_with fail
    refine bodyPost_ret (v := .tuple #[.agg #[.int .i64 0, .int .i64 0], .bool false]) (by simp [results, Try.results11, go_sem, cb, fb, zb]) rfl ⟨by rw [E.out]; rfl, ?_⟩
    exact ((HF.out.setCell (Nat.le_refl _) _).setCell (Nat.le_refl _) _).below
  · have E : Hid (R0 = findNm l nm) := HR.out.symm
    clear HR
    go_wp2_with fail
    refine (s_l11Given _ _ l (H.out.below (Nat.le_refl _) HF.out.below) HQ.out nm).mono ?_
    rintro e w2 ⟨n, rfl, h2⟩
    have HF2 := Lib.hid (HF.out.call h2)
    have HB2 := Lib.hid (HB.out.call h2)
    clear cb fb zb h2 HF HB
    have cb := HB2.out.cell
    have fb := HB2.out.frozen
    have zb := HB2.out.lt
    obtain ⟨R, hR⟩ : ∃ R, findNm l nm = R := ⟨_, rfl⟩
    rw [hR] at E ⊢
    clear hR
    unfold giveV
    obtain ⟨p, hp⟩ : ∃ p, R.getD (0, 0) = p := ⟨_, rfl⟩
    obtain ⟨f, hf⟩ : ∃ f, R.isSome = f := ⟨_, rfl⟩
    obtain ⟨p1, p2⟩ := p
    rw [hp, hf]
    have E2 : Hid (giveV R0 = .agg #[.int .i64 p1, .int .i64 p2] ∧ R0.isSome = f) := by show _ ∧ _; rw [E.out]; unfold giveV; rw [hp, hf]; exact ⟨rfl, rfl⟩
    clear hp hf E
    go_wp2_with fail
    refine bodyPost_ret (v := .tuple #[.agg #[.int .i64 p1, .int .i64 p2], .bool f]) (by simp [results, Try.results11, go_sem, cb, fb, zb]) rfl ⟨by rw [E2.out.1, E2.out.2], ?_⟩
    first
      | exact (((HF2.out.alloc _).setCell (Nat.le_refl _) _).setCell (Nat.le_refl _) _).below
      | exact (((HF2.out.setCell (Nat.le_refl _) _).setCell (Nat.le_refl _) _).alloc _).below
end Go.Proofs.Ytpgmmjdianoaeaa
