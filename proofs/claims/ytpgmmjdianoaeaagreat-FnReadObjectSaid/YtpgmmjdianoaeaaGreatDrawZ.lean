/- Bytes that are read back: the statement's draw. -/
import Derived.Test.YtpgmmjdianoaeaaGreatDrawH
import Derived.Test.YtpgmmjdianoaeaaGreatDrawO
import Derived.Test.YtpgmmjdianoaeaaGreatWrS
namespace Go.Proofs.YtpgmmjdianoaeaaGreat
open Go.ChangeShapes Go.WideShapes Go.ChangeAt Go.RowKit Go.Joins
set_option linter.unusedSimpArgs false
set_option linter.unusedVariables false
set_option maxRecDepth 100000
set_option maxHeartbeats 2000000 in
theorem s_DrawReadObject_any (w : World) (v : Value) (l : List UInt8) (h : BytesAt w v l) :
    Calls Tryz.prog 5 #[v] w (DrawB (BytesK 1300) w) := by
  have H := Lib.hid h
  clear h
  go_enter Tryz.func5, Tryz.ntmps5
  go_wp2_with fail
  refine (l20Open_any w _ l H.out).mono ?_
  rintro e w1 ⟨g, rfl, hg, hR, hb⟩
  have HF := Lib.hid ((From.start w).call hb)
  have HR := Lib.hid hR
  clear hb hR
  go_wp2_with fail
  refine (l20Object_any w1 g 0 HR.out (by decide) 0 (by decide) (by decide)).mono ?_
  rintro e w2 ⟨_, q, rfl, hO, hq, hD⟩
  obtain ⟨o, ho, hn1, hn2, -⟩ := hO.read
  obtain ⟨a, n, b, c, m, d, rfl⟩ := hO.form
  have HO := Lib.hid ho
  have HN := Lib.hid (⟨fun s hs => by have := hn1 s hs; unfold maxLen; omega, fun s hs => by have := hn2 s hs; unfold maxLen; omega⟩ : (∀ s ∈ o.secs, s.name.size ≤ maxLen) ∧ ∀ s ∈ o.syms, s.name.size ≤ maxLen)
  have HF2 := Lib.hid (HF.out.drawn hD hg)
  have HD := Lib.hid hD
  have hgl : g < w2.heap.size := hD.lt
  clear hO ho hn1 hn2 hD HF HR
  go_wp2_with fail
  refine (s_WriteObject w2 _ o HO.out HN.out).mono ?_
  rintro e w3 ⟨r, rfl, hr, k3⟩
  have hle := writeL_le o
  obtain ⟨W, hW⟩ : ∃ W, writeL o = W := ⟨_, rfl⟩
  rw [hW] at hr hle
  obtain ⟨ra, rc, rfl⟩ := owns_form hr
  have HW := Lib.hid hr
  have HF3 := Lib.hid (HF2.out.call k3)
  have HD3 := Lib.hid (HD.out.below k3)
  clear hr k3 hW HO HN HF2 HD
  go_wp2_with fail
  refine (odd_any w3 g q HD3.out.rd (by omega) 3 (by decide) (by decide)).mono ?_
  rintro e w4 ⟨_, q4, rfl, ⟨bo, rfl⟩, hq4, hD⟩
  have hw4 : OwnB w4 w2.heap.size (.slice ra W.length rc) W := owns_drawn HW.out hD.grow hgl
  have HW4 := Lib.hid hw4.reads
  have HF4 := Lib.hid (HF3.out.drawn hD hg)
  have HD4 := Lib.hid (HD3.out.next hD)
  clear hD HW HF3 HD3 hw4
  cases bo
  · go_wp2_with fail
    go_ret
    exact ⟨_, rfl, ⟨W, HW4.out, by omega⟩, HF4.out⟩
  · go_wp2_with fail
    refine (l20Bent_any w4 g q4 HD4.out.rd (by omega) _ W HW4.out (by omega)).mono ?_
    rintro e w5 ⟨v5, q5, rfl, ⟨L5, hB5, hl5⟩, hq5, hD⟩
    have HF5 := Lib.hid (HF4.out.drawn hD hg)
    have HB5 := Lib.hid hB5
    obtain ⟨fa, fc, rfl, -⟩ := hB5.form
    clear hD hB5 HF4 HD4 HW4
    go_wp2_with fail
    go_ret
    exact ⟨_, rfl, ⟨L5, HB5.out, by omega⟩, HF5.out⟩
end Go.Proofs.YtpgmmjdianoaeaaGreat
