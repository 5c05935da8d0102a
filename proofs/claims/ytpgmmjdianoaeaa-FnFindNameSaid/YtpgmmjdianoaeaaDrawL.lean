/- What the statements on lists of objects draw. -/
import Derived.Test.YtpgmmjdianoaeaaDrawJ
namespace Go.Proofs.Ytpgmmjdianoaeaa
open Go.ChangeShapes Go.WideShapes Go.ChangeAt Go.RowKit Go.Joins
set_option linter.unusedSimpArgs false
set_option linter.unusedVariables false
set_option maxRecDepth 100000
/-- Objects, few and small. -/
def SomeObs (w : World) (v : Value) : Prop := ∃ os : List ObjD, ObjsAt w v os ∧ (∀ o ∈ os, SmO o) ∧ os.length ≤ 9
theorem SomeObjs.obs {base : Nat} {w : World} {v : Value} (h : SomeObjs base w v) : SomeObs w v := by
  obtain ⟨xs, hx, hl⟩ := h
  exact ⟨xs.map (·.1), hx.objs, fun o ho => by
    obtain ⟨y, hy, rfl⟩ := List.mem_map.1 ho
    exact hx.small y hy, by rw [List.length_map]; exact hl⟩
set_option maxHeartbeats 1000000 in
theorem s_DrawObjectsValid_any (w : World) (v : Value) (l : List UInt8) (h : BytesAt w v l) :
    Calls Try.prog 5 #[v] w (DrawB SomeObs w) := by
  have H := Lib.hid h
  clear h
  go_enter Try.func5, Try.ntmps5
  go_wp2_with fail
  refine (l20Open_any w _ l H.out).mono ?_
  rintro e w1 ⟨g, rfl, hg, hR, hb⟩
  have HF := Lib.hid ((From.start w).call hb)
  have HR := Lib.hid hR
  clear hb hR
  go_wp2_with fail
  refine (l20Objects_any w1 g 0 HR.out (by decide) 3 (by decide) (by decide)).mono ?_
  rintro e w2 ⟨_, q, rfl, hO, hq, hD⟩
  have HF2 := Lib.hid (HF.out.drawn hD hg)
  have HO := Lib.hid hO.obs
  clear hO hD HF HR
  go_wp2_with fail
  go_ret
  exact ⟨_, rfl, HO.out, HF2.out⟩
def SomeFind (w : World) (v : Value) : Prop := ∃ (vo : Value) (s : ByteArray), v = .tuple #[vo, .string s] ∧ SomeObs w vo ∧ s.size ≤ 9
set_option maxHeartbeats 1000000 in
theorem s_DrawFindName_any (w : World) (v : Value) (l : List UInt8) (h : BytesAt w v l) :
    Calls Try.prog 9 #[v] w (DrawB SomeFind w) := by
  have H := Lib.hid h
  clear h
  go_enter Try.func9, Try.ntmps9
  go_wp2_with fail
  refine (l20Open_any w _ l H.out).mono ?_
  rintro e w1 ⟨g, rfl, hg, hR, hb⟩
  have HF := Lib.hid ((From.start w).call hb)
  have HR := Lib.hid hR
  have zg : g < w1.heap.size := hR.lt
  clear hb hR
  go_wp2_with fail
  refine (l20Objects_any w1 g 0 HR.out (by decide) 9 (by decide) (by decide)).mono ?_
  rintro e w2 ⟨v2, q, rfl, ⟨xs, hx, hxl⟩, hq, hD⟩
  have HF2 := Lib.hid (HF.out.drawn hD hg)
  have HD2 := Lib.hid hD
  have HX := Lib.hid hx
  clear hx hD HF HR
  go_wp2_with fail
  refine (l20Name_any w2 g q HD2.out.rd (by omega) 9 (by decide) (by decide)).mono ?_
  rintro e w3 ⟨_, q3, rfl, ⟨s, rfl, hs⟩, hq3, hD⟩
  have HF3 := Lib.hid (HF2.out.drawn hD hg)
  have HO : Hid (SomeObs w3 v2) := SomeObjs.obs ⟨xs, HX.out.drawn hD.grow zg, hxl⟩
  clear hD HF2 HX HD2
  go_wp2_with fail
  go_ret2
  exact ⟨_, rfl, ⟨_, _, rfl, HO.out, hs⟩, HF3.out⟩
end Go.Proofs.Ytpgmmjdianoaeaa
