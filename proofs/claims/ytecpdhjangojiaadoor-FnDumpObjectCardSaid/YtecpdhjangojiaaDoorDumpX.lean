/- The statement on the program's dump: lines as the reference's, read back. -/
import Derived.Test.YtecpdhjangojiaaDoorDumpV
import Derived.Test.YtecpdhjangojiaaDoorDumpS
import Derived.Test.YtecpdhjangojiaaDoorDumpW
import Derived.Test.YtecpdhjangojiaaDoorDrawO
import Derived.Test.YtecpdhjangojiaaDoorDrawK
import Derived.Test.YtecpdhjangojiaaDoorSame
namespace Go.Proofs.YtecpdhjangojiaaDoor
open Go.ChangeShapes Go.WideShapes Go.ChangeAt Go.RowKit Go.Joins
set_option linter.unusedSimpArgs false
set_option linter.unusedVariables false
set_option maxRecDepth 100000
set_option maxHeartbeats 2000000 in
theorem walk_FnDumpObject (w : World) (v : Value) (l : List UInt8) (h : BytesAt w v l) (he : Env w) :
    Calls Tryd.prog 3 #[v] w fun e w' => e = .returned (.bool true) ∧ Below w.heap.size w w' := by
  obtain ⟨a, cap, hv, hcap, hmax, hnone, hcell⟩ := h.form
  clear hnone hcell
  have HE := Lib.hid he
  clear he
  by_cases hl : (l.length : Int) ≤ 1048576
  · have H := Lib.hid h
    clear h
    subst hv
    unfold maxLen at hmax
    go_enter Tryd.func3, Tryd.ntmps3
    go_wp2_with fail
    refine (s_DrawDumpObject_any _ _ l H.out).mono ?_
    rintro e w1 ⟨_, rfl, ⟨o, ho, hn1, hn2, hl1, hl2, -⟩, hF⟩
    obtain ⟨sa, sc, ya, yc, rfl⟩ := ho.agg
    have HF := Lib.hid hF
    have HO := Lib.hid ho
    have HN := Lib.hid (⟨fun s hs => by have := hn1 s hs; unfold maxLen; omega, fun s hs => by have := hn2 s hs; unfold maxLen; omega⟩ : (∀ s ∈ o.secs, s.name.size ≤ maxLen) ∧ ∀ s ∈ o.syms, s.name.size ≤ maxLen)
    obtain ⟨T, hT⟩ : ∃ T, (dumpL o).map txt = T := ⟨_, rfl⟩
    have hTl : T.length ≤ 1000 := by rw [← hT, List.length_map]; exact dump_few o
    have HTs : Hid (∀ s ∈ T, s.size ≤ 1073741824) := fun s hs => by
      rw [← hT] at hs
      obtain ⟨x, hx, rfl⟩ := List.mem_map.1 hs
      rw [txt_size]
      have := dump_lines o x hx
      omega
    have HT := Lib.hid hT
    clear hF ho hn1 hn2 hT
    go_wp2_with fail
    have X1 := Lib.hid ((From.start w1).alloc (.cells #[.slice sa o.secs.length sc, .slice ya o.syms.length yc] 26))
    refine (i_DumpObject _ _ o (HO.out.below (Nat.le_refl _) X1.out.below) HN.out (HE.out.call (HF.out.call X1.out.below).below).tab).mono ?_
    unfold RetL
    rw [HT.out]
    rintro e w2 ⟨r2, rfl, o2, h2⟩
    obtain ⟨ra, rc, rfl⟩ := owns_form o2
    have HG2 := Lib.hid (X1.out.call h2)
    have HF2 := Lib.hid (HF.out.call HG2.out.below)
    have HB2 := Lib.hid ((Blk.new w1 #[.slice sa o.secs.length sc, .slice ya o.syms.length yc] 26).call h2)
    have HR2 := Lib.hid (OwnS.reads o2)
    have c2 := HB2.out.cell
    have z2 := HB2.out.lt
    clear h2 o2 X1 HF
    go_wp2_with fail
    refine (s_DumpObject _ _ o (HO.out.below (Nat.le_refl _) HG2.out.below) HN.out).mono ?_
    unfold RetL
    rw [HT.out]
    rintro e w3 ⟨r3, rfl, o3, h3⟩
    obtain ⟨rb, rd, rfl⟩ := owns_form o3
    have HG3 := Lib.hid (HG2.out.call h3)
    have HF3 := Lib.hid (HF2.out.call h3)
    have HB3 := Lib.hid (HB2.out.call h3)
    have HR3 : Hid (StrsAt w3 (.slice ra T.length rc) T) := HR2.out.below (Nat.le_refl _) h3
    have HS3 := Lib.hid (OwnS.reads o3)
    clear h3 o3 HF2 HG2 HB2 HR2 c2 z2
    go_wp2_with fail
    refine (l_sameTexts_same w3 _ _ T HR3.out HS3.out).mono ?_
    rintro e w4 ⟨rfl, h4⟩
    have HG4 := Lib.hid (HG3.out.call h4)
    have HF4 := Lib.hid (HF3.out.call h4)
    have HB4 := Lib.hid (HB3.out.call h4)
    have HR4 := Lib.hid (HR3.out.below (Nat.le_refl _) h4)
    have c4 := HB4.out.cell
    have z4 := HB4.out.lt
    clear h4 HF3 HG3 HB3 HR3 HS3
    go_wp2_with fail
    refine (s_ObjectValid _ _ o (HO.out.below (Nat.le_refl _) HG4.out.below) HN.out).mono ?_
    rintro e w5 ⟨rfl, h5⟩
    have HG5 := Lib.hid (HG4.out.call h5)
    have HF5 := Lib.hid (HF4.out.call h5)
    have HB5 := Lib.hid (HB4.out.call h5)
    have HR5 := Lib.hid (HR4.out.below (Nat.le_refl _) h5)
    clear h5 HF4 HG4 HB4 HR4 c4 z4
    cases hv : objB o
    · have hz : T.length = 0 := by rw [← HT.out]; unfold dumpL; rw [hv]; rfl
      have e0 : ((T.length : Int) == 0) = true := by simp [hz]
      clear hz hv
      go_wp2_with (first | (go_at_call 10; (with_reducible refine (alive_any _).mono ?_); rintro e w' ⟨rfl, rfl⟩))
      go_ret
      exact ⟨rfl, HF5.out.below⟩
    · have HRD : Hid (readD lineI (T.map bytesS) = some o) := by
        show _ = _
        refine (readD_iff lineI_reads _ _).2 ⟨hv, ?_⟩
        rw [← HT.out, List.map_map]
        simp [Function.comp_def, bytesS_txt]
      clear hv
      obtain ⟨tn, htn⟩ : ∃ tn, T.length = tn := ⟨_, rfl⟩
      have HR9 : Hid (StrsAt w5 (.slice ra tn rc) T) := by have h9 := HR5.out; rw [htn] at h9; exact h9
      rw [htn]
      clear HR5 htn
      go_wp2_with fail
      refine (i_ReadDump w5 _ T HR9.out HTs.out (by omega) (HE.out.call HF5.out.below)).mono ?_
      rw [HRD.out]
      rintro e w6 ⟨r6, rfl, o6, h6⟩
      simp only [Option.getD_some] at o6
      obtain ⟨ta, tc, tb, td, rfl⟩ := o6.reads.agg
      have HF6 := Lib.hid ((HF5.out.call h6).alloc (.cells #[.slice ta o.secs.length tc, .slice tb o.syms.length td] 26))
      have HG6 := Lib.hid ((HG5.out.call h6).alloc (.cells #[.slice ta o.secs.length tc, .slice tb o.syms.length td] 26))
      have HB6 := Lib.hid ((HB5.out.call h6).alloc (.cells #[.slice ta o.secs.length tc, .slice tb o.syms.length td] 26))
      have HX6 := Lib.hid (Blk.new w6 #[.slice ta o.secs.length tc, .slice tb o.syms.length td] 26)
      have HY6 := Lib.hid (o6.reads.below (Nat.le_refl _) ((From.start w6).alloc (.cells #[.slice ta o.secs.length tc, .slice tb o.syms.length td] 26)).below)
      simp only [Option.isSome_some]
      have c6 := HB6.out.cell
      have z6 := HB6.out.lt
      have c7 := HX6.out.cell
      have z7 := HX6.out.lt
      clear h6 o6 HF5 HG5 HB5 HR9 HRD
      go_wp2_with fail
      refine (sameObject_same _ _ _ o HY6.out (HO.out.below (Nat.le_refl _) HG6.out.below)).mono ?_
      rintro e w7 ⟨rfl, h7⟩
      have HF7 := Lib.hid (HF6.out.call h7)
      clear h7 HF6 HG6 HB6 HX6 HY6 c6 z6 c7 z7
      go_wp2_with fail
      go_ret
      exact ⟨rfl, HF7.out.below⟩
  · subst hv
    have i1 : (1048576 : Int) < (l.length : Int) := by omega
    go_enter Tryd.func3, Tryd.ntmps3
    go_wp2_with fail
    go_ret
    exact ⟨rfl, Below.refl _ _⟩
end Go.Proofs.YtecpdhjangojiaaDoor
