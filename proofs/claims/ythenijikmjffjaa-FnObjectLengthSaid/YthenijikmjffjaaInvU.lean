/- Regions that draw their order: one obligation an operation; what has been used up may be written over. -/
import Derived.Test.YthenijikmjffjaaInv
namespace Go.Proofs.Ythenijikmjffjaa
open Go
set_option linter.unusedSimpArgs false
set_option linter.unusedVariables false
section
variable {P : Program} {ops : Array Oper} {Q : Exit → Act → World → Prop}
theorem put_form {a0 : Act} {l : List Oper} (V : Nat → Value → World → Prop) (S : Nat → World → Prop) (hd : dstB l.toArray a0.tmps.size = true)
    (hq : ∀ (vs : List Value) (w : World), vs.length = l.length → S l.length w → AllV V w 0 (l.map (·.dst)) vs → Q .normal { tmps := putAll a0.tmps (l.map (·.dst)) vs, defers := a0.defers } w) :
    ∀ (a : Act) (w : World), a.tmps.size = a0.tmps.size → a.defers = a0.defers → (∀ x, (∀ i, dstAt l.toArray i ≠ some x) → a.tmps.getD x undef = a0.tmps.getD x undef) → S l.length w → HoldsAll l.toArray V a w (List.range l.length) → Q .normal a w := by
  intro a w hsz hdf hfr hSl hv
  have hall : ∀ i, i < l.length → HoldsAt l.toArray V i a w := by
    have : ∀ (r : List Nat), HoldsAll l.toArray V a w r → ∀ i ∈ r, HoldsAt l.toArray V i a w := by
      intro r
      induction r with
      | nil => intro _ i hi; cases hi
      | cons x r ih =>
        intro h i hi
        rcases List.mem_cons.1 hi with rfl | hi
        · exact h.1
        · exact ih h.2 i hi
    intro i hi
    exact this _ hv i (List.mem_range.2 hi)
  have hdst : ∀ i, dstAt l.toArray i = ((l.map (·.dst))[i]?).join := by
    intro i
    unfold dstAt
    simp only [List.getElem?_toArray, List.getElem?_map]
    cases l[i]? <;> rfl
  let g : Nat → Value := fun i => match dstAt l.toArray i with | some d => a.tmps.getD d undef | none => undef
  have hvs : ((List.range' 0 (l.map (·.dst)).length).map g).length = l.length := by simp
  have h1 := hq ((List.range' 0 (l.map (·.dst)).length).map g) w hvs hSl (allV_of (g := g) (l.map (·.dst)) 0 (fun i d hid => by
    have hi : i < l.length := by have := (List.getElem?_eq_some_iff.1 hid).1; simpa using this
    have hda : dstAt l.toArray i = some d := by rw [hdst, hid]; rfl
    have := hall i hi
    unfold HoldsAt at this
    rw [hda] at this
    simp only [Nat.zero_add, g, hda]
    exact this))
  have ha : a = { tmps := putAll a0.tmps (l.map (·.dst)) ((List.range' 0 (l.map (·.dst)).length).map g), defers := a0.defers } := by
    obtain ⟨tm, df⟩ := a
    simp only at hsz hdf hfr ⊢
    subst hdf
    congr 1
    apply Array.ext_getElem?
    intro x
    by_cases hx : x < a0.tmps.size
    · by_cases hin : ∃ i, dstAt l.toArray i = some x
      · obtain ⟨i, hi⟩ := hin
        have hil : i < l.length := by
          rcases Nat.lt_or_ge i l.length with h | h
          · exact h
          · simp [dstAt, List.getElem?_eq_none h] at hi
        have hli : (l.map (·.dst))[i]? = some (some x) := by
          have := hdst i
          rw [hi] at this
          rw [List.getElem?_eq_getElem (by simpa using hil)] at this ⊢
          simpa using this.symm
        rw [putAll_at (l.map (·.dst)) _ a0.tmps i hli ?_ (by rw [hvs]; exact hil) hx]
        · have : (((List.range' 0 (l.map (·.dst)).length).map g))[i]? = some (g i) := by simp [hil]
          rw [this]
          simp only [g, hi]
          simp [hsz, hx]
        · intro j hj
          have hj' : dstAt l.toArray j = some x := by rw [hdst, hj]; rfl
          have hjl : j < l.length := by have := (List.getElem?_eq_some_iff.1 hj).1; simpa using this
          have h5 := List.all_eq_true.1 hd i (List.mem_range.2 (by simpa using hil))
          rw [hi] at h5
          simp only [Bool.and_eq_true] at h5
          have h6 := List.all_eq_true.1 h5.2 j (List.mem_range.2 (by simpa using hjl))
          simpa [hj'] using h6
      · have hno : ∀ i, dstAt l.toArray i ≠ some x := fun i h => hin ⟨i, h⟩
        rw [putAll_not]
        · have := hfr x hno
          simp [hsz, hx] at this ⊢
          exact this
        · intro hm
          obtain ⟨j, hj, e⟩ := List.getElem_of_mem hm
          refine hno j ?_
          rw [hdst, List.getElem?_eq_getElem hj, e]; rfl
    · rw [Array.getElem?_eq_none (by omega), Array.getElem?_eq_none (by rw [putAll_size]; omega)]
  rw [ha]
  exact h1
/-- Whether what operation j holds is wanted when operation i has come up: j has not come up later than i for sure, and it is wanted at the end or by one that need not have come up. -/
def needB (n : Nat) (L A : List (List Nat)) (fin : List Nat) (i j : Nat) : Bool :=
  j != i && !(A.getD j []).contains i && (fin.contains j || (List.range n).any fun c => c != i && (L.getD c []).contains j && !(A.getD i []).contains c)
/-- What each operation owes: out of what the ones that it looks at hold; what is wanted still must stand. -/
def OwesU (P : Program) (ops : Array Oper) (Q : Exit → Act → World → Prop) (V : Nat → Value → World → Prop) (S : Nat → World → Prop) (need : Nat → Nat → Bool) (a0 : Act) : Nat → List Oper → List (List Nat) → Prop
  | k, o :: r, l :: ls => (∀ (n : Nat) (a : Act) (w : World) (K : Act → World → Prop), (∀ x, (∀ i, dstAt ops i ≠ some x) → a.tmps.getD x undef = a0.tmps.getD x undef) → n < ops.size → S n w → HoldsAll ops V a w l →
      (∀ v w', S (n + 1) w' → (∀ j u, need k j = true → V j u w → V j u w') → (o.dst ≠ none → V k v w') → K (a.put o.dst v) w') → if Region.wanted o (yielded ops a.tmps) = true then Oper.wp P o a w K Q else K (a.put o.dst undef) w) ∧ OwesU P ops Q V S need a0 (k + 1) r ls
  | _, [], [] => True
  | _, _, _ => False
theorem owesU_at {V : Nat → Value → World → Prop} {S : Nat → World → Prop} {need : Nat → Nat → Bool} {a0 : Act} : ∀ {k : Nat} {l : List Oper} {ls : List (List Nat)}, OwesU P ops Q V S need a0 k l ls → ∀ (j : Nat) (o : Oper), l[j]? = some o →
    ∃ L, ls[j]? = some L ∧ (∀ (n : Nat) (a : Act) (w : World) (K : Act → World → Prop), (∀ x, (∀ i, dstAt ops i ≠ some x) → a.tmps.getD x undef = a0.tmps.getD x undef) → n < ops.size → S n w → HoldsAll ops V a w L →
      (∀ v w', S (n + 1) w' → (∀ i u, need (k + j) i = true → V i u w → V i u w') → (o.dst ≠ none → V (k + j) v w') → K (a.put o.dst v) w') → if Region.wanted o (yielded ops a.tmps) = true then Oper.wp P o a w K Q else K (a.put o.dst undef) w)
  | k, [], _, _, j, o, ho => by cases j <;> cases ho
  | k, o' :: r, [], h, _, _, _ => h.elim
  | k, o' :: r, l :: ls, h, 0, o, ho => by
    obtain rfl : o' = o := by simpa using ho
    exact ⟨l, rfl, h.1⟩
  | k, o' :: r, l :: ls, h, j + 1, o, ho => by
    obtain ⟨L, h1, h2⟩ := owesU_at h.2 j o (by simpa using ho)
    refine ⟨L, by simpa using h1, ?_⟩
    intro n a w K hf hn hS hV hK
    have e : k + 1 + j = k + (j + 1) := by omega
    exact h2 n a w K hf hn hS hV (fun v w' h3 h4 h5 => hK v w' h3 (fun i u hi => h4 i u (by rw [e]; exact hi)) (fun hd => by have := h5 hd; rwa [e] at this))
/-- **A region that draws its order**: one obligation an operation. -/
theorem wp_region_use {id : Nat} {a0 : Act} {w0 : World} {l : List Oper} (V : Nat → Value → World → Prop) (S : Nat → World → Prop) (L A : List (List Nat)) (fin : List Nat)
    (hm : P.follows .mixedOrders = true) (ht : topoB .any l.toArray = true) (hL : ancB .any l.toArray L = true) (hA : ancB .any l.toArray A = true) (hd : dstB l.toArray a0.tmps.size = true)
    (hS : S 0 w0.drew)
    (ho : OwesU P l.toArray Q V S (needB l.length L A fin) a0 0 l L)
    (hq : ∀ (g : Nat → Value) (w : World), S l.length w → AllG (fun j v w => fin.contains j = true → V j v w) w g 0 (l.map (·.dst)) → Q .normal { tmps := putG g 0 a0.tmps (l.map (·.dst)), defers := a0.defers } w) :
    (Code.region id l.toArray true).wp P Q a0 w0 := by
  have hq1 := put_form (Q := Q) (a0 := a0) (fun j v w => fin.contains j = true → V j v w) S hd (fun vs w hlen hSl hv => by
    have hl2 : vs.length = (l.map (·.dst)).length := by simpa using hlen
    have hg : ∀ i, i < vs.length → vs[i]? = some ((fun i => vs.getD i undef) (0 + i)) := fun i hi => by simp [hi]
    rw [putAll_putG _ vs _ 0 (fun i => vs.getD i undef) hl2 hg]
    exact hq _ w hSl (allV_allG _ vs 0 _ hl2 hg hv))
  refine wp_region_any hm ?_
  let I : Array Bool → Act → World → Prop := fun listed a w => listed.size = l.toArray.size ∧ a.tmps.size = a0.tmps.size ∧ a.defers = a0.defers ∧
    (∀ x, (∀ i, dstAt l.toArray i ≠ some x) → a.tmps.getD x undef = a0.tmps.getD x undef) ∧
    (∀ i o, l.toArray[i]? = some o → listed.getD i false = true → ∀ e ∈ o.after, Region.binds .any e = true → listed.getD e.on false = true) ∧
    S (listed.toList.count true) w ∧ ∀ i, listed.getD i false = true → (fin.contains i = true ∨ ∃ c, c < l.length ∧ (L.getD c []).contains i = true ∧ listed.getD c false = false) → HoldsAt l.toArray V i a w
  refine wpAny_inv I ?_ ?_ _ _ _ _ ?_ ?_
  · rintro listed a w i hi ⟨h1, h2, h3, h4, h5, h6, h7⟩
    obtain ⟨hun, o, hio, haft⟩ := mem_ready.1 hi
    have hlt : i < l.toArray.size := (Array.getElem?_eq_some_iff.1 hio).1
    have hunf : listed.getD i false = false := by
      rcases Nat.lt_or_ge i listed.size with h' | h'
      · simp [h'] at hun ⊢; exact hun
      · simp [Array.getElem?_eq_none h'] at hun
    obtain ⟨Lo, hLo, hob⟩ := owesU_at ho i o (by simpa using hio)
    have hanc := listed_anc hL h5 ht i o hio haft
    have hancA := listed_anc hA h5 ht i o hio haft
    have hget : ∀ j, (listed.setIfInBounds i true).getD j false = true → j = i ∨ listed.getD j false = true := by
      intro j hj
      by_cases hji : i = j
      · exact .inl hji.symm
      · rw [getD_set_ne false hji] at hj; exact .inr hj
    refine wpOp_of_some hio (hob _ a w _ h4 (by rw [← h1]; exact count_true_lt hun) h6 (holdsAll_of fun j hj => h7 j (hanc j (by simpa [List.getD, hLo] using hj)) (.inr ⟨i, by simpa using hlt, by simpa [List.getD, hLo] using hj, hunf⟩)) ?_)
    intro v w' hS' hR hv
    have hdst := List.all_eq_true.1 hd i (List.mem_range.2 hlt)
    refine ⟨by simpa using h1, by rw [put_size, h2], by rw [put_def, h3], fun x hx => ?_, ?_, by rw [count_true_set hun]; exact hS', fun j hj hout => ?_⟩
    · rw [put_getD_ne, h4 x hx]
      intro e
      exact hx i (by simp [dstAt, hio, e])
    · intro j oj hoj hj e he hb
      rcases hget j hj with rfl | hj'
      · rw [hoj] at hio
        obtain rfl : oj = o := by simpa using hio
        exact getD_set_true (haft e he hb)
      · exact getD_set_true (h5 j oj hoj hj' e he hb)
    · rcases hget j hj with rfl | hj'
      · unfold HoldsAt
        cases hod : o.dst with
        | none => simp [dstAt, hio, hod]
        | some d =>
          have hda : dstAt l.toArray j = some d := by simp [dstAt, hio, hod]
          rw [hda] at hdst ⊢
          simp only [Bool.and_eq_true, decide_eq_true_eq] at hdst
          show V j _ _
          rw [put_getD_eq (by rw [h2]; exact hdst.1)]
          have := hv (by simp [hod])
          simpa using this
      · have hne : j ≠ i := by
          rintro rfl
          rw [hunf] at hj'; cases hj'
        have hjl : j < l.toArray.size := by
          rcases Nat.lt_or_ge j l.toArray.size with h' | h'
          · exact h'
          · rw [← h1] at h'; simp [Array.getElem?_eq_none h'] at hj'
        have hout0 : fin.contains j = true ∨ ∃ c, c < l.length ∧ (L.getD c []).contains j = true ∧ listed.getD c false = false := by
          rcases hout with hf | ⟨c, hc, hcj, hcu⟩
          · exact .inl hf
          · refine .inr ⟨c, hc, hcj, ?_⟩
            cases hcl : listed.getD c false with
            | false => rfl
            | true => rw [getD_set_true hcl] at hcu; cases hcu
        have hneed : needB l.length L A fin i j = true := by
          unfold needB
          rw [Bool.and_eq_true, Bool.and_eq_true]
          refine ⟨⟨by simpa using hne, ?_⟩, ?_⟩
          · rw [Bool.not_eq_true']
            cases hca : (A.getD j []).contains i with
            | false => rfl
            | true =>
              have hoj : l.toArray[j]? = some (l.toArray[j]) := Array.getElem?_eq_getElem hjl
              have := listed_anc hA h5 ht j _ hoj (h5 j _ hoj hj') i (by simpa using hca)
              rw [hunf] at this; cases this
          · rw [Bool.or_eq_true]
            rcases hout with hf | ⟨c, hc, hcj, hcu⟩
            · exact .inl hf
            · refine .inr (List.any_eq_true.2 ⟨c, List.mem_range.2 hc, ?_⟩)
              have hci : c ≠ i := by
                rintro rfl
                have : (listed.setIfInBounds c true).getD c false = true := by
                  simp [show c < listed.size by rw [h1]; exact hlt]
                rw [this] at hcu; cases hcu
              have hcu0 : listed.getD c false = false := by
                cases hcl : listed.getD c false with
                | false => rfl
                | true => rw [getD_set_true hcl] at hcu; cases hcu
              rw [Bool.and_eq_true, Bool.and_eq_true]
              refine ⟨⟨by simpa using hci, hcj⟩, ?_⟩
              rw [Bool.not_eq_true']
              cases hca : (A.getD i []).contains c with
              | false => rfl
              | true =>
                have := hancA c (by simpa using hca)
                rw [hcu0] at this; cases this
        have hj7 := h7 j hj' hout0
        unfold HoldsAt at hj7 ⊢
        cases hdj : dstAt l.toArray j with
        | none => trivial
        | some d =>
          rw [hdj] at hj7
          show V j _ _
          rw [put_getD_ne]
          · exact hR j _ (by simpa using hneed) hj7
          · intro e
            have hdo : dstAt l.toArray i = some d := by simp [dstAt, hio, e]
            rw [hdo] at hdst
            simp only [Bool.and_eq_true, decide_eq_true_eq] at hdst
            have := List.all_eq_true.1 hdst.2 j (List.mem_range.2 hjl)
            simp [hne, hdj] at this
  · rintro listed a w hr ⟨h1, h2, h3, h4, h5, h6, h7⟩
    have hall := all_listed h1 ht hr
    have hct : listed.toList.count true = l.length := by
      have : listed = Array.replicate l.length true := by
        apply Array.ext
        · simpa using h1
        · intro i hi1 hi2
          have := hall i (by rw [← h1]; exact hi1)
          simpa [hi1] using this
      rw [this]
      simp
    refine hq1 a w h2 h3 h4 (by rw [← hct]; exact h6) (holdsAll_of fun i hi => ?_)
    have hh := fun hf => h7 i (hall i (by simpa using List.mem_range.1 hi)) (.inl hf)
    unfold HoldsAt at hh ⊢
    cases hdi : dstAt l.toArray i with
    | none => trivial
    | some d => rw [hdi] at hh; exact hh
  · simp
  · have hno : ∀ i, (Array.replicate l.toArray.size false).getD i false = true → False := by
      intro i hi
      simp [Array.getElem?_replicate] at hi
      split at hi <;> simp at hi
    refine ⟨by simp, rfl, rfl, fun _ _ => rfl, fun i o _ h => (hno i h).elim, ?_, fun i h => (hno i h).elim⟩
    have h0 : (Array.replicate l.toArray.size false).toList.count true = 0 := by
      rw [List.count_eq_zero]
      intro h
      simp at h
    rw [h0]
    exact hS
/-- One operation comes up behind all others. -/
def lastOpB (n : Nat) (A : List (List Nat)) (e : Nat) : Bool := decide (e < n) && (List.range n).all fun j => j == e || (A.getD e []).contains j
/-- What each operation owes: out of what the ones that it looks at hold; what is wanted still must stand. -/
def OwesE (P : Program) (ops : Array Oper) (Q : Exit → Act → World → Prop) (V : Nat → Value → World → Prop) (S : Nat → World → Prop) (need : Nat → Nat → Bool) (E : Nat) (a0 : Act) : Nat → List Oper → List (List Nat) → Prop
  | k, o :: r, l :: ls => (∀ (n : Nat) (a : Act) (w : World) (K : Act → World → Prop), (∀ x, (∀ i, dstAt ops i ≠ some x) → a.tmps.getD x undef = a0.tmps.getD x undef) → n < ops.size → ((k = E → n + 1 = ops.size) ∧ (k ≠ E → n + 1 < ops.size)) → S n w → HoldsAll ops V a w l →
      (∀ v w', S (n + 1) w' → (∀ j u, need k j = true → V j u w → V j u w') → (o.dst ≠ none → V k v w') → K (a.put o.dst v) w') → if Region.wanted o (yielded ops a.tmps) = true then Oper.wp P o a w K Q else K (a.put o.dst undef) w) ∧ OwesE P ops Q V S need E a0 (k + 1) r ls
  | _, [], [] => True
  | _, _, _ => False
theorem owesE_at {V : Nat → Value → World → Prop} {S : Nat → World → Prop} {need : Nat → Nat → Bool} {E : Nat} {a0 : Act} : ∀ {k : Nat} {l : List Oper} {ls : List (List Nat)}, OwesE P ops Q V S need E a0 k l ls → ∀ (j : Nat) (o : Oper), l[j]? = some o →
    ∃ L, ls[j]? = some L ∧ (∀ (n : Nat) (a : Act) (w : World) (K : Act → World → Prop), (∀ x, (∀ i, dstAt ops i ≠ some x) → a.tmps.getD x undef = a0.tmps.getD x undef) → n < ops.size → ((k + j = E → n + 1 = ops.size) ∧ (k + j ≠ E → n + 1 < ops.size)) → S n w → HoldsAll ops V a w L →
      (∀ v w', S (n + 1) w' → (∀ i u, need (k + j) i = true → V i u w → V i u w') → (o.dst ≠ none → V (k + j) v w') → K (a.put o.dst v) w') → if Region.wanted o (yielded ops a.tmps) = true then Oper.wp P o a w K Q else K (a.put o.dst undef) w)
  | k, [], _, _, j, o, ho => by cases j <;> cases ho
  | k, o' :: r, [], h, _, _, _ => h.elim
  | k, o' :: r, l :: ls, h, 0, o, ho => by
    obtain rfl : o' = o := by simpa using ho
    exact ⟨l, rfl, h.1⟩
  | k, o' :: r, l :: ls, h, j + 1, o, ho => by
    obtain ⟨L, h1, h2⟩ := owesE_at h.2 j o (by simpa using ho)
    refine ⟨L, by simpa using h1, ?_⟩
    intro n a w K hf hn hE hS hV hK
    have e : k + 1 + j = k + (j + 1) := by omega
    exact h2 n a w K hf hn (by rw [e]; exact hE) hS hV (fun v w' h3 h4 h5 => hK v w' h3 (fun i u hi => h4 i u (by rw [e]; exact hi)) (fun hd => by have := h5 hd; rwa [e] at this))
/-- **A region that draws its order**: one obligation an operation. -/
theorem wp_region_end {id : Nat} {a0 : Act} {w0 : World} {l : List Oper} (V : Nat → Value → World → Prop) (S : Nat → World → Prop) (L A : List (List Nat)) (fin : List Nat) (E : Nat)
    (hm : P.follows .mixedOrders = true) (ht : topoB .any l.toArray = true) (hL : ancB .any l.toArray L = true) (hA : ancB .any l.toArray A = true) (hd : dstB l.toArray a0.tmps.size = true)
    (hS : S 0 w0.drew) (hEn : lastOpB l.length A E = true)
    (ho : OwesE P l.toArray Q V S (needB l.length L A fin) E a0 0 l L)
    (hq : ∀ (g : Nat → Value) (w : World), S l.length w → AllG (fun j v w => fin.contains j = true → V j v w) w g 0 (l.map (·.dst)) → Q .normal { tmps := putG g 0 a0.tmps (l.map (·.dst)), defers := a0.defers } w) :
    (Code.region id l.toArray true).wp P Q a0 w0 := by
  have hq1 := put_form (Q := Q) (a0 := a0) (fun j v w => fin.contains j = true → V j v w) S hd (fun vs w hlen hSl hv => by
    have hl2 : vs.length = (l.map (·.dst)).length := by simpa using hlen
    have hg : ∀ i, i < vs.length → vs[i]? = some ((fun i => vs.getD i undef) (0 + i)) := fun i hi => by simp [hi]
    rw [putAll_putG _ vs _ 0 (fun i => vs.getD i undef) hl2 hg]
    exact hq _ w hSl (allV_allG _ vs 0 _ hl2 hg hv))
  refine wp_region_any hm ?_
  let I : Array Bool → Act → World → Prop := fun listed a w => listed.size = l.toArray.size ∧ a.tmps.size = a0.tmps.size ∧ a.defers = a0.defers ∧
    (∀ x, (∀ i, dstAt l.toArray i ≠ some x) → a.tmps.getD x undef = a0.tmps.getD x undef) ∧
    (∀ i o, l.toArray[i]? = some o → listed.getD i false = true → ∀ e ∈ o.after, Region.binds .any e = true → listed.getD e.on false = true) ∧
    S (listed.toList.count true) w ∧ ∀ i, listed.getD i false = true → (fin.contains i = true ∨ ∃ c, c < l.length ∧ (L.getD c []).contains i = true ∧ listed.getD c false = false) → HoldsAt l.toArray V i a w
  refine wpAny_inv I ?_ ?_ _ _ _ _ ?_ ?_
  · rintro listed a w i hi ⟨h1, h2, h3, h4, h5, h6, h7⟩
    obtain ⟨hun, o, hio, haft⟩ := mem_ready.1 hi
    have hlt : i < l.toArray.size := (Array.getElem?_eq_some_iff.1 hio).1
    have hunf : listed.getD i false = false := by
      rcases Nat.lt_or_ge i listed.size with h' | h'
      · simp [h'] at hun ⊢; exact hun
      · simp [Array.getElem?_eq_none h'] at hun
    obtain ⟨Lo, hLo, hob⟩ := owesE_at ho i o (by simpa using hio)
    have hanc := listed_anc hL h5 ht i o hio haft
    have hancA := listed_anc hA h5 ht i o hio haft
    have hend : ((0 + i = E → listed.toList.count true + 1 = l.toArray.size) ∧ (0 + i ≠ E → listed.toList.count true + 1 < l.toArray.size)) := by
      rw [Nat.zero_add]
      unfold lastOpB at hEn
      rw [Bool.and_eq_true, decide_eq_true_eq, List.all_eq_true] at hEn
      have hsum : ∀ r : List Bool, r.count true + r.count false = r.length := by
        intro r
        induction r with
        | nil => rfl
        | cons b r ih => cases b <;> simp <;> omega
      have hs := hsum listed.toList
      rw [Array.length_toList, h1] at hs
      have hc1 := count_false_set hun
      constructor
      · rintro rfl
        have hall : listed.setIfInBounds i true = Array.replicate l.toArray.size true := by
          apply Array.ext
          · simpa using h1
          · intro j hj1 hj2
            by_cases hji : i = j
            · subst hji; simp
            · have hjl : j < l.length := by simpa using hj2
              have := hEn.2 j (List.mem_range.2 hjl)
              rw [Bool.or_eq_true] at this
              rcases this with h | h
              · exact absurd (by simpa using h) (Ne.symm hji)
              · have hl := hancA j (by simpa using h)
                have hj3 : j < listed.size := by rw [h1]; simpa using hjl
                simp [hj3] at hl
                have e : (listed.setIfInBounds i true)[j]? = listed[j]? := Array.getElem?_setIfInBounds_ne hji
                rw [Array.getElem?_eq_getElem hj1, Array.getElem?_eq_getElem hj3, hl] at e
                simpa using e
        rw [hall] at hc1
        have : (Array.replicate l.toArray.size true).toList.count false = 0 := by
          rw [List.count_eq_zero]; intro h; simp at h
        omega
      · intro hne
        have heu : listed.getD E false = false := by
          cases hle : listed.getD E false with
          | false => rfl
          | true =>
            have hEl : E < l.toArray.size := by simpa using hEn.1
            have hin := hEn.2 i (List.mem_range.2 (by simpa using hlt))
            rw [Bool.or_eq_true] at hin
            rcases hin with h | h
            · exact absurd (by simpa using h) hne
            · have := listed_anc hA h5 ht E _ (Array.getElem?_eq_getElem hEl) (h5 E _ (Array.getElem?_eq_getElem hEl) hle) i (by simpa using h)
              rw [hunf] at this; cases this
        have hEl : E < listed.size := by rw [h1]; simpa using hEn.1
        have heu2 : (listed.setIfInBounds i true).getD E true = false := by
          rw [getD_set_ne true hne]
          simp [hEl] at heu ⊢; exact heu
        have hc2 := count_false_set heu2
        omega
    have hget : ∀ j, (listed.setIfInBounds i true).getD j false = true → j = i ∨ listed.getD j false = true := by
      intro j hj
      by_cases hji : i = j
      · exact .inl hji.symm
      · rw [getD_set_ne false hji] at hj; exact .inr hj
    refine wpOp_of_some hio (hob _ a w _ h4 (by rw [← h1]; exact count_true_lt hun) hend h6 (holdsAll_of fun j hj => h7 j (hanc j (by simpa [List.getD, hLo] using hj)) (.inr ⟨i, by simpa using hlt, by simpa [List.getD, hLo] using hj, hunf⟩)) ?_)
    intro v w' hS' hR hv
    have hdst := List.all_eq_true.1 hd i (List.mem_range.2 hlt)
    refine ⟨by simpa using h1, by rw [put_size, h2], by rw [put_def, h3], fun x hx => ?_, ?_, by rw [count_true_set hun]; exact hS', fun j hj hout => ?_⟩
    · rw [put_getD_ne, h4 x hx]
      intro e
      exact hx i (by simp [dstAt, hio, e])
    · intro j oj hoj hj e he hb
      rcases hget j hj with rfl | hj'
      · rw [hoj] at hio
        obtain rfl : oj = o := by simpa using hio
        exact getD_set_true (haft e he hb)
      · exact getD_set_true (h5 j oj hoj hj' e he hb)
    · rcases hget j hj with rfl | hj'
      · unfold HoldsAt
        cases hod : o.dst with
        | none => simp [dstAt, hio, hod]
        | some d =>
          have hda : dstAt l.toArray j = some d := by simp [dstAt, hio, hod]
          rw [hda] at hdst ⊢
          simp only [Bool.and_eq_true, decide_eq_true_eq] at hdst
          show V j _ _
          rw [put_getD_eq (by rw [h2]; exact hdst.1)]
          have := hv (by simp [hod])
          simpa using this
      · have hne : j ≠ i := by
          rintro rfl
          rw [hunf] at hj'; cases hj'
        have hjl : j < l.toArray.size := by
          rcases Nat.lt_or_ge j l.toArray.size with h' | h'
          · exact h'
          · rw [← h1] at h'; simp [Array.getElem?_eq_none h'] at hj'
        have hout0 : fin.contains j = true ∨ ∃ c, c < l.length ∧ (L.getD c []).contains j = true ∧ listed.getD c false = false := by
          rcases hout with hf | ⟨c, hc, hcj, hcu⟩
          · exact .inl hf
          · refine .inr ⟨c, hc, hcj, ?_⟩
            cases hcl : listed.getD c false with
            | false => rfl
            | true => rw [getD_set_true hcl] at hcu; cases hcu
        have hneed : needB l.length L A fin i j = true := by
          unfold needB
          rw [Bool.and_eq_true, Bool.and_eq_true]
          refine ⟨⟨by simpa using hne, ?_⟩, ?_⟩
          · rw [Bool.not_eq_true']
            cases hca : (A.getD j []).contains i with
            | false => rfl
            | true =>
              have hoj : l.toArray[j]? = some (l.toArray[j]) := Array.getElem?_eq_getElem hjl
              have := listed_anc hA h5 ht j _ hoj (h5 j _ hoj hj') i (by simpa using hca)
              rw [hunf] at this; cases this
          · rw [Bool.or_eq_true]
            rcases hout with hf | ⟨c, hc, hcj, hcu⟩
            · exact .inl hf
            · refine .inr (List.any_eq_true.2 ⟨c, List.mem_range.2 hc, ?_⟩)
              have hci : c ≠ i := by
                rintro rfl
                have : (listed.setIfInBounds c true).getD c false = true := by
                  simp [show c < listed.size by rw [h1]; exact hlt]
                rw [this] at hcu; cases hcu
              have hcu0 : listed.getD c false = false := by
                cases hcl : listed.getD c false with
                | false => rfl
                | true => rw [getD_set_true hcl] at hcu; cases hcu
              rw [Bool.and_eq_true, Bool.and_eq_true]
              refine ⟨⟨by simpa using hci, hcj⟩, ?_⟩
              rw [Bool.not_eq_true']
              cases hca : (A.getD i []).contains c with
              | false => rfl
              | true =>
                have := hancA c (by simpa using hca)
                rw [hcu0] at this; cases this
        have hj7 := h7 j hj' hout0
        unfold HoldsAt at hj7 ⊢
        cases hdj : dstAt l.toArray j with
        | none => trivial
        | some d =>
          rw [hdj] at hj7
          show V j _ _
          rw [put_getD_ne]
          · exact hR j _ (by simpa using hneed) hj7
          · intro e
            have hdo : dstAt l.toArray i = some d := by simp [dstAt, hio, e]
            rw [hdo] at hdst
            simp only [Bool.and_eq_true, decide_eq_true_eq] at hdst
            have := List.all_eq_true.1 hdst.2 j (List.mem_range.2 hjl)
            simp [hne, hdj] at this
  · rintro listed a w hr ⟨h1, h2, h3, h4, h5, h6, h7⟩
    have hall := all_listed h1 ht hr
    have hct : listed.toList.count true = l.length := by
      have : listed = Array.replicate l.length true := by
        apply Array.ext
        · simpa using h1
        · intro i hi1 hi2
          have := hall i (by rw [← h1]; exact hi1)
          simpa [hi1] using this
      rw [this]
      simp
    refine hq1 a w h2 h3 h4 (by rw [← hct]; exact h6) (holdsAll_of fun i hi => ?_)
    have hh := fun hf => h7 i (hall i (by simpa using List.mem_range.1 hi)) (.inl hf)
    unfold HoldsAt at hh ⊢
    cases hdi : dstAt l.toArray i with
    | none => trivial
    | some d => rw [hdi] at hh; exact hh
  · simp
  · have hno : ∀ i, (Array.replicate l.toArray.size false).getD i false = true → False := by
      intro i hi
      simp [Array.getElem?_replicate] at hi
      split at hi <;> simp at hi
    refine ⟨by simp, rfl, rfl, fun _ _ => rfl, fun i o _ h => (hno i h).elim, ?_, fun i h => (hno i h).elim⟩
    have h0 : (Array.replicate l.toArray.size false).toList.count true = 0 := by
      rw [List.count_eq_zero]
      intro h
      simp at h
    rw [h0]
    exact hS
end
end Go.Proofs.Ythenijikmjffjaa
