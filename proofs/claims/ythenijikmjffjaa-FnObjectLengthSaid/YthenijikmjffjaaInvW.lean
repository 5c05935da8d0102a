/- Regions that draw their order: one obligation an operation; each knows which others have come up for sure, and which have not. -/
import Derived.Test.YthenijikmjffjaaInvU
namespace Go.Proofs.Ythenijikmjffjaa
open Go
set_option linter.unusedSimpArgs false
set_option linter.unusedVariables false
section
variable {P : Program} {ops : Array Oper} {Q : Exit → Act → World → Prop}
/-- One more has come up. -/
def setl (f : Nat → Bool) (k : Nat) : Nat → Bool := fun j => f j || j == k
theorem setl_at (f : Nat → Bool) (k : Nat) : setl f k k = true := by simp [setl]
theorem setl_ne {f : Nat → Bool} {k j : Nat} (h : j ≠ k) : setl f k j = f j := by simp [setl, h]
theorem setl_off {f : Nat → Bool} {k j : Nat} (h : setl f k j = false) : f j = false := by simp [setl] at h; exact h.1
/-- What each operation owes: out of what the ones that it looks at hold; what is wanted still must stand. -/
def OwesW (P : Program) (ops : Array Oper) (Q : Exit → Act → World → Prop) (V : Nat → Value → World → Prop) (S : Nat → (Nat → Bool) → World → Prop) (A : List (List Nat)) (need : Nat → Nat → Bool) (a0 : Act) : Nat → List Oper → List (List Nat) → Prop
  | k, o :: r, l :: ls => (∀ (n : Nat) (f : Nat → Bool) (a : Act) (w : World) (K : Act → World → Prop), (∀ x, (∀ i, dstAt ops i ≠ some x) → a.tmps.getD x undef = a0.tmps.getD x undef) → n < ops.size → (f k = false ∧ (∀ c, (A.getD k []).contains c = true → f c = true) ∧ ∀ c, (A.getD c []).contains k = true → f c = false) → S n f w → HoldsAll ops V a w l →
      (∀ v w', S (n + 1) (setl f k) w' → (∀ j u, need k j = true → V j u w → V j u w') → (o.dst ≠ none → V k v w') → K (a.put o.dst v) w') → if Region.wanted o (yielded ops a.tmps) = true then Oper.wp P o a w K Q else K (a.put o.dst undef) w) ∧ OwesW P ops Q V S A need a0 (k + 1) r ls
  | _, [], [] => True
  | _, _, _ => False
theorem owesW_at {V : Nat → Value → World → Prop} {S : Nat → (Nat → Bool) → World → Prop} {A : List (List Nat)} {need : Nat → Nat → Bool} {a0 : Act} : ∀ {k : Nat} {l : List Oper} {ls : List (List Nat)}, OwesW P ops Q V S A need a0 k l ls → ∀ (j : Nat) (o : Oper), l[j]? = some o →
    ∃ L, ls[j]? = some L ∧ (∀ (n : Nat) (f : Nat → Bool) (a : Act) (w : World) (K : Act → World → Prop), (∀ x, (∀ i, dstAt ops i ≠ some x) → a.tmps.getD x undef = a0.tmps.getD x undef) → n < ops.size → (f (k + j) = false ∧ (∀ c, (A.getD (k + j) []).contains c = true → f c = true) ∧ ∀ c, (A.getD c []).contains (k + j) = true → f c = false) → S n f w → HoldsAll ops V a w L →
      (∀ v w', S (n + 1) (setl f (k + j)) w' → (∀ i u, need (k + j) i = true → V i u w → V i u w') → (o.dst ≠ none → V (k + j) v w') → K (a.put o.dst v) w') → if Region.wanted o (yielded ops a.tmps) = true then Oper.wp P o a w K Q else K (a.put o.dst undef) w)
  | k, [], _, _, j, o, ho => by cases j <;> cases ho
  | k, o' :: r, [], h, _, _, _ => h.elim
  | k, o' :: r, l :: ls, h, 0, o, ho => by
    obtain rfl : o' = o := by simpa using ho
    exact ⟨l, rfl, h.1⟩
  | k, o' :: r, l :: ls, h, j + 1, o, ho => by
    obtain ⟨L, h1, h2⟩ := owesW_at h.2 j o (by simpa using ho)
    refine ⟨L, by simpa using h1, ?_⟩
    intro n f a w K hf hn hE hS hV hK
    have e : k + 1 + j = k + (j + 1) := by omega
    exact h2 n f a w K hf hn (by rw [e]; exact hE) hS hV (fun v w' h3 h4 h5 => hK v w' (by rw [← e]; exact h3) (fun i u hi => h4 i u (by rw [e]; exact hi)) (fun hd => by have := h5 hd; rwa [e] at this))
/-- **A region that draws its order**: one obligation an operation. -/
theorem wp_region_set {id : Nat} {a0 : Act} {w0 : World} {l : List Oper} (V : Nat → Value → World → Prop) (S : Nat → (Nat → Bool) → World → Prop) (L A : List (List Nat)) (fin : List Nat)
    (hm : P.follows .mixedOrders = true) (ht : topoB .any l.toArray = true) (hL : ancB .any l.toArray L = true) (hA : ancB .any l.toArray A = true) (hd : dstB l.toArray a0.tmps.size = true)
    (hS : S 0 (fun _ => false) w0.drew)
    (ho : OwesW P l.toArray Q V S A (needB l.length L A fin) a0 0 l L)
    (hq : ∀ (g : Nat → Value) (w : World), S l.length (fun j => decide (j < l.length)) w → AllG (fun j v w => fin.contains j = true → V j v w) w g 0 (l.map (·.dst)) → Q .normal { tmps := putG g 0 a0.tmps (l.map (·.dst)), defers := a0.defers } w) :
    (Code.region id l.toArray true).wp P Q a0 w0 := by
  have hq1 := put_form (Q := Q) (a0 := a0) (fun j v w => fin.contains j = true → V j v w) (fun n w => S n (fun j => decide (j < l.length)) w) hd (fun vs w hlen hSl hv => by
    have hl2 : vs.length = (l.map (·.dst)).length := by simpa using hlen
    have hg : ∀ i, i < vs.length → vs[i]? = some ((fun i => vs.getD i undef) (0 + i)) := fun i hi => by simp [hi]
    rw [putAll_putG _ vs _ 0 (fun i => vs.getD i undef) hl2 hg]
    exact hq _ w hSl (allV_allG _ vs 0 _ hl2 hg hv))
  refine wp_region_any hm ?_
  let I : Array Bool → Act → World → Prop := fun listed a w => listed.size = l.toArray.size ∧ a.tmps.size = a0.tmps.size ∧ a.defers = a0.defers ∧
    (∀ x, (∀ i, dstAt l.toArray i ≠ some x) → a.tmps.getD x undef = a0.tmps.getD x undef) ∧
    (∀ i o, l.toArray[i]? = some o → listed.getD i false = true → ∀ e ∈ o.after, Region.binds .any e = true → listed.getD e.on false = true) ∧
    S (listed.toList.count true) (fun j => listed.getD j false) w ∧ ∀ i, listed.getD i false = true → (fin.contains i = true ∨ ∃ c, c < l.length ∧ (L.getD c []).contains i = true ∧ listed.getD c false = false) → HoldsAt l.toArray V i a w
  refine wpAny_inv I ?_ ?_ _ _ _ _ ?_ ?_
  · rintro listed a w i hi ⟨h1, h2, h3, h4, h5, h6, h7⟩
    obtain ⟨hun, o, hio, haft⟩ := mem_ready.1 hi
    have hlt : i < l.toArray.size := (Array.getElem?_eq_some_iff.1 hio).1
    have hunf : listed.getD i false = false := by
      rcases Nat.lt_or_ge i listed.size with h' | h'
      · simp [h'] at hun ⊢; exact hun
      · simp [Array.getElem?_eq_none h'] at hun
    obtain ⟨Lo, hLo, hob⟩ := owesW_at ho i o (by simpa using hio)
    have hanc := listed_anc hL h5 ht i o hio haft
    have hancA := listed_anc hA h5 ht i o hio haft
    have hend : (listed.getD (0 + i) false = false ∧ (∀ c, (A.getD (0 + i) []).contains c = true → listed.getD c false = true) ∧ ∀ c, (A.getD c []).contains (0 + i) = true → listed.getD c false = false) := by
      rw [Nat.zero_add]
      refine ⟨hunf, fun c hc => hancA c (by simpa using hc), fun c hc => ?_⟩
      cases hcl : listed.getD c false with
      | false => rfl
      | true =>
        have hcs : c < l.toArray.size := by
          rcases Nat.lt_or_ge c l.toArray.size with h' | h'
          · exact h'
          · rw [← h1] at h'; simp [Array.getElem?_eq_none h'] at hcl
        have := listed_anc hA h5 ht c _ (Array.getElem?_eq_getElem hcs) (h5 c _ (Array.getElem?_eq_getElem hcs) hcl) i (by simpa using hc)
        rw [hunf] at this; cases this
    have hset : (fun j => (listed.setIfInBounds i true).getD j false) = setl (fun j => listed.getD j false) (0 + i) := by
      rw [Nat.zero_add]
      funext j
      have hi2 : i < listed.size := by rw [h1]; exact hlt
      by_cases hji : i = j
      · subst hji
        rw [setl_at]
        simp [hi2]
      · rw [setl_ne (Ne.symm hji), getD_set_ne false hji]
    have hget : ∀ j, (listed.setIfInBounds i true).getD j false = true → j = i ∨ listed.getD j false = true := by
      intro j hj
      by_cases hji : i = j
      · exact .inl hji.symm
      · rw [getD_set_ne false hji] at hj; exact .inr hj
    refine wpOp_of_some hio (hob _ _ a w _ h4 (by rw [← h1]; exact count_true_lt hun) hend h6 (holdsAll_of fun j hj => h7 j (hanc j (by simpa [List.getD, hLo] using hj)) (.inr ⟨i, by simpa using hlt, by simpa [List.getD, hLo] using hj, hunf⟩)) ?_)
    intro v w' hS' hR hv
    have hdst := List.all_eq_true.1 hd i (List.mem_range.2 hlt)
    refine ⟨by simpa using h1, by rw [put_size, h2], by rw [put_def, h3], fun x hx => ?_, ?_, by rw [count_true_set hun, hset]; exact hS', fun j hj hout => ?_⟩
    · rw [put_getD_ne, h4 x hx]
      intro e
      exact hx i (by simp [dstAt, hio, e])
    · intro j oj hoj hj e he hb
      rcases hget j hj with rfl | hj'
      · rw [hoj] at hio
        obtain rfl : oj = o := by simpa using hio
        exact getD_set_true (haft e he hb)
      · exact getD_set_true (h5 j oj hoj hj' e he hb)
    · rcases hget j hj with rfl | hj'
      · unfold HoldsAt
        cases hod : o.dst with
        | none => simp [dstAt, hio, hod]
        | some d =>
          have hda : dstAt l.toArray j = some d := by simp [dstAt, hio, hod]
          rw [hda] at hdst ⊢
          simp only [Bool.and_eq_true, decide_eq_true_eq] at hdst
          show V j _ _
          rw [put_getD_eq (by rw [h2]; exact hdst.1)]
          have := hv (by simp [hod])
          simpa using this
      · have hne : j ≠ i := by
          rintro rfl
          rw [hunf] at hj'; cases hj'
        have hjl : j < l.toArray.size := by
          rcases Nat.lt_or_ge j l.toArray.size with h' | h'
          · exact h'
          · rw [← h1] at h'; simp [Array.getElem?_eq_none h'] at hj'
        have hout0 : fin.contains j = true ∨ ∃ c, c < l.length ∧ (L.getD c []).contains j = true ∧ listed.getD c false = false := by
          rcases hout with hf | ⟨c, hc, hcj, hcu⟩
          · exact .inl hf
          · refine .inr ⟨c, hc, hcj, ?_⟩
            cases hcl : listed.getD c false with
            | false => rfl
            | true => rw [getD_set_true hcl] at hcu; cases hcu
        have hneed : needB l.length L A fin i j = true := by
          unfold needB
          rw [Bool.and_eq_true, Bool.and_eq_true]
          refine ⟨⟨by simpa using hne, ?_⟩, ?_⟩
          · rw [Bool.not_eq_true']
            cases hca : (A.getD j []).contains i with
            | false => rfl
            | true =>
              have hoj : l.toArray[j]? = some (l.toArray[j]) := Array.getElem?_eq_getElem hjl
              have := listed_anc hA h5 ht j _ hoj (h5 j _ hoj hj') i (by simpa using hca)
              rw [hunf] at this; cases this
          · rw [Bool.or_eq_true]
            rcases hout with hf | ⟨c, hc, hcj, hcu⟩
            · exact .inl hf
            · refine .inr (List.any_eq_true.2 ⟨c, List.mem_range.2 hc, ?_⟩)
              have hci : c ≠ i := by
                rintro rfl
                have : (listed.setIfInBounds c true).getD c false = true := by
                  simp [show c < listed.size by rw [h1]; exact hlt]
                rw [this] at hcu; cases hcu
              have hcu0 : listed.getD c false = false := by
                cases hcl : listed.getD c false with
                | false => rfl
                | true => rw [getD_set_true hcl] at hcu; cases hcu
              rw [Bool.and_eq_true, Bool.and_eq_true]
              refine ⟨⟨by simpa using hci, hcj⟩, ?_⟩
              rw [Bool.not_eq_true']
              cases hca : (A.getD i []).contains c with
              | false => rfl
              | true =>
                have := hancA c (by simpa using hca)
                rw [hcu0] at this; cases this
        have hj7 := h7 j hj' hout0
        unfold HoldsAt at hj7 ⊢
        cases hdj : dstAt l.toArray j with
        | none => trivial
        | some d =>
          rw [hdj] at hj7
          show V j _ _
          rw [put_getD_ne]
          · exact hR j _ (by simpa using hneed) hj7
          · intro e
            have hdo : dstAt l.toArray i = some d := by simp [dstAt, hio, e]
            rw [hdo] at hdst
            simp only [Bool.and_eq_true, decide_eq_true_eq] at hdst
            have := List.all_eq_true.1 hdst.2 j (List.mem_range.2 hjl)
            simp [hne, hdj] at this
  · rintro listed a w hr ⟨h1, h2, h3, h4, h5, h6, h7⟩
    have hall := all_listed h1 ht hr
    have hct : listed.toList.count true = l.length := by
      have : listed = Array.replicate l.length true := by
        apply Array.ext
        · simpa using h1
        · intro i hi1 hi2
          have := hall i (by rw [← h1]; exact hi1)
          simpa [hi1] using this
      rw [this]
      simp
    have hfull : (fun j => listed.getD j false) = fun j => decide (j < l.length) := by
      funext j
      by_cases hj : j < l.length
      · rw [hall j (by simpa using hj)]; simp [hj]
      · have : listed.size ≤ j := by rw [h1]; simpa using hj
        simp [Array.getElem?_eq_none this, hj]
    refine hq1 a w h2 h3 h4 (by rw [hct, hfull] at h6; exact h6) (holdsAll_of fun i hi => ?_)
    have hh := fun hf => h7 i (hall i (by simpa using List.mem_range.1 hi)) (.inl hf)
    unfold HoldsAt at hh ⊢
    cases hdi : dstAt l.toArray i with
    | none => trivial
    | some d => rw [hdi] at hh; exact hh
  · simp
  · have hno : ∀ i, (Array.replicate l.toArray.size false).getD i false = true → False := by
      intro i hi
      simp [Array.getElem?_replicate] at hi
      split at hi <;> simp at hi
    refine ⟨by simp, rfl, rfl, fun _ _ => rfl, fun i o _ h => (hno i h).elim, ?_, fun i h => (hno i h).elim⟩
    have h0 : (Array.replicate l.toArray.size false).toList.count true = 0 := by
      rw [List.count_eq_zero]
      intro h
      simp at h
    have hf0 : (fun j => (Array.replicate l.toArray.size false).getD j false) = fun _ => false := by
      funext j
      cases hj : (Array.replicate l.toArray.size false).getD j false with
      | false => rfl
      | true => exact (hno j hj).elim
    rw [h0, hf0]
    exact hS
end
end Go.Proofs.Ythenijikmjffjaa
