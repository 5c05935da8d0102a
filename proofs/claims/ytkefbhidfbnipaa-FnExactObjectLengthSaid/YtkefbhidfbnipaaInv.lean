/- Regions that draw their order: one obligation an operation. Regions that draw their order: one obligation an operation; what has been used up may be written over. Regions that draw their order: one obligation an operation; each knows which others have come up for sure, and which have not. Regions that draw their order: one obligation an operation; what a value holds may depend on which operations have come up. Regions by invariant: what each kind of operation owes. As InvW; each operation knows besides that what is not written yet is as it was. Blocks of cells of different types are different blocks. -/
import Derived.Orders
import Derived.WalkKit
import Derived.Test.YtkefbhidfbnipaaBase
namespace Go.Proofs.Ytkefbhidfbnipaa
/-! Inv -/
open Go

section
variable {P : Program} {ops : Array Oper} {Q : Exit → Act → World → Prop} {md : Region.Mode}

theorem count_false_set {listed : Array Bool} {i : Nat} (h : listed.getD i true = false) : (listed.setIfInBounds i true).toList.count false + 1 = listed.toList.count false := by
  have hi : i < listed.size := by
    rcases Nat.lt_or_ge i listed.size with h' | h'
    · exact h'
    · simp [Array.getElem?_eq_none h'] at h
  have hv : listed.toList[i]'(by simpa using hi) = false := by simpa [hi] using h
  rw [Array.toList_setIfInBounds, List.count_set (by simpa using hi)]
  have hp : 0 < listed.toList.count false := List.count_pos_iff.2 (hv ▸ List.getElem_mem _)
  have hne : (listed.toList[i]'(by simpa using hi) == false) = true := by rw [hv]; rfl
  rw [if_pos hne]
  have hne2 : (true == false) = false := rfl
  simp only [hne2]
  simp only [Bool.false_eq_true, if_false]
  omega

/-- Whatever order: a relation that each operation that may come up keeps. -/
theorem wpAny_inv (I : Array Bool → Act → World → Prop)
    (hstep : ∀ listed a w i, i ∈ Region.ready md ops listed → I listed a w → wpOp P ops Q i (fun a' w' => I (listed.setIfInBounds i true) a' w') a w)
    (hdone : ∀ listed a w, Region.ready md ops listed = [] → I listed a w → Q .normal a w) :
    ∀ (fuel : Nat) (listed : Array Bool) (a : Act) (w : World), listed.toList.count false ≤ fuel → I listed a w → wpAny P md ops Q fuel listed a w
  | 0, listed, a, w, hf, hI => by
    have hr : Region.ready md ops listed = [] := by
      cases hr : Region.ready md ops listed with
      | nil => rfl
      | cons j r =>
        have hj : j ∈ Region.ready md ops listed := by rw [hr]; exact List.mem_cons_self
        have := count_false_set (mem_ready.1 hj).1
        omega
    exact ⟨hr, hdone _ _ _ hr hI⟩
  | fuel + 1, listed, a, w, hf, hI => by
    refine ⟨fun hr => hdone _ _ _ hr hI, fun i hi => wpOp_mono (fun a' w' h' => wpAny_inv I hstep hdone fuel _ a' w' ?_ h') (hstep listed a w i hi hI)⟩
    have := count_false_set (mem_ready.1 hi).1
    omega

/-- Each operation waits for earlier ones alone. -/
def topoB (md : Region.Mode) (ops : Array Oper) : Bool := (List.range ops.size).all fun i => match ops[i]? with | some o => o.after.all (fun e => !Region.binds md e || decide (e.on < i)) | none => true
theorem all_listed {listed : Array Bool} (hs : listed.size = ops.size) (ht : topoB md ops = true) (hr : Region.ready md ops listed = []) : ∀ i, i < ops.size → listed.getD i false = true := by
  intro i
  induction i using Nat.strongRecOn with
  | _ i ih =>
    intro hi
    cases hl : listed.getD i false with
    | true => rfl
    | false =>
      have hl' : listed.getD i true = false := by simpa [hs, hi] using hl
      have : i ∈ Region.ready md ops listed := by
        refine mem_ready.2 ⟨hl', ops[i], Array.getElem?_eq_getElem hi, fun e he hbd => ?_⟩
        have h1 := List.all_eq_true.1 ht i (List.mem_range.2 hi)
        rw [Array.getElem?_eq_getElem hi] at h1
        have h2 := Array.all_eq_true_iff_forall_mem.1 h1 e he
        have h3 : e.on < i := by rw [hbd] at h2; simpa using h2
        exact ih _ h3 (by omega)
      rw [hr] at this
      cases this

/-- The place that operation number i fills. -/
def dstAt (ops : Array Oper) (i : Nat) : Option Tmp := (ops[i]?).bind (·.dst)
/-- What has come up holds what it must. -/
def HoldsAt (ops : Array Oper) (V : Nat → Value → World → Prop) (i : Nat) (a : Act) (w : World) : Prop :=
  match dstAt ops i with | some d => V i (a.tmps.getD d undef) w | none => True
def HoldsAll (ops : Array Oper) (V : Nat → Value → World → Prop) (a : Act) (w : World) : List Nat → Prop
  | [] => True
  | i :: r => HoldsAt ops V i a w ∧ HoldsAll ops V a w r
theorem holdsAll_of {V : Nat → Value → World → Prop} {a : Act} {w : World} : ∀ {l : List Nat}, (∀ i ∈ l, HoldsAt ops V i a w) → HoldsAll ops V a w l
  | [], _ => trivial
  | i :: r, h => ⟨h i (by simp), holdsAll_of fun j hj => h j (by simp [hj])⟩
/-- What each operation owes: out of what the ones that it waits for hold. -/
def Owes (P : Program) (ops : Array Oper) (Q : Exit → Act → World → Prop) (V : Nat → Value → World → Prop) (S : Nat → World → Prop) (R : World → World → Prop) (a0 : Act) : Nat → List Oper → List (List Nat) → Prop
  | k, o :: r, l :: ls => (∀ (n : Nat) (a : Act) (w : World) (K : Act → World → Prop), (∀ x, (∀ i, dstAt ops i ≠ some x) → a.tmps.getD x undef = a0.tmps.getD x undef) → n < ops.size → S n w → HoldsAll ops V a w l →
      (∀ v w', S (n + 1) w' → R w w' → (o.dst ≠ none → V k v w') → K (a.put o.dst v) w') → if Region.wanted o (yielded ops a.tmps) = true then Oper.wp P o a w K Q else K (a.put o.dst undef) w) ∧ Owes P ops Q V S R a0 (k + 1) r ls
  | _, [], [] => True
  | _, _, _ => False
theorem owes_at {V : Nat → Value → World → Prop} {S : Nat → World → Prop} {R : World → World → Prop} {a0 : Act} : ∀ {k : Nat} {l : List Oper} {ls : List (List Nat)}, Owes P ops Q V S R a0 k l ls → ∀ (j : Nat) (o : Oper), l[j]? = some o →
    ∃ L, ls[j]? = some L ∧ (∀ (n : Nat) (a : Act) (w : World) (K : Act → World → Prop), (∀ x, (∀ i, dstAt ops i ≠ some x) → a.tmps.getD x undef = a0.tmps.getD x undef) → n < ops.size → S n w → HoldsAll ops V a w L →
      (∀ v w', S (n + 1) w' → R w w' → (o.dst ≠ none → V (k + j) v w') → K (a.put o.dst v) w') → if Region.wanted o (yielded ops a.tmps) = true then Oper.wp P o a w K Q else K (a.put o.dst undef) w)
  | k, [], _, _, j, o, ho => by cases j <;> cases ho
  | k, o' :: r, [], h, _, _, _ => h.elim
  | k, o' :: r, l :: ls, h, 0, o, ho => by
    obtain rfl : o' = o := by simpa using ho
    exact ⟨l, rfl, h.1⟩
  | k, o' :: r, l :: ls, h, j + 1, o, ho => by
    obtain ⟨L, h1, h2⟩ := owes_at h.2 j o (by simpa using ho)
    refine ⟨L, by simpa using h1, ?_⟩
    intro n a w K hf hn hS hV hK
    exact h2 n a w K hf hn hS hV (fun v w' h3 h4 h5 => hK v w' h3 h4 (fun hd => by have := h5 hd; rwa [Nat.add_assoc, Nat.add_comm 1 j] at this))

/-- The lists of those that an operation may look at: each one waited for by it, or by one of them. -/
def ancB (md : Region.Mode) (ops : Array Oper) (L : List (List Nat)) : Bool :=
  decide (L.length = ops.size) && (List.range ops.size).all fun i => match ops[i]? with
    | some o => (L.getD i []).all fun j => o.after.any fun e => Region.binds md e && (e.on == j || (L.getD e.on []).contains j)
    | none => true
/-- No two fill one place, and the places are there. -/
def dstB (ops : Array Oper) (m : Nat) : Bool :=
  (List.range ops.size).all fun i => match dstAt ops i with
    | some d => decide (d < m) && (List.range ops.size).all fun j => j == i || dstAt ops j != some d
    | none => true

theorem listed_anc {listed : Array Bool} {L : List (List Nat)} (hL : ancB md ops L = true)
    (hc : ∀ i o, ops[i]? = some o → listed.getD i false = true → ∀ e ∈ o.after, Region.binds md e = true → listed.getD e.on false = true)
    (ht : topoB md ops = true) : ∀ i o, ops[i]? = some o → (∀ e ∈ o.after, Region.binds md e = true → listed.getD e.on false = true) → ∀ j ∈ L.getD i [], listed.getD j false = true := by
  intro i
  induction i using Nat.strongRecOn with
  | _ i ih =>
    intro o ho ha j hj
    have hi : i < ops.size := (Array.getElem?_eq_some_iff.1 ho).1
    unfold ancB at hL
    rw [Bool.and_eq_true] at hL
    have h1 := List.all_eq_true.1 hL.2 i (List.mem_range.2 hi)
    rw [ho] at h1
    have h2 := List.all_eq_true.1 h1 j hj
    obtain ⟨e, he, h3⟩ := Array.any_eq_true'.1 h2
    simp only [Bool.and_eq_true, Bool.or_eq_true, beq_iff_eq, List.contains_iff_mem] at h3
    have hl := ha e he h3.1
    rcases h3.2 with rfl | h4
    · exact hl
    · have h5 := List.all_eq_true.1 ht i (List.mem_range.2 hi)
      rw [ho] at h5
      have h6 := Array.all_eq_true_iff_forall_mem.1 h5 e he
      have h7 : e.on < i := by rw [h3.1] at h6; simpa using h6
      have h8 : e.on < ops.size := by omega
      exact ih _ h7 _ (Array.getElem?_eq_getElem h8) (fun e' he' hb' => hc _ _ (Array.getElem?_eq_getElem h8) hl e' he' hb') j h4

theorem wpOp_of_some {i : Nat} {o : Oper} {K : Act → World → Prop} {a : Act} {w : World} (ho : ops[i]? = some o) (h : if Region.wanted o (yielded ops a.tmps) = true then Oper.wp P o a w K Q else K (a.put o.dst undef) w) : wpOp P ops Q i K a w := by
  unfold wpOp
  simp only [ho]
  split
  · rename_i hw; rw [if_pos hw] at h; exact .inl h
  · rename_i hw; rw [if_neg hw] at h; exact h
theorem put_getD_ne {a : Act} {dst : Option Tmp} {v : Value} {x : Tmp} (h : dst ≠ some x) : (a.put dst v).tmps.getD x undef = a.tmps.getD x undef := by
  cases dst with
  | none => rfl
  | some d =>
    have hne : d ≠ x := fun e => h (by rw [e])
    simp [Act.put, Array.getElem?_setIfInBounds_ne hne]
theorem put_getD_eq {a : Act} {d : Tmp} {v : Value} (h : d < a.tmps.size) : (a.put (some d) v).tmps.getD d undef = v := by
  simp [Act.put, h]
theorem put_size {a : Act} {dst : Option Tmp} {v : Value} : (a.put dst v).tmps.size = a.tmps.size := by
  cases dst <;> simp [Act.put]
theorem put_def {a : Act} {dst : Option Tmp} {v : Value} : (a.put dst v).defers = a.defers := by
  cases dst <;> simp [Act.put]
theorem count_true_set {listed : Array Bool} {i : Nat} (h : listed.getD i true = false) : (listed.setIfInBounds i true).toList.count true = listed.toList.count true + 1 := by
  have h1 := count_false_set h
  have h2 : ∀ l : List Bool, l.count true + l.count false = l.length := by
    intro l
    induction l with
    | nil => rfl
    | cons b r ih => cases b <;> simp <;> omega
  have h3 := h2 listed.toList
  have h4 := h2 (listed.setIfInBounds i true).toList
  simp only [Array.toList_setIfInBounds, List.length_set] at h4 h1 ⊢
  omega

theorem count_true_lt {listed : Array Bool} {i : Nat} (h : listed.getD i true = false) : listed.toList.count true < listed.size := by
  have h1 := count_false_set h
  have h2 : ∀ l : List Bool, l.count true + l.count false = l.length := by
    intro l
    induction l with
    | nil => rfl
    | cons b r ih => cases b <;> simp <;> omega
  have h3 := h2 listed.toList
  rw [Array.length_toList] at h3
  omega
/-- **A region that draws its order**: one obligation an operation. -/
theorem wp_region_inv {id : Nat} {a0 : Act} {w0 : World} {l : List Oper} (V : Nat → Value → World → Prop) (S : Nat → World → Prop) (R : World → World → Prop) (L : List (List Nat))
    (hm : P.follows .mixedOrders = true) (ht : topoB .any l.toArray = true) (hL : ancB .any l.toArray L = true) (hd : dstB l.toArray a0.tmps.size = true)
    (hS : S 0 w0.drew)
    (hV : ∀ i v w w', V i v w → R w w' → V i v w')
    (ho : Owes P l.toArray Q V S R a0 0 l L)
    (hq : ∀ (a : Act) (w : World), a.tmps.size = a0.tmps.size → a.defers = a0.defers → (∀ x, (∀ i, dstAt l.toArray i ≠ some x) → a.tmps.getD x undef = a0.tmps.getD x undef) → S l.length w → HoldsAll l.toArray V a w (List.range l.length) → Q .normal a w) :
    (Code.region id l.toArray true).wp P Q a0 w0 := by
  refine wp_region_any hm ?_
  let I : Array Bool → Act → World → Prop := fun listed a w => listed.size = l.toArray.size ∧ a.tmps.size = a0.tmps.size ∧ a.defers = a0.defers ∧
    (∀ x, (∀ i, dstAt l.toArray i ≠ some x) → a.tmps.getD x undef = a0.tmps.getD x undef) ∧
    (∀ i o, l.toArray[i]? = some o → listed.getD i false = true → ∀ e ∈ o.after, Region.binds .any e = true → listed.getD e.on false = true) ∧
    S (listed.toList.count true) w ∧ ∀ i, listed.getD i false = true → HoldsAt l.toArray V i a w
  refine wpAny_inv I ?_ ?_ _ _ _ _ ?_ ?_
  · rintro listed a w i hi ⟨h1, h2, h3, h4, h5, h6, h7⟩
    obtain ⟨hun, o, hio, haft⟩ := mem_ready.1 hi
    have hlt : i < l.toArray.size := (Array.getElem?_eq_some_iff.1 hio).1
    obtain ⟨Lo, hLo, hob⟩ := owes_at ho i o (by simpa using hio)
    have hanc := listed_anc hL h5 ht i o hio haft
    have hget : ∀ j, (listed.setIfInBounds i true).getD j false = true → j = i ∨ listed.getD j false = true := by
      intro j hj
      by_cases hji : i = j
      · exact .inl hji.symm
      · rw [getD_set_ne false hji] at hj; exact .inr hj
    refine wpOp_of_some hio (hob _ a w _ h4 (by rw [← h1]; exact count_true_lt hun) h6 (holdsAll_of fun j hj => h7 j (hanc j (by simpa [List.getD, hLo] using hj))) ?_)
    intro v w' hS' hR hv
    have hdst := List.all_eq_true.1 hd i (List.mem_range.2 hlt)
    refine ⟨by simpa using h1, by rw [put_size, h2], by rw [put_def, h3], fun x hx => ?_, ?_, by rw [count_true_set hun]; exact hS', fun j hj => ?_⟩
    · rw [put_getD_ne, h4 x hx]
      intro e
      exact hx i (by simp [dstAt, hio, e])
    · intro j oj hoj hj e he hb
      rcases hget j hj with rfl | hj'
      · rw [hoj] at hio
        obtain rfl : oj = o := by simpa using hio
        exact getD_set_true (haft e he hb)
      · exact getD_set_true (h5 j oj hoj hj' e he hb)
    · rcases hget j hj with rfl | hj'
      · unfold HoldsAt
        cases hod : o.dst with
        | none => simp [dstAt, hio, hod]
        | some d =>
          have hda : dstAt l.toArray j = some d := by simp [dstAt, hio, hod]
          rw [hda] at hdst ⊢
          simp only [Bool.and_eq_true, decide_eq_true_eq] at hdst
          show V j _ _
          rw [put_getD_eq (by rw [h2]; exact hdst.1)]
          have := hv (by simp [hod])
          simpa using this
      · have hne : j ≠ i := by
          rintro rfl
          rcases Nat.lt_or_ge j listed.size with h' | h'
          · simp [h'] at hun hj'; rw [hun] at hj'; cases hj'
          · simp [Array.getElem?_eq_none h'] at hj'
        have hj7 := h7 j hj'
        unfold HoldsAt at hj7 ⊢
        cases hdj : dstAt l.toArray j with
        | none => trivial
        | some d =>
          rw [hdj] at hj7
          show V j _ _
          rw [put_getD_ne]
          · exact hV _ _ _ _ hj7 hR
          · intro e
            have hdo : dstAt l.toArray i = some d := by simp [dstAt, hio, e]
            rw [hdo] at hdst
            simp only [Bool.and_eq_true, decide_eq_true_eq] at hdst
            have hjl : j < l.toArray.size := by
              rcases Nat.lt_or_ge j l.toArray.size with h' | h'
              · exact h'
              · simp [dstAt, Array.getElem?_eq_none h'] at hdj
            have := List.all_eq_true.1 hdst.2 j (List.mem_range.2 hjl)
            simp [hne, hdj] at this
  · rintro listed a w hr ⟨h1, h2, h3, h4, h5, h6, h7⟩
    have hall := all_listed h1 ht hr
    have hct : listed.toList.count true = l.length := by
      have : listed = Array.replicate l.length true := by
        apply Array.ext
        · simpa using h1
        · intro i hi1 hi2
          have := hall i (by rw [← h1]; exact hi1)
          simpa [hi1] using this
      rw [this]
      simp
    refine hq a w h2 h3 h4 (by rw [← hct]; exact h6) (holdsAll_of fun i hi => h7 i (hall i (by simpa using List.mem_range.1 hi)))
  · simp
  · have hno : ∀ i, (Array.replicate l.toArray.size false).getD i false = true → False := by
      intro i hi
      simp [Array.getElem?_replicate] at hi
      split at hi <;> simp at hi
    refine ⟨by simp, rfl, rfl, fun _ _ => rfl, fun i o _ h => (hno i h).elim, ?_, fun i h => (hno i h).elim⟩
    have h0 : (Array.replicate l.toArray.size false).toList.count true = 0 := by
      rw [List.count_eq_zero]
      intro h
      simp at h
    rw [h0]
    exact hS
/-- Values put where the operations put them. -/
def putAll : Array Value → List (Option Tmp) → List Value → Array Value
  | t, some d :: ds, v :: vs => putAll (t.setIfInBounds d v) ds vs
  | t, none :: ds, _ :: vs => putAll t ds vs
  | t, _, _ => t
/-- What the values hold that have been put somewhere. -/
def AllV (V : Nat → Value → World → Prop) (w : World) : Nat → List (Option Tmp) → List Value → Prop
  | k, some _ :: ds, v :: vs => V k v w ∧ AllV V w (k + 1) ds vs
  | k, none :: ds, _ :: vs => AllV V w (k + 1) ds vs
  | _, _, _ => True
theorem putAll_size : ∀ (ds : List (Option Tmp)) (vs : List Value) (t : Array Value), (putAll t ds vs).size = t.size
  | [], _, _ => by simp [putAll]
  | none :: ds, [], _ => by simp [putAll]
  | some d :: ds, [], _ => by simp [putAll]
  | none :: ds, v :: vs, t => by rw [putAll]; exact putAll_size ds vs t
  | some d :: ds, v :: vs, t => by rw [putAll, putAll_size ds vs]; simp
theorem putAll_not {x : Tmp} : ∀ (ds : List (Option Tmp)) (vs : List Value) (t : Array Value), some x ∉ ds → (putAll t ds vs)[x]? = t[x]?
  | [], _, _, _ => by simp [putAll]
  | none :: ds, [], _, _ => by simp [putAll]
  | some d :: ds, [], _, _ => by simp [putAll]
  | none :: ds, v :: vs, t, h => by rw [putAll]; exact putAll_not ds vs t (fun e => h (by simp [e]))
  | some d :: ds, v :: vs, t, h => by
    rw [putAll, putAll_not ds vs _ (fun e => h (by simp [e]))]
    have : d ≠ x := fun e => h (by simp [e])
    exact Array.getElem?_setIfInBounds_ne this
theorem putAll_at {x : Tmp} : ∀ (ds : List (Option Tmp)) (vs : List Value) (t : Array Value) (i : Nat), ds[i]? = some (some x) → (∀ j, ds[j]? = some (some x) → j = i) → i < vs.length → x < t.size → (putAll t ds vs)[x]? = vs[i]?
  | [], _, _, i, h, _, _, _ => by simp at h
  | d :: ds, [], _, i, _, _, h, _ => by simp at h
  | d :: ds, v :: vs, t, 0, h, hu, _, hx => by
    obtain rfl : d = some x := by simpa using h
    rw [putAll, putAll_not]
    · simp [hx]
    · intro hm
      obtain ⟨j, hj, e⟩ := List.getElem_of_mem hm
      have := hu (j + 1) (by rw [List.getElem?_cons_succ, List.getElem?_eq_getElem hj, e])
      omega
  | d :: ds, v :: vs, t, i + 1, h, hu, hi, hx => by
    have h' : ds[i]? = some (some x) := by simpa using h
    have hu' : ∀ j, ds[j]? = some (some x) → j = i := fun j hj => by
      have := hu (j + 1) (by simpa using hj)
      omega
    cases d with
    | none => rw [putAll]; simpa using putAll_at ds vs t i h' hu' (by simpa using hi) hx
    | some d => rw [putAll]; simpa using putAll_at ds vs (t.setIfInBounds d v) i h' hu' (by simpa using hi) (by simpa using hx)
theorem allV_of {V : Nat → Value → World → Prop} {w : World} {g : Nat → Value} : ∀ (ds : List (Option Tmp)) (k : Nat), (∀ i d, ds[i]? = some (some d) → V (k + i) (g (k + i)) w) → AllV V w k ds ((List.range' k ds.length).map g)
  | [], _, _ => trivial
  | none :: ds, k, h => by
    simp only [List.length_cons, List.range'_succ, List.map_cons, AllV]
    exact allV_of ds (k + 1) (fun i d hd => by have := h (i + 1) d (by simpa using hd); rwa [Nat.add_assoc, Nat.add_comm 1 i])
  | some d :: ds, k, h => by
    simp only [List.length_cons, List.range'_succ, List.map_cons, AllV]
    refine ⟨by simpa using h 0 d (by simp), allV_of ds (k + 1) (fun i d hd => by have := h (i + 1) d (by simpa using hd); rwa [Nat.add_assoc, Nat.add_comm 1 i])⟩
/-- **The same**, the values put back into a frame that is written out. -/
theorem wp_region_put {id : Nat} {a0 : Act} {w0 : World} {l : List Oper} (V : Nat → Value → World → Prop) (S : Nat → World → Prop) (R : World → World → Prop) (L : List (List Nat))
    (hm : P.follows .mixedOrders = true) (ht : topoB .any l.toArray = true) (hL : ancB .any l.toArray L = true) (hd : dstB l.toArray a0.tmps.size = true)
    (hS : S 0 w0.drew)
    (hV : ∀ i v w w', V i v w → R w w' → V i v w')
    (ho : Owes P l.toArray Q V S R a0 0 l L)
    (hq : ∀ (vs : List Value) (w : World), vs.length = l.length → S l.length w → AllV V w 0 (l.map (·.dst)) vs → Q .normal { tmps := putAll a0.tmps (l.map (·.dst)) vs, defers := a0.defers } w) :
    (Code.region id l.toArray true).wp P Q a0 w0 := by
  refine wp_region_inv V S R L hm ht hL hd hS hV ho fun a w hsz hdf hfr hSl hv => ?_
  have hall : ∀ i, i < l.length → HoldsAt l.toArray V i a w := by
    have : ∀ (r : List Nat), HoldsAll l.toArray V a w r → ∀ i ∈ r, HoldsAt l.toArray V i a w := by
      intro r
      induction r with
      | nil => intro _ i hi; cases hi
      | cons x r ih =>
        intro h i hi
        rcases List.mem_cons.1 hi with rfl | hi
        · exact h.1
        · exact ih h.2 i hi
    intro i hi
    exact this _ hv i (List.mem_range.2 hi)
  have hdst : ∀ i, dstAt l.toArray i = ((l.map (·.dst))[i]?).join := by
    intro i
    unfold dstAt
    simp only [List.getElem?_toArray, List.getElem?_map]
    cases l[i]? <;> rfl
  let g : Nat → Value := fun i => match dstAt l.toArray i with | some d => a.tmps.getD d undef | none => undef
  have hvs : ((List.range' 0 (l.map (·.dst)).length).map g).length = l.length := by simp
  have h1 := hq ((List.range' 0 (l.map (·.dst)).length).map g) w hvs hSl (allV_of (g := g) (l.map (·.dst)) 0 (fun i d hid => by
    have hi : i < l.length := by have := (List.getElem?_eq_some_iff.1 hid).1; simpa using this
    have hda : dstAt l.toArray i = some d := by rw [hdst, hid]; rfl
    have := hall i hi
    unfold HoldsAt at this
    rw [hda] at this
    simp only [Nat.zero_add, g, hda]
    exact this))
  have ha : a = { tmps := putAll a0.tmps (l.map (·.dst)) ((List.range' 0 (l.map (·.dst)).length).map g), defers := a0.defers } := by
    obtain ⟨tm, df⟩ := a
    simp only at hsz hdf hfr ⊢
    subst hdf
    congr 1
    apply Array.ext_getElem?
    intro x
    by_cases hx : x < a0.tmps.size
    · by_cases hin : ∃ i, dstAt l.toArray i = some x
      · obtain ⟨i, hi⟩ := hin
        have hil : i < l.length := by
          rcases Nat.lt_or_ge i l.length with h | h
          · exact h
          · simp [dstAt, List.getElem?_eq_none h] at hi
        have hli : (l.map (·.dst))[i]? = some (some x) := by
          have := hdst i
          rw [hi] at this
          rw [List.getElem?_eq_getElem (by simpa using hil)] at this ⊢
          simpa using this.symm
        rw [putAll_at (l.map (·.dst)) _ a0.tmps i hli ?_ (by rw [hvs]; exact hil) hx]
        · have : (((List.range' 0 (l.map (·.dst)).length).map g))[i]? = some (g i) := by simp [hil]
          rw [this]
          simp only [g, hi]
          simp [hsz, hx]
        · intro j hj
          have hj' : dstAt l.toArray j = some x := by rw [hdst, hj]; rfl
          have hjl : j < l.length := by have := (List.getElem?_eq_some_iff.1 hj).1; simpa using this
          have h5 := List.all_eq_true.1 hd i (List.mem_range.2 (by simpa using hil))
          rw [hi] at h5
          simp only [Bool.and_eq_true] at h5
          have h6 := List.all_eq_true.1 h5.2 j (List.mem_range.2 (by simpa using hjl))
          simpa [hj'] using h6
      · have hno : ∀ i, dstAt l.toArray i ≠ some x := fun i h => hin ⟨i, h⟩
        rw [putAll_not]
        · have := hfr x hno
          simp [hsz, hx] at this ⊢
          exact this
        · intro hm
          obtain ⟨j, hj, e⟩ := List.getElem_of_mem hm
          refine hno j ?_
          rw [hdst, List.getElem?_eq_getElem hj, e]; rfl
    · rw [Array.getElem?_eq_none (by omega), Array.getElem?_eq_none (by rw [putAll_size]; omega)]
  rw [ha]
  exact h1
def putG (g : Nat → Value) : Nat → Array Value → List (Option Tmp) → Array Value
  | k, t, some d :: ds => putG g (k + 1) (t.setIfInBounds d (g k)) ds
  | k, t, none :: ds => putG g (k + 1) t ds
  | _, t, [] => t
def AllG (V : Nat → Value → World → Prop) (w : World) (g : Nat → Value) : Nat → List (Option Tmp) → Prop
  | k, some _ :: ds => V k (g k) w ∧ AllG V w g (k + 1) ds
  | k, none :: ds => AllG V w g (k + 1) ds
  | _, [] => True
theorem putAll_putG : ∀ (ds : List (Option Tmp)) (vs : List Value) (t : Array Value) (k : Nat) (g : Nat → Value), vs.length = ds.length → (∀ i, i < vs.length → vs[i]? = some (g (k + i))) → putAll t ds vs = putG g k t ds
  | [], _, _, _, _, _, _ => by simp [putAll, putG]
  | d :: ds, [], _, _, _, h, _ => by simp at h
  | d :: ds, v :: vs, t, k, g, h, hg => by
    have h0 : v = g k := by have := hg 0 (by simp); simpa using this
    have ih := fun t => putAll_putG ds vs t (k + 1) g (by simpa using h) (fun i hi => by have := hg (i + 1) (by simpa using hi); rw [List.getElem?_cons_succ] at this; rw [this, Nat.add_assoc, Nat.add_comm 1 i])
    cases d with
    | none => rw [putAll, putG, ih]
    | some d => rw [putAll, putG, ih, h0]
theorem allV_allG {V : Nat → Value → World → Prop} {w : World} : ∀ (ds : List (Option Tmp)) (vs : List Value) (k : Nat) (g : Nat → Value), vs.length = ds.length → (∀ i, i < vs.length → vs[i]? = some (g (k + i))) → AllV V w k ds vs → AllG V w g k ds
  | [], _, _, _, _, _, _ => trivial
  | d :: ds, [], _, _, h, _, _ => by simp at h
  | d :: ds, v :: vs, k, g, h, hg, ha => by
    have h0 : v = g k := by have := hg 0 (by simp); simpa using this
    have ih := allV_allG (V := V) (w := w) ds vs (k + 1) g (by simpa using h) (fun i hi => by have := hg (i + 1) (by simpa using hi); rw [List.getElem?_cons_succ] at this; rw [this, Nat.add_assoc, Nat.add_comm 1 i])
    cases d with
    | none => exact ih ha
    | some d => exact ⟨h0 ▸ ha.1, ih ha.2⟩
/-- **The rule to use**: the frame written out, what each operation has yielded by its number. -/
theorem wp_region_go {id : Nat} {a0 : Act} {w0 : World} {l : List Oper} (V : Nat → Value → World → Prop) (S : Nat → World → Prop) (R : World → World → Prop) (L : List (List Nat))
    (hm : P.follows .mixedOrders = true) (ht : topoB .any l.toArray = true) (hL : ancB .any l.toArray L = true) (hd : dstB l.toArray a0.tmps.size = true)
    (hS : S 0 w0.drew)
    (hV : ∀ i v w w', V i v w → R w w' → V i v w')
    (ho : Owes P l.toArray Q V S R a0 0 l L)
    (hq : ∀ (g : Nat → Value) (w : World), S l.length w → AllG V w g 0 (l.map (·.dst)) → Q .normal { tmps := putG g 0 a0.tmps (l.map (·.dst)), defers := a0.defers } w) :
    (Code.region id l.toArray true).wp P Q a0 w0 := by
  refine wp_region_put V S R L hm ht hL hd hS hV ho fun vs w hlen hSl hv => ?_
  have hl2 : vs.length = (l.map (·.dst)).length := by simpa using hlen
  have hg : ∀ i, i < vs.length → vs[i]? = some ((fun i => vs.getD i undef) (0 + i)) := fun i hi => by simp [hi]
  rw [putAll_putG _ vs _ 0 (fun i => vs.getD i undef) hl2 hg]
  exact hq _ w hSl (allV_allG _ vs 0 _ hl2 hg hv)
end
/-! InvU -/
open Go
set_option linter.unusedSimpArgs false
set_option linter.unusedVariables false
section
variable {P : Program} {ops : Array Oper} {Q : Exit → Act → World → Prop}
theorem put_form {a0 : Act} {l : List Oper} (V : Nat → Value → World → Prop) (S : Nat → World → Prop) (hd : dstB l.toArray a0.tmps.size = true)
    (hq : ∀ (vs : List Value) (w : World), vs.length = l.length → S l.length w → AllV V w 0 (l.map (·.dst)) vs → Q .normal { tmps := putAll a0.tmps (l.map (·.dst)) vs, defers := a0.defers } w) :
    ∀ (a : Act) (w : World), a.tmps.size = a0.tmps.size → a.defers = a0.defers → (∀ x, (∀ i, dstAt l.toArray i ≠ some x) → a.tmps.getD x undef = a0.tmps.getD x undef) → S l.length w → HoldsAll l.toArray V a w (List.range l.length) → Q .normal a w := by
  intro a w hsz hdf hfr hSl hv
  have hall : ∀ i, i < l.length → HoldsAt l.toArray V i a w := by
    have : ∀ (r : List Nat), HoldsAll l.toArray V a w r → ∀ i ∈ r, HoldsAt l.toArray V i a w := by
      intro r
      induction r with
      | nil => intro _ i hi; cases hi
      | cons x r ih =>
        intro h i hi
        rcases List.mem_cons.1 hi with rfl | hi
        · exact h.1
        · exact ih h.2 i hi
    intro i hi
    exact this _ hv i (List.mem_range.2 hi)
  have hdst : ∀ i, dstAt l.toArray i = ((l.map (·.dst))[i]?).join := by
    intro i
    unfold dstAt
    simp only [List.getElem?_toArray, List.getElem?_map]
    cases l[i]? <;> rfl
  let g : Nat → Value := fun i => match dstAt l.toArray i with | some d => a.tmps.getD d undef | none => undef
  have hvs : ((List.range' 0 (l.map (·.dst)).length).map g).length = l.length := by simp
  have h1 := hq ((List.range' 0 (l.map (·.dst)).length).map g) w hvs hSl (allV_of (g := g) (l.map (·.dst)) 0 (fun i d hid => by
    have hi : i < l.length := by have := (List.getElem?_eq_some_iff.1 hid).1; simpa using this
    have hda : dstAt l.toArray i = some d := by rw [hdst, hid]; rfl
    have := hall i hi
    unfold HoldsAt at this
    rw [hda] at this
    simp only [Nat.zero_add, g, hda]
    exact this))
  have ha : a = { tmps := putAll a0.tmps (l.map (·.dst)) ((List.range' 0 (l.map (·.dst)).length).map g), defers := a0.defers } := by
    obtain ⟨tm, df⟩ := a
    simp only at hsz hdf hfr ⊢
    subst hdf
    congr 1
    apply Array.ext_getElem?
    intro x
    by_cases hx : x < a0.tmps.size
    · by_cases hin : ∃ i, dstAt l.toArray i = some x
      · obtain ⟨i, hi⟩ := hin
        have hil : i < l.length := by
          rcases Nat.lt_or_ge i l.length with h | h
          · exact h
          · simp [dstAt, List.getElem?_eq_none h] at hi
        have hli : (l.map (·.dst))[i]? = some (some x) := by
          have := hdst i
          rw [hi] at this
          rw [List.getElem?_eq_getElem (by simpa using hil)] at this ⊢
          simpa using this.symm
        rw [putAll_at (l.map (·.dst)) _ a0.tmps i hli ?_ (by rw [hvs]; exact hil) hx]
        · have : (((List.range' 0 (l.map (·.dst)).length).map g))[i]? = some (g i) := by simp [hil]
          rw [this]
          simp only [g, hi]
          simp [hsz, hx]
        · intro j hj
          have hj' : dstAt l.toArray j = some x := by rw [hdst, hj]; rfl
          have hjl : j < l.length := by have := (List.getElem?_eq_some_iff.1 hj).1; simpa using this
          have h5 := List.all_eq_true.1 hd i (List.mem_range.2 (by simpa using hil))
          rw [hi] at h5
          simp only [Bool.and_eq_true] at h5
          have h6 := List.all_eq_true.1 h5.2 j (List.mem_range.2 (by simpa using hjl))
          simpa [hj'] using h6
      · have hno : ∀ i, dstAt l.toArray i ≠ some x := fun i h => hin ⟨i, h⟩
        rw [putAll_not]
        · have := hfr x hno
          simp [hsz, hx] at this ⊢
          exact this
        · intro hm
          obtain ⟨j, hj, e⟩ := List.getElem_of_mem hm
          refine hno j ?_
          rw [hdst, List.getElem?_eq_getElem hj, e]; rfl
    · rw [Array.getElem?_eq_none (by omega), Array.getElem?_eq_none (by rw [putAll_size]; omega)]
  rw [ha]
  exact h1
/-- Whether what operation j holds is wanted when operation i has come up: j has not come up later than i for sure, and it is wanted at the end or by one that need not have come up. -/
def needB (n : Nat) (L A : List (List Nat)) (fin : List Nat) (i j : Nat) : Bool :=
  j != i && !(A.getD j []).contains i && (fin.contains j || (List.range n).any fun c => c != i && (L.getD c []).contains j && !(A.getD i []).contains c)
/-- What each operation owes: out of what the ones that it looks at hold; what is wanted still must stand. -/
def OwesU (P : Program) (ops : Array Oper) (Q : Exit → Act → World → Prop) (V : Nat → Value → World → Prop) (S : Nat → World → Prop) (need : Nat → Nat → Bool) (a0 : Act) : Nat → List Oper → List (List Nat) → Prop
  | k, o :: r, l :: ls => (∀ (n : Nat) (a : Act) (w : World) (K : Act → World → Prop), (∀ x, (∀ i, dstAt ops i ≠ some x) → a.tmps.getD x undef = a0.tmps.getD x undef) → n < ops.size → S n w → HoldsAll ops V a w l →
      (∀ v w', S (n + 1) w' → (∀ j u, need k j = true → V j u w → V j u w') → (o.dst ≠ none → V k v w') → K (a.put o.dst v) w') → if Region.wanted o (yielded ops a.tmps) = true then Oper.wp P o a w K Q else K (a.put o.dst undef) w) ∧ OwesU P ops Q V S need a0 (k + 1) r ls
  | _, [], [] => True
  | _, _, _ => False
theorem owesU_at {V : Nat → Value → World → Prop} {S : Nat → World → Prop} {need : Nat → Nat → Bool} {a0 : Act} : ∀ {k : Nat} {l : List Oper} {ls : List (List Nat)}, OwesU P ops Q V S need a0 k l ls → ∀ (j : Nat) (o : Oper), l[j]? = some o →
    ∃ L, ls[j]? = some L ∧ (∀ (n : Nat) (a : Act) (w : World) (K : Act → World → Prop), (∀ x, (∀ i, dstAt ops i ≠ some x) → a.tmps.getD x undef = a0.tmps.getD x undef) → n < ops.size → S n w → HoldsAll ops V a w L →
      (∀ v w', S (n + 1) w' → (∀ i u, need (k + j) i = true → V i u w → V i u w') → (o.dst ≠ none → V (k + j) v w') → K (a.put o.dst v) w') → if Region.wanted o (yielded ops a.tmps) = true then Oper.wp P o a w K Q else K (a.put o.dst undef) w)
  | k, [], _, _, j, o, ho => by cases j <;> cases ho
  | k, o' :: r, [], h, _, _, _ => h.elim
  | k, o' :: r, l :: ls, h, 0, o, ho => by
    obtain rfl : o' = o := by simpa using ho
    exact ⟨l, rfl, h.1⟩
  | k, o' :: r, l :: ls, h, j + 1, o, ho => by
    obtain ⟨L, h1, h2⟩ := owesU_at h.2 j o (by simpa using ho)
    refine ⟨L, by simpa using h1, ?_⟩
    intro n a w K hf hn hS hV hK
    have e : k + 1 + j = k + (j + 1) := by omega
    exact h2 n a w K hf hn hS hV (fun v w' h3 h4 h5 => hK v w' h3 (fun i u hi => h4 i u (by rw [e]; exact hi)) (fun hd => by have := h5 hd; rwa [e] at this))
/-- **A region that draws its order**: one obligation an operation. -/
theorem wp_region_use {id : Nat} {a0 : Act} {w0 : World} {l : List Oper} (V : Nat → Value → World → Prop) (S : Nat → World → Prop) (L A : List (List Nat)) (fin : List Nat)
    (hm : P.follows .mixedOrders = true) (ht : topoB .any l.toArray = true) (hL : ancB .any l.toArray L = true) (hA : ancB .any l.toArray A = true) (hd : dstB l.toArray a0.tmps.size = true)
    (hS : S 0 w0.drew)
    (ho : OwesU P l.toArray Q V S (needB l.length L A fin) a0 0 l L)
    (hq : ∀ (g : Nat → Value) (w : World), S l.length w → AllG (fun j v w => fin.contains j = true → V j v w) w g 0 (l.map (·.dst)) → Q .normal { tmps := putG g 0 a0.tmps (l.map (·.dst)), defers := a0.defers } w) :
    (Code.region id l.toArray true).wp P Q a0 w0 := by
  have hq1 := put_form (Q := Q) (a0 := a0) (fun j v w => fin.contains j = true → V j v w) S hd (fun vs w hlen hSl hv => by
    have hl2 : vs.length = (l.map (·.dst)).length := by simpa using hlen
    have hg : ∀ i, i < vs.length → vs[i]? = some ((fun i => vs.getD i undef) (0 + i)) := fun i hi => by simp [hi]
    rw [putAll_putG _ vs _ 0 (fun i => vs.getD i undef) hl2 hg]
    exact hq _ w hSl (allV_allG _ vs 0 _ hl2 hg hv))
  refine wp_region_any hm ?_
  let I : Array Bool → Act → World → Prop := fun listed a w => listed.size = l.toArray.size ∧ a.tmps.size = a0.tmps.size ∧ a.defers = a0.defers ∧
    (∀ x, (∀ i, dstAt l.toArray i ≠ some x) → a.tmps.getD x undef = a0.tmps.getD x undef) ∧
    (∀ i o, l.toArray[i]? = some o → listed.getD i false = true → ∀ e ∈ o.after, Region.binds .any e = true → listed.getD e.on false = true) ∧
    S (listed.toList.count true) w ∧ ∀ i, listed.getD i false = true → (fin.contains i = true ∨ ∃ c, c < l.length ∧ (L.getD c []).contains i = true ∧ listed.getD c false = false) → HoldsAt l.toArray V i a w
  refine wpAny_inv I ?_ ?_ _ _ _ _ ?_ ?_
  · rintro listed a w i hi ⟨h1, h2, h3, h4, h5, h6, h7⟩
    obtain ⟨hun, o, hio, haft⟩ := mem_ready.1 hi
    have hlt : i < l.toArray.size := (Array.getElem?_eq_some_iff.1 hio).1
    have hunf : listed.getD i false = false := by
      rcases Nat.lt_or_ge i listed.size with h' | h'
      · simp [h'] at hun ⊢; exact hun
      · simp [Array.getElem?_eq_none h'] at hun
    obtain ⟨Lo, hLo, hob⟩ := owesU_at ho i o (by simpa using hio)
    have hanc := listed_anc hL h5 ht i o hio haft
    have hancA := listed_anc hA h5 ht i o hio haft
    have hget : ∀ j, (listed.setIfInBounds i true).getD j false = true → j = i ∨ listed.getD j false = true := by
      intro j hj
      by_cases hji : i = j
      · exact .inl hji.symm
      · rw [getD_set_ne false hji] at hj; exact .inr hj
    refine wpOp_of_some hio (hob _ a w _ h4 (by rw [← h1]; exact count_true_lt hun) h6 (holdsAll_of fun j hj => h7 j (hanc j (by simpa [List.getD, hLo] using hj)) (.inr ⟨i, by simpa using hlt, by simpa [List.getD, hLo] using hj, hunf⟩)) ?_)
    intro v w' hS' hR hv
    have hdst := List.all_eq_true.1 hd i (List.mem_range.2 hlt)
    refine ⟨by simpa using h1, by rw [put_size, h2], by rw [put_def, h3], fun x hx => ?_, ?_, by rw [count_true_set hun]; exact hS', fun j hj hout => ?_⟩
    · rw [put_getD_ne, h4 x hx]
      intro e
      exact hx i (by simp [dstAt, hio, e])
    · intro j oj hoj hj e he hb
      rcases hget j hj with rfl | hj'
      · rw [hoj] at hio
        obtain rfl : oj = o := by simpa using hio
        exact getD_set_true (haft e he hb)
      · exact getD_set_true (h5 j oj hoj hj' e he hb)
    · rcases hget j hj with rfl | hj'
      · unfold HoldsAt
        cases hod : o.dst with
        | none => simp [dstAt, hio, hod]
        | some d =>
          have hda : dstAt l.toArray j = some d := by simp [dstAt, hio, hod]
          rw [hda] at hdst ⊢
          simp only [Bool.and_eq_true, decide_eq_true_eq] at hdst
          show V j _ _
          rw [put_getD_eq (by rw [h2]; exact hdst.1)]
          have := hv (by simp [hod])
          simpa using this
      · have hne : j ≠ i := by
          rintro rfl
          rw [hunf] at hj'; cases hj'
        have hjl : j < l.toArray.size := by
          rcases Nat.lt_or_ge j l.toArray.size with h' | h'
          · exact h'
          · rw [← h1] at h'; simp [Array.getElem?_eq_none h'] at hj'
        have hout0 : fin.contains j = true ∨ ∃ c, c < l.length ∧ (L.getD c []).contains j = true ∧ listed.getD c false = false := by
          rcases hout with hf | ⟨c, hc, hcj, hcu⟩
          · exact .inl hf
          · refine .inr ⟨c, hc, hcj, ?_⟩
            cases hcl : listed.getD c false with
            | false => rfl
            | true => rw [getD_set_true hcl] at hcu; cases hcu
        have hneed : needB l.length L A fin i j = true := by
          unfold needB
          rw [Bool.and_eq_true, Bool.and_eq_true]
          refine ⟨⟨by simpa using hne, ?_⟩, ?_⟩
          · rw [Bool.not_eq_true']
            cases hca : (A.getD j []).contains i with
            | false => rfl
            | true =>
              have hoj : l.toArray[j]? = some (l.toArray[j]) := Array.getElem?_eq_getElem hjl
              have := listed_anc hA h5 ht j _ hoj (h5 j _ hoj hj') i (by simpa using hca)
              rw [hunf] at this; cases this
          · rw [Bool.or_eq_true]
            rcases hout with hf | ⟨c, hc, hcj, hcu⟩
            · exact .inl hf
            · refine .inr (List.any_eq_true.2 ⟨c, List.mem_range.2 hc, ?_⟩)
              have hci : c ≠ i := by
                rintro rfl
                have : (listed.setIfInBounds c true).getD c false = true := by
                  simp [show c < listed.size by rw [h1]; exact hlt]
                rw [this] at hcu; cases hcu
              have hcu0 : listed.getD c false = false := by
                cases hcl : listed.getD c false with
                | false => rfl
                | true => rw [getD_set_true hcl] at hcu; cases hcu
              rw [Bool.and_eq_true, Bool.and_eq_true]
              refine ⟨⟨by simpa using hci, hcj⟩, ?_⟩
              rw [Bool.not_eq_true']
              cases hca : (A.getD i []).contains c with
              | false => rfl
              | true =>
                have := hancA c (by simpa using hca)
                rw [hcu0] at this; cases this
        have hj7 := h7 j hj' hout0
        unfold HoldsAt at hj7 ⊢
        cases hdj : dstAt l.toArray j with
        | none => trivial
        | some d =>
          rw [hdj] at hj7
          show V j _ _
          rw [put_getD_ne]
          · exact hR j _ (by simpa using hneed) hj7
          · intro e
            have hdo : dstAt l.toArray i = some d := by simp [dstAt, hio, e]
            rw [hdo] at hdst
            simp only [Bool.and_eq_true, decide_eq_true_eq] at hdst
            have := List.all_eq_true.1 hdst.2 j (List.mem_range.2 hjl)
            simp [hne, hdj] at this
  · rintro listed a w hr ⟨h1, h2, h3, h4, h5, h6, h7⟩
    have hall := all_listed h1 ht hr
    have hct : listed.toList.count true = l.length := by
      have : listed = Array.replicate l.length true := by
        apply Array.ext
        · simpa using h1
        · intro i hi1 hi2
          have := hall i (by rw [← h1]; exact hi1)
          simpa [hi1] using this
      rw [this]
      simp
    refine hq1 a w h2 h3 h4 (by rw [← hct]; exact h6) (holdsAll_of fun i hi => ?_)
    have hh := fun hf => h7 i (hall i (by simpa using List.mem_range.1 hi)) (.inl hf)
    unfold HoldsAt at hh ⊢
    cases hdi : dstAt l.toArray i with
    | none => trivial
    | some d => rw [hdi] at hh; exact hh
  · simp
  · have hno : ∀ i, (Array.replicate l.toArray.size false).getD i false = true → False := by
      intro i hi
      simp [Array.getElem?_replicate] at hi
      split at hi <;> simp at hi
    refine ⟨by simp, rfl, rfl, fun _ _ => rfl, fun i o _ h => (hno i h).elim, ?_, fun i h => (hno i h).elim⟩
    have h0 : (Array.replicate l.toArray.size false).toList.count true = 0 := by
      rw [List.count_eq_zero]
      intro h
      simp at h
    rw [h0]
    exact hS
/-- One operation comes up behind all others. -/
def lastOpB (n : Nat) (A : List (List Nat)) (e : Nat) : Bool := decide (e < n) && (List.range n).all fun j => j == e || (A.getD e []).contains j
/-- What each operation owes: out of what the ones that it looks at hold; what is wanted still must stand. -/
def OwesE (P : Program) (ops : Array Oper) (Q : Exit → Act → World → Prop) (V : Nat → Value → World → Prop) (S : Nat → World → Prop) (need : Nat → Nat → Bool) (E : Nat) (a0 : Act) : Nat → List Oper → List (List Nat) → Prop
  | k, o :: r, l :: ls => (∀ (n : Nat) (a : Act) (w : World) (K : Act → World → Prop), (∀ x, (∀ i, dstAt ops i ≠ some x) → a.tmps.getD x undef = a0.tmps.getD x undef) → n < ops.size → ((k = E → n + 1 = ops.size) ∧ (k ≠ E → n + 1 < ops.size)) → S n w → HoldsAll ops V a w l →
      (∀ v w', S (n + 1) w' → (∀ j u, need k j = true → V j u w → V j u w') → (o.dst ≠ none → V k v w') → K (a.put o.dst v) w') → if Region.wanted o (yielded ops a.tmps) = true then Oper.wp P o a w K Q else K (a.put o.dst undef) w) ∧ OwesE P ops Q V S need E a0 (k + 1) r ls
  | _, [], [] => True
  | _, _, _ => False
theorem owesE_at {V : Nat → Value → World → Prop} {S : Nat → World → Prop} {need : Nat → Nat → Bool} {E : Nat} {a0 : Act} : ∀ {k : Nat} {l : List Oper} {ls : List (List Nat)}, OwesE P ops Q V S need E a0 k l ls → ∀ (j : Nat) (o : Oper), l[j]? = some o →
    ∃ L, ls[j]? = some L ∧ (∀ (n : Nat) (a : Act) (w : World) (K : Act → World → Prop), (∀ x, (∀ i, dstAt ops i ≠ some x) → a.tmps.getD x undef = a0.tmps.getD x undef) → n < ops.size → ((k + j = E → n + 1 = ops.size) ∧ (k + j ≠ E → n + 1 < ops.size)) → S n w → HoldsAll ops V a w L →
      (∀ v w', S (n + 1) w' → (∀ i u, need (k + j) i = true → V i u w → V i u w') → (o.dst ≠ none → V (k + j) v w') → K (a.put o.dst v) w') → if Region.wanted o (yielded ops a.tmps) = true then Oper.wp P o a w K Q else K (a.put o.dst undef) w)
  | k, [], _, _, j, o, ho => by cases j <;> cases ho
  | k, o' :: r, [], h, _, _, _ => h.elim
  | k, o' :: r, l :: ls, h, 0, o, ho => by
    obtain rfl : o' = o := by simpa using ho
    exact ⟨l, rfl, h.1⟩
  | k, o' :: r, l :: ls, h, j + 1, o, ho => by
    obtain ⟨L, h1, h2⟩ := owesE_at h.2 j o (by simpa using ho)
    refine ⟨L, by simpa using h1, ?_⟩
    intro n a w K hf hn hE hS hV hK
    have e : k + 1 + j = k + (j + 1) := by omega
    exact h2 n a w K hf hn (by rw [e]; exact hE) hS hV (fun v w' h3 h4 h5 => hK v w' h3 (fun i u hi => h4 i u (by rw [e]; exact hi)) (fun hd => by have := h5 hd; rwa [e] at this))
/-- **A region that draws its order**: one obligation an operation. -/
theorem wp_region_end {id : Nat} {a0 : Act} {w0 : World} {l : List Oper} (V : Nat → Value → World → Prop) (S : Nat → World → Prop) (L A : List (List Nat)) (fin : List Nat) (E : Nat)
    (hm : P.follows .mixedOrders = true) (ht : topoB .any l.toArray = true) (hL : ancB .any l.toArray L = true) (hA : ancB .any l.toArray A = true) (hd : dstB l.toArray a0.tmps.size = true)
    (hS : S 0 w0.drew) (hEn : lastOpB l.length A E = true)
    (ho : OwesE P l.toArray Q V S (needB l.length L A fin) E a0 0 l L)
    (hq : ∀ (g : Nat → Value) (w : World), S l.length w → AllG (fun j v w => fin.contains j = true → V j v w) w g 0 (l.map (·.dst)) → Q .normal { tmps := putG g 0 a0.tmps (l.map (·.dst)), defers := a0.defers } w) :
    (Code.region id l.toArray true).wp P Q a0 w0 := by
  have hq1 := put_form (Q := Q) (a0 := a0) (fun j v w => fin.contains j = true → V j v w) S hd (fun vs w hlen hSl hv => by
    have hl2 : vs.length = (l.map (·.dst)).length := by simpa using hlen
    have hg : ∀ i, i < vs.length → vs[i]? = some ((fun i => vs.getD i undef) (0 + i)) := fun i hi => by simp [hi]
    rw [putAll_putG _ vs _ 0 (fun i => vs.getD i undef) hl2 hg]
    exact hq _ w hSl (allV_allG _ vs 0 _ hl2 hg hv))
  refine wp_region_any hm ?_
  let I : Array Bool → Act → World → Prop := fun listed a w => listed.size = l.toArray.size ∧ a.tmps.size = a0.tmps.size ∧ a.defers = a0.defers ∧
    (∀ x, (∀ i, dstAt l.toArray i ≠ some x) → a.tmps.getD x undef = a0.tmps.getD x undef) ∧
    (∀ i o, l.toArray[i]? = some o → listed.getD i false = true → ∀ e ∈ o.after, Region.binds .any e = true → listed.getD e.on false = true) ∧
    S (listed.toList.count true) w ∧ ∀ i, listed.getD i false = true → (fin.contains i = true ∨ ∃ c, c < l.length ∧ (L.getD c []).contains i = true ∧ listed.getD c false = false) → HoldsAt l.toArray V i a w
  refine wpAny_inv I ?_ ?_ _ _ _ _ ?_ ?_
  · rintro listed a w i hi ⟨h1, h2, h3, h4, h5, h6, h7⟩
    obtain ⟨hun, o, hio, haft⟩ := mem_ready.1 hi
    have hlt : i < l.toArray.size := (Array.getElem?_eq_some_iff.1 hio).1
    have hunf : listed.getD i false = false := by
      rcases Nat.lt_or_ge i listed.size with h' | h'
      · simp [h'] at hun ⊢; exact hun
      · simp [Array.getElem?_eq_none h'] at hun
    obtain ⟨Lo, hLo, hob⟩ := owesE_at ho i o (by simpa using hio)
    have hanc := listed_anc hL h5 ht i o hio haft
    have hancA := listed_anc hA h5 ht i o hio haft
    have hend : ((0 + i = E → listed.toList.count true + 1 = l.toArray.size) ∧ (0 + i ≠ E → listed.toList.count true + 1 < l.toArray.size)) := by
      rw [Nat.zero_add]
      unfold lastOpB at hEn
      rw [Bool.and_eq_true, decide_eq_true_eq, List.all_eq_true] at hEn
      have hsum : ∀ r : List Bool, r.count true + r.count false = r.length := by
        intro r
        induction r with
        | nil => rfl
        | cons b r ih => cases b <;> simp <;> omega
      have hs := hsum listed.toList
      rw [Array.length_toList, h1] at hs
      have hc1 := count_false_set hun
      constructor
      · rintro rfl
        have hall : listed.setIfInBounds i true = Array.replicate l.toArray.size true := by
          apply Array.ext
          · simpa using h1
          · intro j hj1 hj2
            by_cases hji : i = j
            · subst hji; simp
            · have hjl : j < l.length := by simpa using hj2
              have := hEn.2 j (List.mem_range.2 hjl)
              rw [Bool.or_eq_true] at this
              rcases this with h | h
              · exact absurd (by simpa using h) (Ne.symm hji)
              · have hl := hancA j (by simpa using h)
                have hj3 : j < listed.size := by rw [h1]; simpa using hjl
                simp [hj3] at hl
                have e : (listed.setIfInBounds i true)[j]? = listed[j]? := Array.getElem?_setIfInBounds_ne hji
                rw [Array.getElem?_eq_getElem hj1, Array.getElem?_eq_getElem hj3, hl] at e
                simpa using e
        rw [hall] at hc1
        have : (Array.replicate l.toArray.size true).toList.count false = 0 := by
          rw [List.count_eq_zero]; intro h; simp at h
        omega
      · intro hne
        have heu : listed.getD E false = false := by
          cases hle : listed.getD E false with
          | false => rfl
          | true =>
            have hEl : E < l.toArray.size := by simpa using hEn.1
            have hin := hEn.2 i (List.mem_range.2 (by simpa using hlt))
            rw [Bool.or_eq_true] at hin
            rcases hin with h | h
            · exact absurd (by simpa using h) hne
            · have := listed_anc hA h5 ht E _ (Array.getElem?_eq_getElem hEl) (h5 E _ (Array.getElem?_eq_getElem hEl) hle) i (by simpa using h)
              rw [hunf] at this; cases this
        have hEl : E < listed.size := by rw [h1]; simpa using hEn.1
        have heu2 : (listed.setIfInBounds i true).getD E true = false := by
          rw [getD_set_ne true hne]
          simp [hEl] at heu ⊢; exact heu
        have hc2 := count_false_set heu2
        omega
    have hget : ∀ j, (listed.setIfInBounds i true).getD j false = true → j = i ∨ listed.getD j false = true := by
      intro j hj
      by_cases hji : i = j
      · exact .inl hji.symm
      · rw [getD_set_ne false hji] at hj; exact .inr hj
    refine wpOp_of_some hio (hob _ a w _ h4 (by rw [← h1]; exact count_true_lt hun) hend h6 (holdsAll_of fun j hj => h7 j (hanc j (by simpa [List.getD, hLo] using hj)) (.inr ⟨i, by simpa using hlt, by simpa [List.getD, hLo] using hj, hunf⟩)) ?_)
    intro v w' hS' hR hv
    have hdst := List.all_eq_true.1 hd i (List.mem_range.2 hlt)
    refine ⟨by simpa using h1, by rw [put_size, h2], by rw [put_def, h3], fun x hx => ?_, ?_, by rw [count_true_set hun]; exact hS', fun j hj hout => ?_⟩
    · rw [put_getD_ne, h4 x hx]
      intro e
      exact hx i (by simp [dstAt, hio, e])
    · intro j oj hoj hj e he hb
      rcases hget j hj with rfl | hj'
      · rw [hoj] at hio
        obtain rfl : oj = o := by simpa using hio
        exact getD_set_true (haft e he hb)
      · exact getD_set_true (h5 j oj hoj hj' e he hb)
    · rcases hget j hj with rfl | hj'
      · unfold HoldsAt
        cases hod : o.dst with
        | none => simp [dstAt, hio, hod]
        | some d =>
          have hda : dstAt l.toArray j = some d := by simp [dstAt, hio, hod]
          rw [hda] at hdst ⊢
          simp only [Bool.and_eq_true, decide_eq_true_eq] at hdst
          show V j _ _
          rw [put_getD_eq (by rw [h2]; exact hdst.1)]
          have := hv (by simp [hod])
          simpa using this
      · have hne : j ≠ i := by
          rintro rfl
          rw [hunf] at hj'; cases hj'
        have hjl : j < l.toArray.size := by
          rcases Nat.lt_or_ge j l.toArray.size with h' | h'
          · exact h'
          · rw [← h1] at h'; simp [Array.getElem?_eq_none h'] at hj'
        have hout0 : fin.contains j = true ∨ ∃ c, c < l.length ∧ (L.getD c []).contains j = true ∧ listed.getD c false = false := by
          rcases hout with hf | ⟨c, hc, hcj, hcu⟩
          · exact .inl hf
          · refine .inr ⟨c, hc, hcj, ?_⟩
            cases hcl : listed.getD c false with
            | false => rfl
            | true => rw [getD_set_true hcl] at hcu; cases hcu
        have hneed : needB l.length L A fin i j = true := by
          unfold needB
          rw [Bool.and_eq_true, Bool.and_eq_true]
          refine ⟨⟨by simpa using hne, ?_⟩, ?_⟩
          · rw [Bool.not_eq_true']
            cases hca : (A.getD j []).contains i with
            | false => rfl
            | true =>
              have hoj : l.toArray[j]? = some (l.toArray[j]) := Array.getElem?_eq_getElem hjl
              have := listed_anc hA h5 ht j _ hoj (h5 j _ hoj hj') i (by simpa using hca)
              rw [hunf] at this; cases this
          · rw [Bool.or_eq_true]
            rcases hout with hf | ⟨c, hc, hcj, hcu⟩
            · exact .inl hf
            · refine .inr (List.any_eq_true.2 ⟨c, List.mem_range.2 hc, ?_⟩)
              have hci : c ≠ i := by
                rintro rfl
                have : (listed.setIfInBounds c true).getD c false = true := by
                  simp [show c < listed.size by rw [h1]; exact hlt]
                rw [this] at hcu; cases hcu
              have hcu0 : listed.getD c false = false := by
                cases hcl : listed.getD c false with
                | false => rfl
                | true => rw [getD_set_true hcl] at hcu; cases hcu
              rw [Bool.and_eq_true, Bool.and_eq_true]
              refine ⟨⟨by simpa using hci, hcj⟩, ?_⟩
              rw [Bool.not_eq_true']
              cases hca : (A.getD i []).contains c with
              | false => rfl
              | true =>
                have := hancA c (by simpa using hca)
                rw [hcu0] at this; cases this
        have hj7 := h7 j hj' hout0
        unfold HoldsAt at hj7 ⊢
        cases hdj : dstAt l.toArray j with
        | none => trivial
        | some d =>
          rw [hdj] at hj7
          show V j _ _
          rw [put_getD_ne]
          · exact hR j _ (by simpa using hneed) hj7
          · intro e
            have hdo : dstAt l.toArray i = some d := by simp [dstAt, hio, e]
            rw [hdo] at hdst
            simp only [Bool.and_eq_true, decide_eq_true_eq] at hdst
            have := List.all_eq_true.1 hdst.2 j (List.mem_range.2 hjl)
            simp [hne, hdj] at this
  · rintro listed a w hr ⟨h1, h2, h3, h4, h5, h6, h7⟩
    have hall := all_listed h1 ht hr
    have hct : listed.toList.count true = l.length := by
      have : listed = Array.replicate l.length true := by
        apply Array.ext
        · simpa using h1
        · intro i hi1 hi2
          have := hall i (by rw [← h1]; exact hi1)
          simpa [hi1] using this
      rw [this]
      simp
    refine hq1 a w h2 h3 h4 (by rw [← hct]; exact h6) (holdsAll_of fun i hi => ?_)
    have hh := fun hf => h7 i (hall i (by simpa using List.mem_range.1 hi)) (.inl hf)
    unfold HoldsAt at hh ⊢
    cases hdi : dstAt l.toArray i with
    | none => trivial
    | some d => rw [hdi] at hh; exact hh
  · simp
  · have hno : ∀ i, (Array.replicate l.toArray.size false).getD i false = true → False := by
      intro i hi
      simp [Array.getElem?_replicate] at hi
      split at hi <;> simp at hi
    refine ⟨by simp, rfl, rfl, fun _ _ => rfl, fun i o _ h => (hno i h).elim, ?_, fun i h => (hno i h).elim⟩
    have h0 : (Array.replicate l.toArray.size false).toList.count true = 0 := by
      rw [List.count_eq_zero]
      intro h
      simp at h
    rw [h0]
    exact hS
end
/-! InvW -/
open Go
set_option linter.unusedSimpArgs false
set_option linter.unusedVariables false
section
variable {P : Program} {ops : Array Oper} {Q : Exit → Act → World → Prop}
/-- One more has come up. -/
def setl (f : Nat → Bool) (k : Nat) : Nat → Bool := fun j => f j || j == k
theorem setl_at (f : Nat → Bool) (k : Nat) : setl f k k = true := by simp [setl]
theorem setl_ne {f : Nat → Bool} {k j : Nat} (h : j ≠ k) : setl f k j = f j := by simp [setl, h]
theorem setl_off {f : Nat → Bool} {k j : Nat} (h : setl f k j = false) : f j = false := by simp [setl] at h; exact h.1
/-- What each operation owes: out of what the ones that it looks at hold; what is wanted still must stand. -/
def OwesW (P : Program) (ops : Array Oper) (Q : Exit → Act → World → Prop) (V : Nat → Value → World → Prop) (S : Nat → (Nat → Bool) → World → Prop) (A : List (List Nat)) (need : Nat → Nat → Bool) (a0 : Act) : Nat → List Oper → List (List Nat) → Prop
  | k, o :: r, l :: ls => (∀ (n : Nat) (f : Nat → Bool) (a : Act) (w : World) (K : Act → World → Prop), (∀ x, (∀ i, dstAt ops i ≠ some x) → a.tmps.getD x undef = a0.tmps.getD x undef) → n < ops.size → (f k = false ∧ (∀ c, (A.getD k []).contains c = true → f c = true) ∧ ∀ c, (A.getD c []).contains k = true → f c = false) → S n f w → HoldsAll ops V a w l →
      (∀ v w', S (n + 1) (setl f k) w' → (∀ j u, need k j = true → V j u w → V j u w') → (o.dst ≠ none → V k v w') → K (a.put o.dst v) w') → if Region.wanted o (yielded ops a.tmps) = true then Oper.wp P o a w K Q else K (a.put o.dst undef) w) ∧ OwesW P ops Q V S A need a0 (k + 1) r ls
  | _, [], [] => True
  | _, _, _ => False
theorem owesW_at {V : Nat → Value → World → Prop} {S : Nat → (Nat → Bool) → World → Prop} {A : List (List Nat)} {need : Nat → Nat → Bool} {a0 : Act} : ∀ {k : Nat} {l : List Oper} {ls : List (List Nat)}, OwesW P ops Q V S A need a0 k l ls → ∀ (j : Nat) (o : Oper), l[j]? = some o →
    ∃ L, ls[j]? = some L ∧ (∀ (n : Nat) (f : Nat → Bool) (a : Act) (w : World) (K : Act → World → Prop), (∀ x, (∀ i, dstAt ops i ≠ some x) → a.tmps.getD x undef = a0.tmps.getD x undef) → n < ops.size → (f (k + j) = false ∧ (∀ c, (A.getD (k + j) []).contains c = true → f c = true) ∧ ∀ c, (A.getD c []).contains (k + j) = true → f c = false) → S n f w → HoldsAll ops V a w L →
      (∀ v w', S (n + 1) (setl f (k + j)) w' → (∀ i u, need (k + j) i = true → V i u w → V i u w') → (o.dst ≠ none → V (k + j) v w') → K (a.put o.dst v) w') → if Region.wanted o (yielded ops a.tmps) = true then Oper.wp P o a w K Q else K (a.put o.dst undef) w)
  | k, [], _, _, j, o, ho => by cases j <;> cases ho
  | k, o' :: r, [], h, _, _, _ => h.elim
  | k, o' :: r, l :: ls, h, 0, o, ho => by
    obtain rfl : o' = o := by simpa using ho
    exact ⟨l, rfl, h.1⟩
  | k, o' :: r, l :: ls, h, j + 1, o, ho => by
    obtain ⟨L, h1, h2⟩ := owesW_at h.2 j o (by simpa using ho)
    refine ⟨L, by simpa using h1, ?_⟩
    intro n f a w K hf hn hE hS hV hK
    have e : k + 1 + j = k + (j + 1) := by omega
    exact h2 n f a w K hf hn (by rw [e]; exact hE) hS hV (fun v w' h3 h4 h5 => hK v w' (by rw [← e]; exact h3) (fun i u hi => h4 i u (by rw [e]; exact hi)) (fun hd => by have := h5 hd; rwa [e] at this))
/-- **A region that draws its order**: one obligation an operation. -/
theorem wp_region_set {id : Nat} {a0 : Act} {w0 : World} {l : List Oper} (V : Nat → Value → World → Prop) (S : Nat → (Nat → Bool) → World → Prop) (L A : List (List Nat)) (fin : List Nat)
    (hm : P.follows .mixedOrders = true) (ht : topoB .any l.toArray = true) (hL : ancB .any l.toArray L = true) (hA : ancB .any l.toArray A = true) (hd : dstB l.toArray a0.tmps.size = true)
    (hS : S 0 (fun _ => false) w0.drew)
    (ho : OwesW P l.toArray Q V S A (needB l.length L A fin) a0 0 l L)
    (hq : ∀ (g : Nat → Value) (w : World), S l.length (fun j => decide (j < l.length)) w → AllG (fun j v w => fin.contains j = true → V j v w) w g 0 (l.map (·.dst)) → Q .normal { tmps := putG g 0 a0.tmps (l.map (·.dst)), defers := a0.defers } w) :
    (Code.region id l.toArray true).wp P Q a0 w0 := by
  have hq1 := put_form (Q := Q) (a0 := a0) (fun j v w => fin.contains j = true → V j v w) (fun n w => S n (fun j => decide (j < l.length)) w) hd (fun vs w hlen hSl hv => by
    have hl2 : vs.length = (l.map (·.dst)).length := by simpa using hlen
    have hg : ∀ i, i < vs.length → vs[i]? = some ((fun i => vs.getD i undef) (0 + i)) := fun i hi => by simp [hi]
    rw [putAll_putG _ vs _ 0 (fun i => vs.getD i undef) hl2 hg]
    exact hq _ w hSl (allV_allG _ vs 0 _ hl2 hg hv))
  refine wp_region_any hm ?_
  let I : Array Bool → Act → World → Prop := fun listed a w => listed.size = l.toArray.size ∧ a.tmps.size = a0.tmps.size ∧ a.defers = a0.defers ∧
    (∀ x, (∀ i, dstAt l.toArray i ≠ some x) → a.tmps.getD x undef = a0.tmps.getD x undef) ∧
    (∀ i o, l.toArray[i]? = some o → listed.getD i false = true → ∀ e ∈ o.after, Region.binds .any e = true → listed.getD e.on false = true) ∧
    S (listed.toList.count true) (fun j => listed.getD j false) w ∧ ∀ i, listed.getD i false = true → (fin.contains i = true ∨ ∃ c, c < l.length ∧ (L.getD c []).contains i = true ∧ listed.getD c false = false) → HoldsAt l.toArray V i a w
  refine wpAny_inv I ?_ ?_ _ _ _ _ ?_ ?_
  · rintro listed a w i hi ⟨h1, h2, h3, h4, h5, h6, h7⟩
    obtain ⟨hun, o, hio, haft⟩ := mem_ready.1 hi
    have hlt : i < l.toArray.size := (Array.getElem?_eq_some_iff.1 hio).1
    have hunf : listed.getD i false = false := by
      rcases Nat.lt_or_ge i listed.size with h' | h'
      · simp [h'] at hun ⊢; exact hun
      · simp [Array.getElem?_eq_none h'] at hun
    obtain ⟨Lo, hLo, hob⟩ := owesW_at ho i o (by simpa using hio)
    have hanc := listed_anc hL h5 ht i o hio haft
    have hancA := listed_anc hA h5 ht i o hio haft
    have hend : (listed.getD (0 + i) false = false ∧ (∀ c, (A.getD (0 + i) []).contains c = true → listed.getD c false = true) ∧ ∀ c, (A.getD c []).contains (0 + i) = true → listed.getD c false = false) := by
      rw [Nat.zero_add]
      refine ⟨hunf, fun c hc => hancA c (by simpa using hc), fun c hc => ?_⟩
      cases hcl : listed.getD c false with
      | false => rfl
      | true =>
        have hcs : c < l.toArray.size := by
          rcases Nat.lt_or_ge c l.toArray.size with h' | h'
          · exact h'
          · rw [← h1] at h'; simp [Array.getElem?_eq_none h'] at hcl
        have := listed_anc hA h5 ht c _ (Array.getElem?_eq_getElem hcs) (h5 c _ (Array.getElem?_eq_getElem hcs) hcl) i (by simpa using hc)
        rw [hunf] at this; cases this
    have hset : (fun j => (listed.setIfInBounds i true).getD j false) = setl (fun j => listed.getD j false) (0 + i) := by
      rw [Nat.zero_add]
      funext j
      have hi2 : i < listed.size := by rw [h1]; exact hlt
      by_cases hji : i = j
      · subst hji
        rw [setl_at]
        simp [hi2]
      · rw [setl_ne (Ne.symm hji), getD_set_ne false hji]
    have hget : ∀ j, (listed.setIfInBounds i true).getD j false = true → j = i ∨ listed.getD j false = true := by
      intro j hj
      by_cases hji : i = j
      · exact .inl hji.symm
      · rw [getD_set_ne false hji] at hj; exact .inr hj
    refine wpOp_of_some hio (hob _ _ a w _ h4 (by rw [← h1]; exact count_true_lt hun) hend h6 (holdsAll_of fun j hj => h7 j (hanc j (by simpa [List.getD, hLo] using hj)) (.inr ⟨i, by simpa using hlt, by simpa [List.getD, hLo] using hj, hunf⟩)) ?_)
    intro v w' hS' hR hv
    have hdst := List.all_eq_true.1 hd i (List.mem_range.2 hlt)
    refine ⟨by simpa using h1, by rw [put_size, h2], by rw [put_def, h3], fun x hx => ?_, ?_, by rw [count_true_set hun, hset]; exact hS', fun j hj hout => ?_⟩
    · rw [put_getD_ne, h4 x hx]
      intro e
      exact hx i (by simp [dstAt, hio, e])
    · intro j oj hoj hj e he hb
      rcases hget j hj with rfl | hj'
      · rw [hoj] at hio
        obtain rfl : oj = o := by simpa using hio
        exact getD_set_true (haft e he hb)
      · exact getD_set_true (h5 j oj hoj hj' e he hb)
    · rcases hget j hj with rfl | hj'
      · unfold HoldsAt
        cases hod : o.dst with
        | none => simp [dstAt, hio, hod]
        | some d =>
          have hda : dstAt l.toArray j = some d := by simp [dstAt, hio, hod]
          rw [hda] at hdst ⊢
          simp only [Bool.and_eq_true, decide_eq_true_eq] at hdst
          show V j _ _
          rw [put_getD_eq (by rw [h2]; exact hdst.1)]
          have := hv (by simp [hod])
          simpa using this
      · have hne : j ≠ i := by
          rintro rfl
          rw [hunf] at hj'; cases hj'
        have hjl : j < l.toArray.size := by
          rcases Nat.lt_or_ge j l.toArray.size with h' | h'
          · exact h'
          · rw [← h1] at h'; simp [Array.getElem?_eq_none h'] at hj'
        have hout0 : fin.contains j = true ∨ ∃ c, c < l.length ∧ (L.getD c []).contains j = true ∧ listed.getD c false = false := by
          rcases hout with hf | ⟨c, hc, hcj, hcu⟩
          · exact .inl hf
          · refine .inr ⟨c, hc, hcj, ?_⟩
            cases hcl : listed.getD c false with
            | false => rfl
            | true => rw [getD_set_true hcl] at hcu; cases hcu
        have hneed : needB l.length L A fin i j = true := by
          unfold needB
          rw [Bool.and_eq_true, Bool.and_eq_true]
          refine ⟨⟨by simpa using hne, ?_⟩, ?_⟩
          · rw [Bool.not_eq_true']
            cases hca : (A.getD j []).contains i with
            | false => rfl
            | true =>
              have hoj : l.toArray[j]? = some (l.toArray[j]) := Array.getElem?_eq_getElem hjl
              have := listed_anc hA h5 ht j _ hoj (h5 j _ hoj hj') i (by simpa using hca)
              rw [hunf] at this; cases this
          · rw [Bool.or_eq_true]
            rcases hout with hf | ⟨c, hc, hcj, hcu⟩
            · exact .inl hf
            · refine .inr (List.any_eq_true.2 ⟨c, List.mem_range.2 hc, ?_⟩)
              have hci : c ≠ i := by
                rintro rfl
                have : (listed.setIfInBounds c true).getD c false = true := by
                  simp [show c < listed.size by rw [h1]; exact hlt]
                rw [this] at hcu; cases hcu
              have hcu0 : listed.getD c false = false := by
                cases hcl : listed.getD c false with
                | false => rfl
                | true => rw [getD_set_true hcl] at hcu; cases hcu
              rw [Bool.and_eq_true, Bool.and_eq_true]
              refine ⟨⟨by simpa using hci, hcj⟩, ?_⟩
              rw [Bool.not_eq_true']
              cases hca : (A.getD i []).contains c with
              | false => rfl
              | true =>
                have := hancA c (by simpa using hca)
                rw [hcu0] at this; cases this
        have hj7 := h7 j hj' hout0
        unfold HoldsAt at hj7 ⊢
        cases hdj : dstAt l.toArray j with
        | none => trivial
        | some d =>
          rw [hdj] at hj7
          show V j _ _
          rw [put_getD_ne]
          · exact hR j _ (by simpa using hneed) hj7
          · intro e
            have hdo : dstAt l.toArray i = some d := by simp [dstAt, hio, e]
            rw [hdo] at hdst
            simp only [Bool.and_eq_true, decide_eq_true_eq] at hdst
            have := List.all_eq_true.1 hdst.2 j (List.mem_range.2 hjl)
            simp [hne, hdj] at this
  · rintro listed a w hr ⟨h1, h2, h3, h4, h5, h6, h7⟩
    have hall := all_listed h1 ht hr
    have hct : listed.toList.count true = l.length := by
      have : listed = Array.replicate l.length true := by
        apply Array.ext
        · simpa using h1
        · intro i hi1 hi2
          have := hall i (by rw [← h1]; exact hi1)
          simpa [hi1] using this
      rw [this]
      simp
    have hfull : (fun j => listed.getD j false) = fun j => decide (j < l.length) := by
      funext j
      by_cases hj : j < l.length
      · rw [hall j (by simpa using hj)]; simp [hj]
      · have : listed.size ≤ j := by rw [h1]; simpa using hj
        simp [Array.getElem?_eq_none this, hj]
    refine hq1 a w h2 h3 h4 (by rw [hct, hfull] at h6; exact h6) (holdsAll_of fun i hi => ?_)
    have hh := fun hf => h7 i (hall i (by simpa using List.mem_range.1 hi)) (.inl hf)
    unfold HoldsAt at hh ⊢
    cases hdi : dstAt l.toArray i with
    | none => trivial
    | some d => rw [hdi] at hh; exact hh
  · simp
  · have hno : ∀ i, (Array.replicate l.toArray.size false).getD i false = true → False := by
      intro i hi
      simp [Array.getElem?_replicate] at hi
      split at hi <;> simp at hi
    refine ⟨by simp, rfl, rfl, fun _ _ => rfl, fun i o _ h => (hno i h).elim, ?_, fun i h => (hno i h).elim⟩
    have h0 : (Array.replicate l.toArray.size false).toList.count true = 0 := by
      rw [List.count_eq_zero]
      intro h
      simp at h
    have hf0 : (fun j => (Array.replicate l.toArray.size false).getD j false) = fun _ => false := by
      funext j
      cases hj : (Array.replicate l.toArray.size false).getD j false with
      | false => rfl
      | true => exact (hno j hj).elim
    rw [h0, hf0]
    exact hS
end
/-! InvF -/
open Go
set_option linter.unusedSimpArgs false
set_option linter.unusedVariables false
section
variable {P : Program} {ops : Array Oper} {Q : Exit → Act → World → Prop}
/-- What each operation owes: out of what the ones that it looks at hold; what is wanted still must stand. -/
def OwesF (P : Program) (ops : Array Oper) (Q : Exit → Act → World → Prop) (V : (Nat → Bool) → Nat → Value → World → Prop) (S : Nat → (Nat → Bool) → World → Prop) (A : List (List Nat)) (need : Nat → Nat → Bool) (a0 : Act) : Nat → List Oper → List (List Nat) → Prop
  | k, o :: r, l :: ls => (∀ (n : Nat) (f : Nat → Bool) (a : Act) (w : World) (K : Act → World → Prop), (∀ x, (∀ i, dstAt ops i ≠ some x) → a.tmps.getD x undef = a0.tmps.getD x undef) → n < ops.size → (f k = false ∧ (∀ c, (A.getD k []).contains c = true → f c = true) ∧ ∀ c, (A.getD c []).contains k = true → f c = false) → S n f w → HoldsAll ops (V f) a w l →
      (∀ v w', S (n + 1) (setl f k) w' → (∀ j d, dstAt ops j = some d → need k j = true → V f j (a.tmps.getD d undef) w → V (setl f k) j (a.tmps.getD d undef) w') → (o.dst ≠ none → V (setl f k) k v w') → K (a.put o.dst v) w') → if Region.wanted o (yielded ops a.tmps) = true then Oper.wp P o a w K Q else K (a.put o.dst undef) w) ∧ OwesF P ops Q V S A need a0 (k + 1) r ls
  | _, [], [] => True
  | _, _, _ => False
theorem owesF_at {V : (Nat → Bool) → Nat → Value → World → Prop} {S : Nat → (Nat → Bool) → World → Prop} {A : List (List Nat)} {need : Nat → Nat → Bool} {a0 : Act} : ∀ {k : Nat} {l : List Oper} {ls : List (List Nat)}, OwesF P ops Q V S A need a0 k l ls → ∀ (j : Nat) (o : Oper), l[j]? = some o →
    ∃ L, ls[j]? = some L ∧ (∀ (n : Nat) (f : Nat → Bool) (a : Act) (w : World) (K : Act → World → Prop), (∀ x, (∀ i, dstAt ops i ≠ some x) → a.tmps.getD x undef = a0.tmps.getD x undef) → n < ops.size → (f (k + j) = false ∧ (∀ c, (A.getD (k + j) []).contains c = true → f c = true) ∧ ∀ c, (A.getD c []).contains (k + j) = true → f c = false) → S n f w → HoldsAll ops (V f) a w L →
      (∀ v w', S (n + 1) (setl f (k + j)) w' → (∀ i d, dstAt ops i = some d → need (k + j) i = true → V f i (a.tmps.getD d undef) w → V (setl f (k + j)) i (a.tmps.getD d undef) w') → (o.dst ≠ none → V (setl f (k + j)) (k + j) v w') → K (a.put o.dst v) w') → if Region.wanted o (yielded ops a.tmps) = true then Oper.wp P o a w K Q else K (a.put o.dst undef) w)
  | k, [], _, _, j, o, ho => by cases j <;> cases ho
  | k, o' :: r, [], h, _, _, _ => h.elim
  | k, o' :: r, l :: ls, h, 0, o, ho => by
    obtain rfl : o' = o := by simpa using ho
    exact ⟨l, rfl, h.1⟩
  | k, o' :: r, l :: ls, h, j + 1, o, ho => by
    obtain ⟨L, h1, h2⟩ := owesF_at h.2 j o (by simpa using ho)
    refine ⟨L, by simpa using h1, ?_⟩
    intro n f a w K hf hn hE hS hV hK
    have e : k + 1 + j = k + (j + 1) := by omega
    exact h2 n f a w K hf hn (by rw [e]; exact hE) hS hV (fun v w' h3 h4 h5 => hK v w' (by rw [← e]; exact h3) (fun i d hd hi hv0 => by rw [← e]; exact h4 i d hd (by rw [e]; exact hi) hv0) (fun hd => by have := h5 hd; rwa [e] at this))
/-- **A region that draws its order**: one obligation an operation. -/
theorem wp_region_flag {id : Nat} {a0 : Act} {w0 : World} {l : List Oper} (V : (Nat → Bool) → Nat → Value → World → Prop) (S : Nat → (Nat → Bool) → World → Prop) (L A : List (List Nat)) (fin : List Nat)
    (hm : P.follows .mixedOrders = true) (ht : topoB .any l.toArray = true) (hL : ancB .any l.toArray L = true) (hA : ancB .any l.toArray A = true) (hd : dstB l.toArray a0.tmps.size = true)
    (hS : S 0 (fun _ => false) w0.drew)
    (ho : OwesF P l.toArray Q V S A (needB l.length L A fin) a0 0 l L)
    (hq : ∀ (g : Nat → Value) (w : World), S l.length (fun j => decide (j < l.length)) w → AllG (fun j v w => fin.contains j = true → V (fun j => decide (j < l.length)) j v w) w g 0 (l.map (·.dst)) → Q .normal { tmps := putG g 0 a0.tmps (l.map (·.dst)), defers := a0.defers } w) :
    (Code.region id l.toArray true).wp P Q a0 w0 := by
  have hq1 := put_form (Q := Q) (a0 := a0) (fun j v w => fin.contains j = true → V (fun j => decide (j < l.length)) j v w) (fun n w => S n (fun j => decide (j < l.length)) w) hd (fun vs w hlen hSl hv => by
    have hl2 : vs.length = (l.map (·.dst)).length := by simpa using hlen
    have hg : ∀ i, i < vs.length → vs[i]? = some ((fun i => vs.getD i undef) (0 + i)) := fun i hi => by simp [hi]
    rw [putAll_putG _ vs _ 0 (fun i => vs.getD i undef) hl2 hg]
    exact hq _ w hSl (allV_allG _ vs 0 _ hl2 hg hv))
  refine wp_region_any hm ?_
  let I : Array Bool → Act → World → Prop := fun listed a w => listed.size = l.toArray.size ∧ a.tmps.size = a0.tmps.size ∧ a.defers = a0.defers ∧
    (∀ x, (∀ i, dstAt l.toArray i ≠ some x) → a.tmps.getD x undef = a0.tmps.getD x undef) ∧
    (∀ i o, l.toArray[i]? = some o → listed.getD i false = true → ∀ e ∈ o.after, Region.binds .any e = true → listed.getD e.on false = true) ∧
    S (listed.toList.count true) (fun j => listed.getD j false) w ∧ ∀ i, listed.getD i false = true → (fin.contains i = true ∨ ∃ c, c < l.length ∧ (L.getD c []).contains i = true ∧ listed.getD c false = false) → HoldsAt l.toArray (V (fun j => listed.getD j false)) i a w
  refine wpAny_inv I ?_ ?_ _ _ _ _ ?_ ?_
  · rintro listed a w i hi ⟨h1, h2, h3, h4, h5, h6, h7⟩
    obtain ⟨hun, o, hio, haft⟩ := mem_ready.1 hi
    have hlt : i < l.toArray.size := (Array.getElem?_eq_some_iff.1 hio).1
    have hunf : listed.getD i false = false := by
      rcases Nat.lt_or_ge i listed.size with h' | h'
      · simp [h'] at hun ⊢; exact hun
      · simp [Array.getElem?_eq_none h'] at hun
    obtain ⟨Lo, hLo, hob⟩ := owesF_at ho i o (by simpa using hio)
    have hanc := listed_anc hL h5 ht i o hio haft
    have hancA := listed_anc hA h5 ht i o hio haft
    have hend : (listed.getD (0 + i) false = false ∧ (∀ c, (A.getD (0 + i) []).contains c = true → listed.getD c false = true) ∧ ∀ c, (A.getD c []).contains (0 + i) = true → listed.getD c false = false) := by
      rw [Nat.zero_add]
      refine ⟨hunf, fun c hc => hancA c (by simpa using hc), fun c hc => ?_⟩
      cases hcl : listed.getD c false with
      | false => rfl
      | true =>
        have hcs : c < l.toArray.size := by
          rcases Nat.lt_or_ge c l.toArray.size with h' | h'
          · exact h'
          · rw [← h1] at h'; simp [Array.getElem?_eq_none h'] at hcl
        have := listed_anc hA h5 ht c _ (Array.getElem?_eq_getElem hcs) (h5 c _ (Array.getElem?_eq_getElem hcs) hcl) i (by simpa using hc)
        rw [hunf] at this; cases this
    have hset : (fun j => (listed.setIfInBounds i true).getD j false) = setl (fun j => listed.getD j false) (0 + i) := by
      rw [Nat.zero_add]
      funext j
      have hi2 : i < listed.size := by rw [h1]; exact hlt
      by_cases hji : i = j
      · subst hji
        rw [setl_at]
        simp [hi2]
      · rw [setl_ne (Ne.symm hji), getD_set_ne false hji]
    have hget : ∀ j, (listed.setIfInBounds i true).getD j false = true → j = i ∨ listed.getD j false = true := by
      intro j hj
      by_cases hji : i = j
      · exact .inl hji.symm
      · rw [getD_set_ne false hji] at hj; exact .inr hj
    refine wpOp_of_some hio (hob _ _ a w _ h4 (by rw [← h1]; exact count_true_lt hun) hend h6 (holdsAll_of fun j hj => h7 j (hanc j (by simpa [List.getD, hLo] using hj)) (.inr ⟨i, by simpa using hlt, by simpa [List.getD, hLo] using hj, hunf⟩)) ?_)
    intro v w' hS' hR hv
    have hdst := List.all_eq_true.1 hd i (List.mem_range.2 hlt)
    refine ⟨by simpa using h1, by rw [put_size, h2], by rw [put_def, h3], fun x hx => ?_, ?_, by rw [count_true_set hun, hset]; exact hS', fun j hj hout => ?_⟩
    · rw [put_getD_ne, h4 x hx]
      intro e
      exact hx i (by simp [dstAt, hio, e])
    · intro j oj hoj hj e he hb
      rcases hget j hj with rfl | hj'
      · rw [hoj] at hio
        obtain rfl : oj = o := by simpa using hio
        exact getD_set_true (haft e he hb)
      · exact getD_set_true (h5 j oj hoj hj' e he hb)
    · rcases hget j hj with rfl | hj'
      · unfold HoldsAt
        cases hod : o.dst with
        | none => simp [dstAt, hio, hod]
        | some d =>
          have hda : dstAt l.toArray j = some d := by simp [dstAt, hio, hod]
          rw [hda] at hdst ⊢
          simp only [Bool.and_eq_true, decide_eq_true_eq] at hdst
          show V _ j _ _
          rw [put_getD_eq (by rw [h2]; exact hdst.1)]
          have := hv (by simp [hod])
          rw [hset]
          simpa using this
      · have hne : j ≠ i := by
          rintro rfl
          rw [hunf] at hj'; cases hj'
        have hjl : j < l.toArray.size := by
          rcases Nat.lt_or_ge j l.toArray.size with h' | h'
          · exact h'
          · rw [← h1] at h'; simp [Array.getElem?_eq_none h'] at hj'
        have hout0 : fin.contains j = true ∨ ∃ c, c < l.length ∧ (L.getD c []).contains j = true ∧ listed.getD c false = false := by
          rcases hout with hf | ⟨c, hc, hcj, hcu⟩
          · exact .inl hf
          · refine .inr ⟨c, hc, hcj, ?_⟩
            cases hcl : listed.getD c false with
            | false => rfl
            | true => rw [getD_set_true hcl] at hcu; cases hcu
        have hneed : needB l.length L A fin i j = true := by
          unfold needB
          rw [Bool.and_eq_true, Bool.and_eq_true]
          refine ⟨⟨by simpa using hne, ?_⟩, ?_⟩
          · rw [Bool.not_eq_true']
            cases hca : (A.getD j []).contains i with
            | false => rfl
            | true =>
              have hoj : l.toArray[j]? = some (l.toArray[j]) := Array.getElem?_eq_getElem hjl
              have := listed_anc hA h5 ht j _ hoj (h5 j _ hoj hj') i (by simpa using hca)
              rw [hunf] at this; cases this
          · rw [Bool.or_eq_true]
            rcases hout with hf | ⟨c, hc, hcj, hcu⟩
            · exact .inl hf
            · refine .inr (List.any_eq_true.2 ⟨c, List.mem_range.2 hc, ?_⟩)
              have hci : c ≠ i := by
                rintro rfl
                have : (listed.setIfInBounds c true).getD c false = true := by
                  simp [show c < listed.size by rw [h1]; exact hlt]
                rw [this] at hcu; cases hcu
              have hcu0 : listed.getD c false = false := by
                cases hcl : listed.getD c false with
                | false => rfl
                | true => rw [getD_set_true hcl] at hcu; cases hcu
              rw [Bool.and_eq_true, Bool.and_eq_true]
              refine ⟨⟨by simpa using hci, hcj⟩, ?_⟩
              rw [Bool.not_eq_true']
              cases hca : (A.getD i []).contains c with
              | false => rfl
              | true =>
                have := hancA c (by simpa using hca)
                rw [hcu0] at this; cases this
        have hj7 := h7 j hj' hout0
        unfold HoldsAt at hj7 ⊢
        cases hdj : dstAt l.toArray j with
        | none => trivial
        | some d =>
          rw [hdj] at hj7
          show V _ j _ _
          rw [put_getD_ne]
          · rw [hset]; exact hR j d hdj (by simpa using hneed) hj7
          · intro e
            have hdo : dstAt l.toArray i = some d := by simp [dstAt, hio, e]
            rw [hdo] at hdst
            simp only [Bool.and_eq_true, decide_eq_true_eq] at hdst
            have := List.all_eq_true.1 hdst.2 j (List.mem_range.2 hjl)
            simp [hne, hdj] at this
  · rintro listed a w hr ⟨h1, h2, h3, h4, h5, h6, h7⟩
    have hall := all_listed h1 ht hr
    have hct : listed.toList.count true = l.length := by
      have : listed = Array.replicate l.length true := by
        apply Array.ext
        · simpa using h1
        · intro i hi1 hi2
          have := hall i (by rw [← h1]; exact hi1)
          simpa [hi1] using this
      rw [this]
      simp
    have hfull : (fun j => listed.getD j false) = fun j => decide (j < l.length) := by
      funext j
      by_cases hj : j < l.length
      · rw [hall j (by simpa using hj)]; simp [hj]
      · have : listed.size ≤ j := by rw [h1]; simpa using hj
        simp [Array.getElem?_eq_none this, hj]
    refine hq1 a w h2 h3 h4 (by rw [hct, hfull] at h6; exact h6) (holdsAll_of fun i hi => ?_)
    have hh := fun hf => h7 i (hall i (by simpa using List.mem_range.1 hi)) (.inl hf)
    rw [hfull] at hh
    unfold HoldsAt at hh ⊢
    cases hdi : dstAt l.toArray i with
    | none => trivial
    | some d => rw [hdi] at hh; exact hh
  · simp
  · have hno : ∀ i, (Array.replicate l.toArray.size false).getD i false = true → False := by
      intro i hi
      simp [Array.getElem?_replicate] at hi
      split at hi <;> simp at hi
    refine ⟨by simp, rfl, rfl, fun _ _ => rfl, fun i o _ h => (hno i h).elim, ?_, fun i h => (hno i h).elim⟩
    have h0 : (Array.replicate l.toArray.size false).toList.count true = 0 := by
      rw [List.count_eq_zero]
      intro h
      simp at h
    have hf0 : (fun j => (Array.replicate l.toArray.size false).getD j false) = fun _ => false := by
      funext j
      cases hj : (Array.replicate l.toArray.size false).getD j false with
      | false => rfl
      | true => exact (hno j hj).elim
    rw [h0, hf0]
    exact hS
end
/-! InvK -/
open Go.ChangeShapes Go.WideShapes Go.ChangeAt Go.RowKit Go.Joins
set_option linter.unusedSimpArgs false
set_option linter.unusedVariables false
section
variable {P : Program} {ops : Array Oper} {Q : Exit → Act → World → Prop} {o : Oper} {a : Act} {w : World} {K : Act → World → Prop}
theorem owe_run (hg : o.guard = none) (h : Oper.wp P o a w K Q) : if Region.wanted o (yielded ops a.tmps) = true then Oper.wp P o a w K Q else K (a.put o.dst undef) w := by
  rw [if_pos (by simp [Region.wanted, hg])]; exact h
theorem owe_want {g : Nat} {b : Bool} (hg : o.guard = some (g, b)) (hy : yielded ops a.tmps g = some b) (h : Oper.wp P o a w K Q) : if Region.wanted o (yielded ops a.tmps) = true then Oper.wp P o a w K Q else K (a.put o.dst undef) w := by
  rw [if_pos (by simp [Region.wanted, hg, hy])]; exact h
theorem owe_skip {g : Nat} {b c : Bool} (hg : o.guard = some (g, b)) (hy : yielded ops a.tmps g = some c) (hne : b ≠ c) (h : K (a.put o.dst undef) w) : if Region.wanted o (yielded ops a.tmps) = true then Oper.wp P o a w K Q else K (a.put o.dst undef) w := by
  rw [if_neg (by simp [Region.wanted, hg, hy]; exact fun e => hne e.symm)]; exact h
theorem yielded_at {g : Nat} {d : Tmp} {b : Bool} (hd : dstAt ops g = some d) (hv : a.tmps.getD d undef = .bool b) : yielded ops a.tmps g = some b := by
  unfold yielded
  unfold dstAt at hd
  rw [hd]
  have : a.tmps[d]? = some (.bool b) := by
    rcases Nat.lt_or_ge d a.tmps.size with h | h
    · simp [h] at hv ⊢; exact hv
    · simp [Array.getElem?_eq_none h] at hv; cases hv
  simp [this]
theorem wp_val {v : Value} {w' : World} (hr : (execOp a.eval o).run P w = .ok (.value v) w') (h : K (a.put o.dst v) w') : Oper.wp P o a w K Q := by
  unfold Oper.wp; rw [hr]; exact h
theorem wp_skp {w' : World} (hr : (execOp a.eval o).run P w = .ok .skip w') (h : K (a.put o.dst undef) w') : Oper.wp P o a w K Q := by
  unfold Oper.wp; rw [hr]; exact h
theorem wp_fn {f : FuncId} {vs : Array Value} {args : Array Operand} {tys : Array TypeId} (ho : o.op = .call { callee := .value (.func f), args := args, argTypes := tys }) (hargs : args.map a.eval = vs) (he : (callFunc f vs).run P w = .ok (.enter f vs) w)
    (h : Calls P f vs w (fun e w' => ∃ v, e = .returned v ∧ K (a.put o.dst v) w')) : Oper.wp P o a w K Q := by
  have hr : (execOp a.eval o).run P w = .ok (.enter f vs) w := by
    simp [execOp, ho, resolve, hargs, Act.eval, Deferred.ofValue, invoke, he]
  unfold Oper.wp
  rw [hr]
  refine h.mono fun e w' ⟨v, he, hk⟩ => ?_
  subst he
  exact hk
theorem args1 {x : Operand} {v : Value} (h : a.eval x = v) : (#[x] : Array Operand).map a.eval = #[v] := by subst h; simp
theorem args2 {x y : Operand} {v u : Value} (h : a.eval x = v) (h2 : a.eval y = u) : (#[x, y] : Array Operand).map a.eval = #[v, u] := by subst h h2; simp
theorem args3 {x y z : Operand} {v u t : Value} (h : a.eval x = v) (h2 : a.eval y = u) (h3 : a.eval z = t) : (#[x, y, z] : Array Operand).map a.eval = #[v, u, t] := by subst h h2 h3; simp
theorem enter_fn {f : FuncId} {fn : Func} {c : Code} (hf : P.funcs[f]? = some fn) (hname : (fn.name == "runtime.NumGoroutine") = false) (hb : fn.body = some c) (vs : Array Value) (w : World) : (callFunc f vs).run P w = .ok (.enter f vs) w := by
  have h1 : fn.name ≠ "runtime.NumGoroutine" := by simpa using hname
  simp [callFunc, hf, h1, hb, mark]
def notDstB (ops : Array Oper) (x : Tmp) : Bool := (List.range ops.size).all fun i => dstAt ops i != some x
theorem not_dst {x : Tmp} (h : notDstB ops x = true) : ∀ i, dstAt ops i ≠ some x := by
  intro i
  rcases Nat.lt_or_ge i ops.size with hi | hi
  · have := List.all_eq_true.1 h i (List.mem_range.2 hi)
    simpa using this
  · simp [dstAt, Array.getElem?_eq_none hi]
end
/-! InvG -/
open Go
set_option linter.unusedSimpArgs false
set_option linter.unusedVariables false
section
variable {P : Program} {ops : Array Oper} {Q : Exit → Act → World → Prop}
/-- What each operation owes: out of what the ones that it looks at hold; what is wanted still must stand. -/
def OwesG (P : Program) (ops : Array Oper) (Q : Exit → Act → World → Prop) (V : Nat → Value → World → Prop) (S : Nat → (Nat → Bool) → World → Prop) (A : List (List Nat)) (need : Nat → Nat → Bool) (a0 : Act) : Nat → List Oper → List (List Nat) → Prop
  | k, o :: r, l :: ls => (∀ (n : Nat) (f : Nat → Bool) (a : Act) (w : World) (K : Act → World → Prop), (∀ x, (∀ i, dstAt ops i = some x → f i = false) → a.tmps.getD x undef = a0.tmps.getD x undef) → n < ops.size → (f k = false ∧ (∀ c, (A.getD k []).contains c = true → f c = true) ∧ ∀ c, (A.getD c []).contains k = true → f c = false) → S n f w → HoldsAll ops V a w l →
      (∀ v w', S (n + 1) (setl f k) w' → (∀ j u, need k j = true → V j u w → V j u w') → (o.dst ≠ none → V k v w') → K (a.put o.dst v) w') → if Region.wanted o (yielded ops a.tmps) = true then Oper.wp P o a w K Q else K (a.put o.dst undef) w) ∧ OwesG P ops Q V S A need a0 (k + 1) r ls
  | _, [], [] => True
  | _, _, _ => False
theorem owesG_at {V : Nat → Value → World → Prop} {S : Nat → (Nat → Bool) → World → Prop} {A : List (List Nat)} {need : Nat → Nat → Bool} {a0 : Act} : ∀ {k : Nat} {l : List Oper} {ls : List (List Nat)}, OwesG P ops Q V S A need a0 k l ls → ∀ (j : Nat) (o : Oper), l[j]? = some o →
    ∃ L, ls[j]? = some L ∧ (∀ (n : Nat) (f : Nat → Bool) (a : Act) (w : World) (K : Act → World → Prop), (∀ x, (∀ i, dstAt ops i = some x → f i = false) → a.tmps.getD x undef = a0.tmps.getD x undef) → n < ops.size → (f (k + j) = false ∧ (∀ c, (A.getD (k + j) []).contains c = true → f c = true) ∧ ∀ c, (A.getD c []).contains (k + j) = true → f c = false) → S n f w → HoldsAll ops V a w L →
      (∀ v w', S (n + 1) (setl f (k + j)) w' → (∀ i u, need (k + j) i = true → V i u w → V i u w') → (o.dst ≠ none → V (k + j) v w') → K (a.put o.dst v) w') → if Region.wanted o (yielded ops a.tmps) = true then Oper.wp P o a w K Q else K (a.put o.dst undef) w)
  | k, [], _, _, j, o, ho => by cases j <;> cases ho
  | k, o' :: r, [], h, _, _, _ => h.elim
  | k, o' :: r, l :: ls, h, 0, o, ho => by
    obtain rfl : o' = o := by simpa using ho
    exact ⟨l, rfl, h.1⟩
  | k, o' :: r, l :: ls, h, j + 1, o, ho => by
    obtain ⟨L, h1, h2⟩ := owesG_at h.2 j o (by simpa using ho)
    refine ⟨L, by simpa using h1, ?_⟩
    intro n f a w K hf hn hE hS hV hK
    have e : k + 1 + j = k + (j + 1) := by omega
    exact h2 n f a w K hf hn (by rw [e]; exact hE) hS hV (fun v w' h3 h4 h5 => hK v w' (by rw [← e]; exact h3) (fun i u hi => h4 i u (by rw [e]; exact hi)) (fun hd => by have := h5 hd; rwa [e] at this))
/-- **A region that draws its order**: one obligation an operation. -/
theorem wp_region_get {id : Nat} {a0 : Act} {w0 : World} {l : List Oper} (V : Nat → Value → World → Prop) (S : Nat → (Nat → Bool) → World → Prop) (L A : List (List Nat)) (fin : List Nat)
    (hm : P.follows .mixedOrders = true) (ht : topoB .any l.toArray = true) (hL : ancB .any l.toArray L = true) (hA : ancB .any l.toArray A = true) (hd : dstB l.toArray a0.tmps.size = true)
    (hS : S 0 (fun _ => false) w0.drew)
    (ho : OwesG P l.toArray Q V S A (needB l.length L A fin) a0 0 l L)
    (hq : ∀ (g : Nat → Value) (w : World), S l.length (fun j => decide (j < l.length)) w → AllG (fun j v w => fin.contains j = true → V j v w) w g 0 (l.map (·.dst)) → Q .normal { tmps := putG g 0 a0.tmps (l.map (·.dst)), defers := a0.defers } w) :
    (Code.region id l.toArray true).wp P Q a0 w0 := by
  have hq1 := put_form (Q := Q) (a0 := a0) (fun j v w => fin.contains j = true → V j v w) (fun n w => S n (fun j => decide (j < l.length)) w) hd (fun vs w hlen hSl hv => by
    have hl2 : vs.length = (l.map (·.dst)).length := by simpa using hlen
    have hg : ∀ i, i < vs.length → vs[i]? = some ((fun i => vs.getD i undef) (0 + i)) := fun i hi => by simp [hi]
    rw [putAll_putG _ vs _ 0 (fun i => vs.getD i undef) hl2 hg]
    exact hq _ w hSl (allV_allG _ vs 0 _ hl2 hg hv))
  refine wp_region_any hm ?_
  let I : Array Bool → Act → World → Prop := fun listed a w => listed.size = l.toArray.size ∧ a.tmps.size = a0.tmps.size ∧ a.defers = a0.defers ∧
    (∀ x, (∀ i, dstAt l.toArray i = some x → listed.getD i false = false) → a.tmps.getD x undef = a0.tmps.getD x undef) ∧
    (∀ i o, l.toArray[i]? = some o → listed.getD i false = true → ∀ e ∈ o.after, Region.binds .any e = true → listed.getD e.on false = true) ∧
    S (listed.toList.count true) (fun j => listed.getD j false) w ∧ ∀ i, listed.getD i false = true → (fin.contains i = true ∨ ∃ c, c < l.length ∧ (L.getD c []).contains i = true ∧ listed.getD c false = false) → HoldsAt l.toArray V i a w
  refine wpAny_inv I ?_ ?_ _ _ _ _ ?_ ?_
  · rintro listed a w i hi ⟨h1, h2, h3, h4, h5, h6, h7⟩
    obtain ⟨hun, o, hio, haft⟩ := mem_ready.1 hi
    have hlt : i < l.toArray.size := (Array.getElem?_eq_some_iff.1 hio).1
    have hunf : listed.getD i false = false := by
      rcases Nat.lt_or_ge i listed.size with h' | h'
      · simp [h'] at hun ⊢; exact hun
      · simp [Array.getElem?_eq_none h'] at hun
    obtain ⟨Lo, hLo, hob⟩ := owesG_at ho i o (by simpa using hio)
    have hanc := listed_anc hL h5 ht i o hio haft
    have hancA := listed_anc hA h5 ht i o hio haft
    have hend : (listed.getD (0 + i) false = false ∧ (∀ c, (A.getD (0 + i) []).contains c = true → listed.getD c false = true) ∧ ∀ c, (A.getD c []).contains (0 + i) = true → listed.getD c false = false) := by
      rw [Nat.zero_add]
      refine ⟨hunf, fun c hc => hancA c (by simpa using hc), fun c hc => ?_⟩
      cases hcl : listed.getD c false with
      | false => rfl
      | true =>
        have hcs : c < l.toArray.size := by
          rcases Nat.lt_or_ge c l.toArray.size with h' | h'
          · exact h'
          · rw [← h1] at h'; simp [Array.getElem?_eq_none h'] at hcl
        have := listed_anc hA h5 ht c _ (Array.getElem?_eq_getElem hcs) (h5 c _ (Array.getElem?_eq_getElem hcs) hcl) i (by simpa using hc)
        rw [hunf] at this; cases this
    have hset : (fun j => (listed.setIfInBounds i true).getD j false) = setl (fun j => listed.getD j false) (0 + i) := by
      rw [Nat.zero_add]
      funext j
      have hi2 : i < listed.size := by rw [h1]; exact hlt
      by_cases hji : i = j
      · subst hji
        rw [setl_at]
        simp [hi2]
      · rw [setl_ne (Ne.symm hji), getD_set_ne false hji]
    have hget : ∀ j, (listed.setIfInBounds i true).getD j false = true → j = i ∨ listed.getD j false = true := by
      intro j hj
      by_cases hji : i = j
      · exact .inl hji.symm
      · rw [getD_set_ne false hji] at hj; exact .inr hj
    refine wpOp_of_some hio (hob _ _ a w _ h4 (by rw [← h1]; exact count_true_lt hun) hend h6 (holdsAll_of fun j hj => h7 j (hanc j (by simpa [List.getD, hLo] using hj)) (.inr ⟨i, by simpa using hlt, by simpa [List.getD, hLo] using hj, hunf⟩)) ?_)
    intro v w' hS' hR hv
    have hdst := List.all_eq_true.1 hd i (List.mem_range.2 hlt)
    refine ⟨by simpa using h1, by rw [put_size, h2], by rw [put_def, h3], fun x hx => ?_, ?_, by rw [count_true_set hun, hset]; exact hS', fun j hj hout => ?_⟩
    · have hnew : (listed.setIfInBounds i true).getD i false = true := by
        simp [show i < listed.size by rw [h1]; exact hlt]
      rw [put_getD_ne, h4 x (fun j hj => ?_)]
      · cases hjl : listed.getD j false with
        | false => rfl
        | true => have := hx j hj; rw [getD_set_true hjl] at this; cases this
      · intro e
        have := hx i (by simp [dstAt, hio, e])
        rw [hnew] at this; cases this
    · intro j oj hoj hj e he hb
      rcases hget j hj with rfl | hj'
      · rw [hoj] at hio
        obtain rfl : oj = o := by simpa using hio
        exact getD_set_true (haft e he hb)
      · exact getD_set_true (h5 j oj hoj hj' e he hb)
    · rcases hget j hj with rfl | hj'
      · unfold HoldsAt
        cases hod : o.dst with
        | none => simp [dstAt, hio, hod]
        | some d =>
          have hda : dstAt l.toArray j = some d := by simp [dstAt, hio, hod]
          rw [hda] at hdst ⊢
          simp only [Bool.and_eq_true, decide_eq_true_eq] at hdst
          show V j _ _
          rw [put_getD_eq (by rw [h2]; exact hdst.1)]
          have := hv (by simp [hod])
          simpa using this
      · have hne : j ≠ i := by
          rintro rfl
          rw [hunf] at hj'; cases hj'
        have hjl : j < l.toArray.size := by
          rcases Nat.lt_or_ge j l.toArray.size with h' | h'
          · exact h'
          · rw [← h1] at h'; simp [Array.getElem?_eq_none h'] at hj'
        have hout0 : fin.contains j = true ∨ ∃ c, c < l.length ∧ (L.getD c []).contains j = true ∧ listed.getD c false = false := by
          rcases hout with hf | ⟨c, hc, hcj, hcu⟩
          · exact .inl hf
          · refine .inr ⟨c, hc, hcj, ?_⟩
            cases hcl : listed.getD c false with
            | false => rfl
            | true => rw [getD_set_true hcl] at hcu; cases hcu
        have hneed : needB l.length L A fin i j = true := by
          unfold needB
          rw [Bool.and_eq_true, Bool.and_eq_true]
          refine ⟨⟨by simpa using hne, ?_⟩, ?_⟩
          · rw [Bool.not_eq_true']
            cases hca : (A.getD j []).contains i with
            | false => rfl
            | true =>
              have hoj : l.toArray[j]? = some (l.toArray[j]) := Array.getElem?_eq_getElem hjl
              have := listed_anc hA h5 ht j _ hoj (h5 j _ hoj hj') i (by simpa using hca)
              rw [hunf] at this; cases this
          · rw [Bool.or_eq_true]
            rcases hout with hf | ⟨c, hc, hcj, hcu⟩
            · exact .inl hf
            · refine .inr (List.any_eq_true.2 ⟨c, List.mem_range.2 hc, ?_⟩)
              have hci : c ≠ i := by
                rintro rfl
                have : (listed.setIfInBounds c true).getD c false = true := by
                  simp [show c < listed.size by rw [h1]; exact hlt]
                rw [this] at hcu; cases hcu
              have hcu0 : listed.getD c false = false := by
                cases hcl : listed.getD c false with
                | false => rfl
                | true => rw [getD_set_true hcl] at hcu; cases hcu
              rw [Bool.and_eq_true, Bool.and_eq_true]
              refine ⟨⟨by simpa using hci, hcj⟩, ?_⟩
              rw [Bool.not_eq_true']
              cases hca : (A.getD i []).contains c with
              | false => rfl
              | true =>
                have := hancA c (by simpa using hca)
                rw [hcu0] at this; cases this
        have hj7 := h7 j hj' hout0
        unfold HoldsAt at hj7 ⊢
        cases hdj : dstAt l.toArray j with
        | none => trivial
        | some d =>
          rw [hdj] at hj7
          show V j _ _
          rw [put_getD_ne]
          · exact hR j _ (by simpa using hneed) hj7
          · intro e
            have hdo : dstAt l.toArray i = some d := by simp [dstAt, hio, e]
            rw [hdo] at hdst
            simp only [Bool.and_eq_true, decide_eq_true_eq] at hdst
            have := List.all_eq_true.1 hdst.2 j (List.mem_range.2 hjl)
            simp [hne, hdj] at this
  · rintro listed a w hr ⟨h1, h2, h3, h4, h5, h6, h7⟩
    have hall := all_listed h1 ht hr
    have hct : listed.toList.count true = l.length := by
      have : listed = Array.replicate l.length true := by
        apply Array.ext
        · simpa using h1
        · intro i hi1 hi2
          have := hall i (by rw [← h1]; exact hi1)
          simpa [hi1] using this
      rw [this]
      simp
    have hfull : (fun j => listed.getD j false) = fun j => decide (j < l.length) := by
      funext j
      by_cases hj : j < l.length
      · rw [hall j (by simpa using hj)]; simp [hj]
      · have : listed.size ≤ j := by rw [h1]; simpa using hj
        simp [Array.getElem?_eq_none this, hj]
    refine hq1 a w h2 h3 (fun x hx => h4 x (fun i e => absurd e (hx i))) (by rw [hct, hfull] at h6; exact h6) (holdsAll_of fun i hi => ?_)
    have hh := fun hf => h7 i (hall i (by simpa using List.mem_range.1 hi)) (.inl hf)
    unfold HoldsAt at hh ⊢
    cases hdi : dstAt l.toArray i with
    | none => trivial
    | some d => rw [hdi] at hh; exact hh
  · simp
  · have hno : ∀ i, (Array.replicate l.toArray.size false).getD i false = true → False := by
      intro i hi
      simp [Array.getElem?_replicate] at hi
      split at hi <;> simp at hi
    refine ⟨by simp, rfl, rfl, fun _ _ => rfl, fun i o _ h => (hno i h).elim, ?_, fun i h => (hno i h).elim⟩
    have h0 : (Array.replicate l.toArray.size false).toList.count true = 0 := by
      rw [List.count_eq_zero]
      intro h
      simp at h
    have hf0 : (fun j => (Array.replicate l.toArray.size false).getD j false) = fun _ => false := by
      funext j
      cases hj : (Array.replicate l.toArray.size false).getD j false with
      | false => rfl
      | true => exact (hno j hj).elim
    rw [h0, hf0]
    exact hS
/-- A slot that no operation writes. -/
theorem no_dst {ops : Array Oper} {x : Tmp} {f : Nat → Bool} (h : notDstB ops x = true) : ∀ i, dstAt ops i = some x → f i = false := fun i e => absurd e (not_dst h i)
def onlyDstB (ops : Array Oper) (x : Tmp) (k : Nat) : Bool := (List.range ops.size).all fun i => i == k || dstAt ops i != some x
/-- A slot that one operation alone writes, which has not come up. -/
theorem late_dst {ops : Array Oper} {x : Tmp} {f : Nat → Bool} {k : Nat} (h : onlyDstB ops x k = true) (hf : f k = false) : ∀ i, dstAt ops i = some x → f i = false := by
  intro i e
  by_cases hi : i < ops.size
  · have := List.all_eq_true.1 h i (List.mem_range.2 hi)
    rw [e] at this
    simp at this
    rw [this]; exact hf
  · simp [dstAt, Array.getElem?_eq_none (Nat.le_of_not_lt hi)] at e
end
/-! Ne -/
open Go.ChangeShapes Go.WideShapes Go.ChangeAt Go.RowKit Go.Joins
set_option linter.unusedSimpArgs false
set_option linter.unusedVariables false
theorem blk_apart {u : World} {T B : Nat} {c : Array Value} {t e : TypeId} {size : Nat} {v : Value} {n : Nat} {xs : List Value} (h : Blk u T c t) (ho : u.ownsRow B e size v n xs) (hne : e ≠ t) : some T ≠ v.ownBlock := by
  intro hv
  rcases ho.2 with ⟨rfl, _⟩ | ⟨g, cap, cur, rfl, _, hh, _⟩
  · cases hv
  · simp only [Value.ownBlock, Option.some.injEq] at hv
    subst hv
    unfold Blk at h
    rw [h] at hh
    simp only [Option.some.injEq, Obj.cells.injEq] at hh
    exact hne hh.2.1.symm
theorem owns_ne {u : World} {B1 B2 s1 s2 n1 n2 : Nat} {e1 e2 : TypeId} {v1 v2 : Value} {x1 x2 : List Value} (h1 : u.ownsRow B1 e1 s1 v1 n1 x1) (h2 : u.ownsRow B2 e2 s2 v2 n2 x2) (hne : e1 ≠ e2) : ∀ k, v1.ownBlock = some k → v2.ownBlock ≠ some k := by
  intro k h3 h4
  rcases h1.2 with ⟨rfl, _⟩ | ⟨g, cap, cur, rfl, _, hh, _⟩
  · cases h3
  rcases h2.2 with ⟨rfl, _⟩ | ⟨g', cap', cur', rfl, _, hh', _⟩
  · cases h4
  simp only [Value.ownBlock, Option.some.injEq] at h3 h4
  subst h3 h4
  rw [hh] at hh'
  simp only [Option.some.injEq, Obj.cells.injEq] at hh'
  exact hne hh'.2.1
/-- What lies in a row of cells of another type outlives an append. -/
theorem owns_keptNe {u u' : World} {B1 B2 s1 s2 n1 n2 : Nat} {e1 e2 : TypeId} {v1 v2 : Value} {x1 x2 : List Value} (h1 : u.ownsRow B1 e1 s1 v1 n1 x1) (h2 : u.ownsRow B2 e2 s2 v2 n2 x2) (hne : e1 ≠ e2) (hg : u.grownBy u' v2.ownBlock) : u'.ownsRow B1 e1 s1 v1 n1 x1 := by
  refine World.ownsRow.kept h1 hg ?_
  cases hq : v1.ownBlock with
  | none => exact .inl rfl
  | some q => exact .inr fun e => owns_ne h1 h2 hne q hq e.symm
end Go.Proofs.Ytkefbhidfbnipaa
