/- What names and texts in tables obey, with no program in sight. What tables of names obey, with no program in sight. Sorted by the library, each once: the same as by insertion. -/
import Derived.Test.YthccjimckjecjaaName
import Derived.Test.YthccjimckjecjaaPlace
import Derived.Lib.SlicesCompact
namespace Go.Proofs.Ythccjimckjecjaa
/-! PlainN -/
theorem nameB_blank (s : ByteArray) : nameB (s ++ ⟨#[32]⟩) = false := by
  have hs : (s ++ ⟨#[32]⟩ : ByteArray).size = s.size + 1 := by rw [ByteArray.size_append]; rfl
  unfold nameB
  rw [Bool.and_eq_false_iff]
  left
  rw [decide_eq_false_iff_not]
  intro h
  have h1 := h s.size (by omega)
  have h2 : (s ++ ⟨#[32]⟩ : ByteArray)[s.size]'(by omega) = 32 := by
    rw [ByteArray.getElem_append_right (by omega)]
    simp
    rfl
  rw [h2] at h1
  simp [charB, letterB, digitB] at h1
theorem nameB_first {s t : ByteArray} (h : nameB s = true) (h1 : t.size = 1) (h2 : ∀ (a : 0 < t.size) (b : 0 < s.size), t[0] = s[0]) : nameB t = true := by
  unfold nameB at h ⊢
  simp only [Bool.and_eq_true, decide_eq_true_eq] at h ⊢
  have hb := (withinB_iff _ _ _).1 h.2
  refine ⟨fun i hi => ?_, (withinB_iff _ _ _).2 (by omega)⟩
  obtain rfl : i = 0 := by omega
  rw [h2 hi (by omega)]
  exact h.1 0 (by omega)
theorem nameB_size {s : ByteArray} (h : nameB s = true) : 1 ≤ s.size ∧ s.size ≤ 8 := by
  unfold nameB at h
  rw [Bool.and_eq_true] at h
  have hb := (withinB_iff _ _ _).1 h.2
  omega
/-- What a text in a table is. -/
theorem textAt_some : ∀ {l s : List UInt8}, textAt l = some s → ∃ r, l = s ++ 0 :: r ∧ ∀ c ∈ s, c ≠ 0
  | [], s, h => by simp [textAt] at h
  | c :: l, s, h => by
    unfold textAt at h
    split at h
    · rename_i hc
      simp at h
      subst h hc
      exact ⟨l, rfl, fun c hc => by cases hc⟩
    · rename_i hc
      rw [Option.map_eq_some_iff] at h
      obtain ⟨s', hs, rfl⟩ := h
      obtain ⟨r, rfl, h2⟩ := textAt_some hs
      refine ⟨r, rfl, fun d hd => ?_⟩
      rcases List.mem_cons.1 hd with rfl | hd
      · exact hc
      · exact h2 d hd
theorem textAt_of : ∀ {s r : List UInt8}, (∀ c ∈ s, c ≠ 0) → textAt (s ++ 0 :: r) = some s
  | [], r, _ => by simp [textAt]
  | c :: s, r, h => by
    have h1 : c ≠ 0 := h c (by simp)
    rw [List.cons_append, textAt, if_neg h1, textAt_of (fun d hd => h d (by simp [hd]))]
    rfl
theorem nameAtL_rest {l : List UInt8} {a : Int} {c : UInt8} {s : List UInt8} (h : nameAtL l a = some (c :: s)) :
    nameAtL l (a + 1) = some s ∧ 0 ≤ a ∧ a + ((c :: s).length : Int) < l.length ∧ l[(a + ((c :: s).length : Int)).toNat]? = some 0 := by
  unfold nameAtL at h
  split at h
  · rename_i hw
    have hw := (withinB_iff _ _ _).1 hw
    obtain ⟨r, hr, hne⟩ := textAt_some h
    have hl : (l.drop a.toNat).length = (c :: s).length + 1 + r.length := by rw [hr]; simp; omega
    rw [List.length_drop] at hl
    simp only [List.length_cons] at hl ⊢
    have hd : l.drop (a + 1).toNat = s ++ 0 :: r := by
      rw [show (a + 1).toNat = a.toNat + 1 by omega, ← List.drop_drop, hr]; rfl
    refine ⟨?_, hw.1, by omega, ?_⟩
    · unfold nameAtL
      rw [if_pos ((withinB_iff _ _ _).2 (by omega)), hd]
      exact textAt_of fun d hd => hne d (by simp [hd])
    · have : (l.drop a.toNat)[s.length + 1]? = some 0 := by
        rw [hr, List.getElem?_append_right (by simp)]; simp
      rw [List.getElem?_drop] at this
      rw [← this]
      congr 1
      omega
  · cases h
/-! PlainT -/
/-- The order of texts by their bytes. -/
abbrev less := Op.bytesLess
theorem less_irrefl : ∀ a : List UInt8, less a a = false
  | [] => rfl
  | c :: r => by simp [less, Op.bytesLess, less_irrefl r]
theorem less_trans : ∀ {a b c : List UInt8}, less a b = true → less b c = true → less a c = true
  | _, _, [], _, h => by simp [less, Op.bytesLess] at h
  | _, [], _ :: _, h, _ => by simp [less, Op.bytesLess] at h
  | [], _ :: _, _ :: _, _, _ => rfl
  | x :: a, y :: b, z :: c, h1, h2 => by
    simp only [less, Op.bytesLess, Bool.or_eq_true, decide_eq_true_eq, Bool.and_eq_true, beq_iff_eq] at h1 h2 ⊢
    rcases h1 with h1 | ⟨rfl, h1⟩
    · rcases h2 with h2 | ⟨rfl, h2⟩
      · exact .inl (UInt8.lt_trans h1 h2)
      · exact .inl h1
    · rcases h2 with h2 | ⟨rfl, h2⟩
      · exact .inl h2
      · exact .inr ⟨rfl, less_trans h1 h2⟩
theorem less_total : ∀ {a b : List UInt8}, less a b = false → a = b ∨ less b a = true
  | [], [], _ => .inl rfl
  | _ :: _, [], _ => .inr rfl
  | [], _ :: _, h => by simp [less, Op.bytesLess] at h
  | x :: a, y :: b, h => by
    simp only [less, Op.bytesLess, Bool.or_eq_false_iff, decide_eq_false_iff_not, Bool.and_eq_false_iff, beq_eq_false_iff_ne] at h
    simp only [less, Op.bytesLess, Bool.or_eq_true, decide_eq_true_eq, Bool.and_eq_true, beq_iff_eq]
    by_cases e : x = y
    · subst e
      rcases less_total (h.2.resolve_left (by simp)) with h1 | h1
      · exact .inl (by rw [h1])
      · exact .inr (.inr ⟨rfl, h1⟩)
    · right; left
      have h1 := h.1
      rw [UInt8.lt_iff_toNat_lt] at h1 ⊢
      have : x.toNat ≠ y.toNat := fun h => e (UInt8.toNat_inj.1 h)
      omega
/-- Ascending, each once. -/
def Asc (l : List (List UInt8)) : Prop := l.Pairwise fun a b => less a b = true
theorem asc_ext : ∀ {l k : List (List UInt8)}, Asc l → Asc k → (∀ x, x ∈ l ↔ x ∈ k) → l = k
  | [], [], _, _, _ => rfl
  | [], y :: k, _, _, h => by have := (h y).2 (by simp); cases this
  | x :: l, [], _, _, h => by have := (h x).1 (by simp); cases this
  | x :: l, y :: k, hl, hk, h => by
    have h1 := List.pairwise_cons.1 hl
    have h2 := List.pairwise_cons.1 hk
    have e : x = y := by
      rcases List.mem_cons.1 ((h x).1 (by simp)) with e | hx
      · exact e
      rcases List.mem_cons.1 ((h y).2 (by simp)) with e | hy
      · exact e.symm
      have a := h2.1 x hx
      have b := h1.1 y hy
      have := less_trans a b
      rw [less_irrefl] at this
      cases this
    subst e
    congr 1
    refine asc_ext h1.2 h2.2 fun z => ?_
    constructor
    · intro hz
      rcases List.mem_cons.1 ((h z).1 (by simp [hz])) with e | hz'
      · subst e; have := h1.1 z hz; rw [less_irrefl] at this; cases this
      · exact hz'
    · intro hz
      rcases List.mem_cons.1 ((h z).2 (by simp [hz])) with e | hz'
      · subst e; have := h2.1 z hz; rw [less_irrefl] at this; cases this
      · exact hz'
/-- A text put into an ascending list, once. -/
def insS (s : List UInt8) : List (List UInt8) → List (List UInt8)
  | [] => [s]
  | x :: r => if less x s = true then x :: insS s r else if x = s then x :: r else s :: x :: r
theorem mem_insS (s x : List UInt8) : ∀ l, x ∈ insS s l ↔ x = s ∨ x ∈ l
  | [] => by simp [insS]
  | y :: r => by
    have ih := mem_insS s x r
    unfold insS
    split
    · simp only [List.mem_cons, ih]; constructor
      · rintro (h | h | h) <;> simp [h]
      · rintro (h | h | h) <;> simp [h]
    · split
      · rename_i h; subst h; simp
      · simp
theorem insS_asc (s : List UInt8) : ∀ {l}, Asc l → Asc (insS s l)
  | [], _ => by simp [insS, Asc]
  | y :: r, h => by
    have h1 := List.pairwise_cons.1 h
    unfold insS
    split
    · rename_i hy
      refine List.pairwise_cons.2 ⟨fun z hz => ?_, insS_asc s h1.2⟩
      rcases (mem_insS s z r).1 hz with rfl | hz
      · exact hy
      · exact h1.1 z hz
    · rename_i hy
      split
      · exact h
      · rename_i hne
        have hs : less s y = true := (less_total (by simpa using hy)).resolve_left hne
        refine List.pairwise_cons.2 ⟨fun z hz => ?_, h⟩
        rcases List.mem_cons.1 hz with rfl | hz
        · exact hs
        · exact less_trans hs (h1.1 z hz)
/-- Texts by their bytes, each once. -/
def sortS (l : List (List UInt8)) : List (List UInt8) := l.foldl (fun a s => insS s a) []
theorem foldl_ins (l : List (List UInt8)) : ∀ a, Asc a → Asc (l.foldl (fun a s => insS s a) a) ∧ ∀ x, x ∈ l.foldl (fun a s => insS s a) a ↔ x ∈ a ∨ x ∈ l := by
  induction l with
  | nil => intro a h; exact ⟨h, fun x => by simp⟩
  | cons s r ih =>
    intro a h
    obtain ⟨h1, h2⟩ := ih _ (insS_asc s h)
    refine ⟨h1, fun x => ?_⟩
    rw [List.foldl_cons, h2, mem_insS, List.mem_cons]
    constructor
    · rintro ((h | h) | h) <;> simp [h]
    · rintro (h | h | h) <;> simp [h]
theorem sortS_asc (l : List (List UInt8)) : Asc (sortS l) := (foldl_ins l [] List.Pairwise.nil).1
theorem mem_sortS (l : List (List UInt8)) (x : List UInt8) : x ∈ sortS l ↔ x ∈ l := by
  have := (foldl_ins l [] List.Pairwise.nil).2 x
  simpa [sortS] using this
theorem sortS_eq {l k : List (List UInt8)} (hk : Asc k) (h : ∀ x, x ∈ k ↔ x ∈ l) : k = sortS l :=
  asc_ext hk (sortS_asc l) fun x => (h x).trans (mem_sortS l x).symm
theorem sortS_congr {l k : List (List UInt8)} (h : ∀ x, x ∈ k ↔ x ∈ l) : sortS k = sortS l :=
  sortS_eq (sortS_asc k) fun x => (mem_sortS k x).trans (h x)
theorem sortS_snoc (l : List (List UInt8)) (s : List UInt8) : sortS (l ++ [s]) = insS s (sortS l) := by simp [sortS]
theorem insS_length (s : List UInt8) : ∀ l, (insS s l).length ≤ l.length + 1
  | [] => by simp [insS]
  | y :: r => by
    have := insS_length s r
    unfold insS
    split
    · simp; omega
    · split <;> simp
theorem sortS_length (l : List (List UInt8)) : (sortS l).length ≤ l.length := by
  suffices h : ∀ (l a : List (List UInt8)), (l.foldl (fun a s => insS s a) a).length ≤ a.length + l.length by simpa [sortS] using h l []
  intro l
  induction l with
  | nil => intro a; simp
  | cons s r ih => intro a; have := ih (insS s a); have := insS_length s a; simp only [List.foldl_cons, List.length_cons]; omega

/-- Whether a text is the end of another one of a list. -/
def endB (l : List (List UInt8)) (s : List UInt8) : Bool := l.any fun x => decide (x ≠ s) && s.isSuffixOf x
theorem endB_iff (l : List (List UInt8)) (s : List UInt8) : endB l s = true ↔ ∃ x ∈ l, x ≠ s ∧ s <:+ x := by
  simp [endB]
/-- The texts of a list that are no end, each with a byte 0 behind it. -/
def tabBody (all : List (List UInt8)) : List (List UInt8) → List UInt8
  | [] => []
  | s :: r => (if endB all s then [] else s ++ [0]) ++ tabBody all r
theorem tabBody_append (all : List (List UInt8)) : ∀ l k, tabBody all (l ++ k) = tabBody all l ++ tabBody all k
  | [], k => rfl
  | s :: r, k => by simp [tabBody, tabBody_append all r k]
/-- The table of sorted texts. -/
def tabOf (l : List (List UInt8)) : List UInt8 := 0 :: tabBody l l
theorem tabBody_length (all : List (List UInt8)) (h : ∀ s ∈ all, s.length ≤ 8) : ∀ l, (∀ s ∈ l, s ∈ all) → (tabBody all l).length ≤ 9 * l.length
  | [], _ => by simp [tabBody]
  | s :: r, hl => by
    have ih := tabBody_length all h r fun x hx => hl x (by simp [hx])
    have := h s (hl s (by simp))
    simp only [tabBody, List.length_append, List.length_cons]
    split <;> simp <;> omega
theorem tabBody_congr {a b : List (List UInt8)} (h : ∀ s, endB a s = endB b s) : ∀ l, tabBody a l = tabBody b l
  | [] => rfl
  | s :: r => by simp [tabBody, h s, tabBody_congr h r]
/-- A text that ends nothing stands in the table. -/
theorem tabBody_mem {all : List (List UInt8)} {s : List UInt8} (h : endB all s = false) : ∀ {l}, s ∈ l → ∃ a b, tabBody all l = a ++ s ++ 0 :: b
  | x :: r, hx => by
    rcases List.mem_cons.1 hx with rfl | hx
    · exact ⟨[], tabBody all r, by simp [tabBody, h]⟩
    · obtain ⟨a, b, e⟩ := tabBody_mem h hx
      exact ⟨(if endB all x then [] else x ++ [0]) ++ a, b, by simp [tabBody, e]⟩
/-- Each text is the end of one that ends nothing. -/
theorem end_of {all : List (List UInt8)} (hb : ∀ s ∈ all, s.length ≤ 8) : ∀ (n : Nat) (s : List UInt8), s ∈ all → 8 ≤ s.length + n → ∃ x ∈ all, s <:+ x ∧ endB all x = false
  | n, s, hs, hn => by
    cases he : endB all s with
    | false => exact ⟨s, hs, List.suffix_refl s, he⟩
    | true =>
      obtain ⟨x, hx, hne, hsuf⟩ := (endB_iff _ _).1 he
      have hlt : s.length < x.length := by
        rcases Nat.lt_or_ge s.length x.length with h | h
        · exact h
        · exact absurd (hsuf.eq_of_length_le h).symm hne
      have hx8 := hb x hx
      cases n with
      | zero => omega
      | succ n =>
        obtain ⟨y, hy, h1, h2⟩ := end_of hb n x hx (by omega)
        exact ⟨y, hy, hsuf.trans h1, h2⟩
theorem placeOf_found {l nm : List UInt8} {k : Nat} (hk : k < l.length) (h : nameAtL l (k : Int) = some nm) : nameAtL l (placeOf l nm) = some nm ∧ 0 ≤ placeOf l nm := by
  unfold placeOf
  cases hf : (List.range l.length).find? (fun i : Nat => decide (nameAtL l (i : Int) = some nm)) with
  | none =>
    rw [List.find?_eq_none] at hf
    have := hf k (List.mem_range.2 hk)
    simp [h] at this
  | some i =>
    have := List.find?_some hf
    exact ⟨by simpa using this, by simp⟩
/-- The table has each of its texts. -/
theorem tab_has {all : List (List UInt8)} (hb : ∀ s ∈ all, s.length ≤ 8) (hz : ∀ s ∈ all, ∀ c ∈ s, c ≠ 0) {s : List UInt8} (hs : s ∈ all) :
    nameAtL (tabOf all) (placeOf (tabOf all) s) = some s ∧ 0 ≤ placeOf (tabOf all) s := by
  obtain ⟨x, hx, ⟨p, hp⟩, he⟩ := end_of hb 8 s hs (by omega)
  obtain ⟨a, b, e⟩ := tabBody_mem he hx
  have ht : tabOf all = (0 :: a ++ p) ++ (s ++ 0 :: b) := by
    unfold tabOf
    rw [e, ← hp]
    simp
  have hlt : (0 :: a ++ p).length < (tabOf all).length := by rw [ht]; simp; omega
  refine placeOf_found (k := (0 :: a ++ p).length) hlt ?_
  unfold nameAtL
  rw [if_pos ((withinB_iff _ _ _).2 ⟨by omega, by omega⟩), Int.toNat_natCast, ht, List.drop_left]
  exact textAt_of (hz s hs)
/-- An end of a text of the table, put in, changes nothing. -/
theorem tab_end {l : List (List UInt8)} {x e : List UInt8} (hx : x ∈ l) (he : e <:+ x) (hne : e.length < x.length) : tabOf (sortS (l ++ [e])) = tabOf (sortS l) := by
  have hmem : ∀ y, y ∈ sortS (l ++ [e]) ↔ y = e ∨ y ∈ l := by intro y; rw [mem_sortS]; simp [or_comm]
  have hE : ∀ s, endB (sortS (l ++ [e])) s = endB (sortS l) s := by
    intro s
    rw [Bool.eq_iff_iff, endB_iff, endB_iff]
    constructor
    · rintro ⟨y, hy, h1, h2⟩
      rcases (hmem y).1 hy with rfl | hy
      · refine ⟨x, (mem_sortS _ _).2 hx, ?_, h2.trans he⟩
        rintro rfl
        have := h2.length_le
        omega
      · exact ⟨y, (mem_sortS _ _).2 hy, h1, h2⟩
    · rintro ⟨y, hy, h1, h2⟩
      exact ⟨y, (hmem y).2 (.inr ((mem_sortS _ _).1 hy)), h1, h2⟩
  have hEe : endB (sortS l) e = true := (endB_iff _ _).2 ⟨x, (mem_sortS _ _).2 hx, by rintro rfl; omega, he⟩
  unfold tabOf
  rw [tabBody_congr hE, sortS_snoc]
  congr 1
  suffices h : ∀ k, tabBody (sortS l) (insS e k) = tabBody (sortS l) k from h _
  intro k
  induction k with
  | nil => simp [insS, tabBody, hEe]
  | cons y r ih =>
    unfold insS
    split
    · simp [tabBody, ih]
    · split
      · rfl
      · simp [tabBody, hEe]
/-- A text put into a list of texts, once. -/
def insB (s : ByteArray) : List ByteArray → List ByteArray
  | [] => [s]
  | x :: r => if less (bytesS x) (bytesS s) = true then x :: insB s r else if bytesS x = bytesS s then x :: r else s :: x :: r
theorem insB_map (s : ByteArray) : ∀ l, (insB s l).map bytesS = insS (bytesS s) (l.map bytesS)
  | [] => rfl
  | x :: r => by
    simp only [insB, List.map_cons, insS]
    split
    · simp [insB_map s r]
    · split <;> simp
theorem insB_same (s : ByteArray) : ∀ (l : List ByteArray) (k : Nat) (hk : k < l.length), (∀ j (hj : j < k), less (bytesS (l[j]'(by omega))) (bytesS s) = true) → less (bytesS l[k]) (bytesS s) = false → bytesS l[k] = bytesS s → insB s l = l
  | [], k, hk, _, _, _ => by simp at hk
  | x :: r, 0, _, _, h1, h2 => by
    have h1' : less (bytesS x) (bytesS s) = false := h1
    have h2' : bytesS x = bytesS s := h2
    rw [insB, if_neg (by rw [h1']; simp), if_pos h2']
  | x :: r, k + 1, hk, h, h1, h2 => by
    have h0 : less (bytesS x) (bytesS s) = true := h 0 (by omega)
    have ih := insB_same s r k (by simpa using hk) (fun j hj => h (j + 1) (by omega)) h1 h2
    simp [insB, h0, ih]
theorem insB_new (s : ByteArray) : ∀ (l : List ByteArray) (k : Nat) (hk : k ≤ l.length), (∀ j (hj : j < k), less (bytesS (l[j]'(by omega))) (bytesS s) = true) → (∀ h : k < l.length, less (bytesS l[k]) (bytesS s) = false ∧ bytesS l[k] ≠ bytesS s) → insB s l = l.take k ++ [s] ++ l.drop k
  | [], k, hk, _, _ => by simp [insB]
  | x :: r, 0, _, _, h => by
    have h1 : less (bytesS x) (bytesS s) = false := (h (by simp)).1
    have h2 : bytesS x ≠ bytesS s := (h (by simp)).2
    simp [insB, h1, h2]
  | x :: r, k + 1, hk, h, h1 => by
    have h0 : less (bytesS x) (bytesS s) = true := h 0 (by omega)
    have ih := insB_new s r k (by simpa using hk) (fun j hj => h (j + 1) (by omega)) (fun h' => h1 (by simpa using h'))
    simp [insB, h0, ih]
def sortB (l : List ByteArray) : List ByteArray := l.foldl (fun a s => insB s a) []
theorem sortB_map (l : List ByteArray) : (sortB l).map bytesS = sortS (l.map bytesS) := by
  unfold sortB sortS
  suffices h : ∀ (l a : List ByteArray), (l.foldl (fun a s => insB s a) a).map bytesS = (l.map bytesS).foldl (fun a s => insS s a) (a.map bytesS) from h l []
  intro l
  induction l with
  | nil => intro a; rfl
  | cons s r ih => intro a; rw [List.foldl_cons, ih, insB_map]; rfl
theorem sortB_snoc (l : List ByteArray) (s : ByteArray) : sortB (l ++ [s]) = insB s (sortB l) := by simp [sortB]
theorem insB_length (s : ByteArray) : ∀ l, (insB s l).length ≤ l.length + 1
  | [] => by simp [insB]
  | y :: r => by
    have := insB_length s r
    unfold insB
    split
    · simp; omega
    · split <;> simp
theorem sortB_length (l : List ByteArray) : (sortB l).length ≤ l.length := by
  suffices h : ∀ (l a : List ByteArray), (l.foldl (fun a s => insB s a) a).length ≤ a.length + l.length by simpa [sortB] using h l []
  intro l
  induction l with
  | nil => intro a; simp
  | cons s r ih => intro a; have := ih (insB s a); have := insB_length s a; simp only [List.foldl_cons, List.length_cons]; omega
theorem mem_insB (s x : ByteArray) : ∀ l, x ∈ insB s l → x = s ∨ x ∈ l
  | [], h => by simp [insB] at h; exact .inl h
  | y :: r, h => by
    unfold insB at h
    split at h
    · rcases List.mem_cons.1 h with rfl | h
      · exact .inr (by simp)
      · rcases mem_insB s x r h with h | h
        · exact .inl h
        · exact .inr (by simp [h])
    · split at h
      · exact .inr h
      · rcases List.mem_cons.1 h with h | h
        · exact .inl h
        · exact .inr h
theorem mem_sortB (l : List ByteArray) (x : ByteArray) (h : x ∈ sortB l) : x ∈ l := by
  suffices H : ∀ (l a : List ByteArray), x ∈ l.foldl (fun a s => insB s a) a → x ∈ a ∨ x ∈ l by simpa using H l [] h
  intro l
  induction l with
  | nil => intro a h; exact .inl h
  | cons s r ih =>
    intro a h
    rcases ih _ h with h | h
    · rcases mem_insB s x a h with rfl | h
      · exact .inr (by simp)
      · exact .inl h
    · exact .inr (by simp [h])
/-- Whether one of the first j texts of an ascending list, but not the k-th, ends with the k-th. -/
def endUp (L : List (List UInt8)) (k j : Nat) : Bool := (List.range j).any fun i => decide (i ≠ k) && (L.getD k []).isSuffixOf (L.getD i [])
theorem endUp_succ (L : List (List UInt8)) (k j : Nat) : endUp L k (j + 1) = (endUp L k j || (decide (j ≠ k) && (L.getD k []).isSuffixOf (L.getD j []))) := by
  simp [endUp, List.range_succ]
theorem endUp_all {L : List (List UInt8)} (h : Asc L) {k : Nat} (hk : k < L.length) : endUp L k L.length = endB L L[k] := by
  rw [Bool.eq_iff_iff]
  have hg : L.getD k [] = L[k] := by simp [List.getD, List.getElem?_eq_getElem hk]
  simp only [endUp, endB, List.any_eq_true, List.mem_range, Bool.and_eq_true, decide_eq_true_eq, hg]
  constructor
  · rintro ⟨i, hi, hne, hs⟩
    have hgi : L.getD i [] = L[i] := by simp [List.getD, List.getElem?_eq_getElem hi]
    rw [hgi] at hs
    refine ⟨L[i], List.getElem_mem hi, ?_, hs⟩
    intro e
    rcases Nat.lt_or_gt_of_ne hne with h1 | h1
    · have := (List.pairwise_iff_getElem.1 h) i k hi hk h1
      rw [e, less_irrefl] at this
      cases this
    · have := (List.pairwise_iff_getElem.1 h) k i hk hi h1
      rw [e, less_irrefl] at this
      cases this
  · rintro ⟨x, hx, hne, hs⟩
    obtain ⟨i, hi, rfl⟩ := List.getElem_of_mem hx
    refine ⟨i, hi, fun e => hne (by subst e; rfl), ?_⟩
    simpa [List.getD, List.getElem?_eq_getElem hi] using hs
/-! PlainC -/
set_option linter.unusedSimpArgs false
set_option linter.unusedVariables false
theorem lt_less : ∀ {a b : List UInt8}, a < b ↔ less a b = true
  | a, [] => by cases a <;> simp [less, Op.bytesLess]
  | [], y :: b => by simp [less, Op.bytesLess]
  | x :: a, y :: b => by
    rw [List.cons_lt_cons_iff, lt_less (a := a) (b := b)]
    simp [less, Op.bytesLess]
theorem le_less {a b : List UInt8} : a ≤ b ↔ less b a = false := by
  show ¬ b < a ↔ _
  rw [lt_less]
  simp
theorem le_cases {a b : List UInt8} (h : less b a = false) : a = b ∨ less a b = true := by
  rcases less_total h with h | h
  · exact .inl h.symm
  · exact .inr h
theorem compactUpTo_sorted (d : Array (List UInt8)) (h : ∀ i j, i < j → j < d.size → less d[j]! d[i]! = false) : ∀ m, m ≤ d.size → Asc (Lib.compactUpTo d m) ∧ ∀ x, x ∈ Lib.compactUpTo d m ↔ ∃ j, j < m ∧ d[j]! = x
  | 0, _ => by simp [Lib.compactUpTo, Asc]
  | m + 1, hm => by
    obtain ⟨h1, h2⟩ := compactUpTo_sorted d h m (by omega)
    rw [Lib.compactUpTo_succ]
    cases hk : Lib.keeps d m
    · simp only [Bool.false_eq_true, if_false, List.append_nil]
      refine ⟨h1, fun x => ?_⟩
      rw [h2]
      have hk' : ¬ (m = 0 ∨ d[m]! ≠ d[m - 1]!) := by simpa [Lib.keeps] using hk
      have hm0 : m ≠ 0 := fun e => hk' (.inl e)
      have he : d[m]! = d[m - 1]! := Classical.byContradiction fun e => hk' (.inr e)
      constructor
      · rintro ⟨j, hj, e⟩; exact ⟨j, by omega, e⟩
      · rintro ⟨j, hj, e⟩
        by_cases hjm : j < m
        · exact ⟨j, hjm, e⟩
        · obtain rfl : j = m := by omega
          exact ⟨j - 1, by omega, by rw [← he]; exact e⟩
    · simp only [if_true]
      have hk' : m = 0 ∨ d[m]! ≠ d[m - 1]! := by simpa [Lib.keeps] using hk
      refine ⟨List.pairwise_append.2 ⟨h1, by simp, fun a ha b hb => ?_⟩, fun x => ?_⟩
      · obtain rfl := List.mem_singleton.1 hb
        obtain ⟨j, hj, rfl⟩ := (h2 a).1 ha
        have hne : d[m]! ≠ d[m - 1]! := hk'.resolve_left (by omega)
        have h3 : less d[m - 1]! d[m]! = true := (le_cases (h (m - 1) m (by omega) (by omega))).resolve_left (Ne.symm hne)
        by_cases hjm : j = m - 1
        · rw [hjm]; exact h3
        · rcases le_cases (h j (m - 1) (by omega) (by omega)) with e | e
          · rw [e]; exact h3
          · exact less_trans e h3
      · rw [List.mem_append, h2, List.mem_singleton]
        constructor
        · rintro (⟨j, hj, e⟩ | e)
          · exact ⟨j, by omega, e⟩
          · exact ⟨m, by omega, e.symm⟩
        · rintro ⟨j, hj, e⟩
          by_cases hjm : j < m
          · exact .inl ⟨j, hjm, e⟩
          · obtain rfl : j = m := by omega
            exact .inr e.symm
theorem get_bang (zs : List (List UInt8)) (j : Nat) (hj : j < zs.length) : zs.toArray[j]! = zs[j] := by simp [hj]
theorem compact_sorted (zs : List (List UInt8)) (h : zs.Pairwise fun a b => less b a = false) : Asc (Lib.compact zs) ∧ ∀ x, x ∈ Lib.compact zs ↔ x ∈ zs := by
  have h0 := compactUpTo_sorted zs.toArray (fun i j hij hj => by
    have hj' : j < zs.length := by simpa using hj
    rw [get_bang zs j hj', get_bang zs i (by omega)]
    exact List.pairwise_iff_getElem.1 h i j (by omega) hj' hij) zs.length (by simp)
  refine ⟨h0.1, fun x => ?_⟩
  unfold Lib.compact
  rw [h0.2]
  constructor
  · rintro ⟨j, hj, e⟩
    rw [get_bang zs j hj] at e
    exact e ▸ List.getElem_mem hj
  · intro hx
    obtain ⟨j, hj, e⟩ := List.getElem_of_mem hx
    exact ⟨j, hj, by rw [get_bang zs j hj]; exact e⟩
theorem less_trans_le {a b c : List UInt8} (h1 : less b a = false) (h2 : less c b = false) : less c a = false := by
  cases h : less c a with
  | false => rfl
  | true =>
    rcases le_cases h2 with e | e
    · subst e; rw [h] at h1; cases h1
    · have := less_trans e h; rw [this] at h1; cases h1
/-- The library's way: sorted, then each once. -/
theorem sort_compact (zs : List (List UInt8)) : Lib.compact (zs.mergeSort fun x y => decide (x ≤ y)) = sortS zs := by
  have hp := List.pairwise_mergeSort (le := fun x y : List UInt8 => decide (x ≤ y)) (fun a b c h1 h2 => by
    simp only [decide_eq_true_eq, le_less] at h1 h2 ⊢
    exact less_trans_le h1 h2) (fun a b => by
    simp only [Bool.or_eq_true, decide_eq_true_eq, le_less]
    cases h : less b a with
    | false => exact .inl rfl
    | true =>
      right
      cases h2 : less a b with
      | false => rfl
      | true => have := less_trans h h2; rw [less_irrefl] at this; cases this) zs
  have h := compact_sorted (zs.mergeSort fun x y => decide (x ≤ y)) (hp.imp fun h => by simpa [le_less] using h)
  exact sortS_eq h.1 fun x => (h.2 x).trans List.mem_mergeSort
end Go.Proofs.Ythccjimckjecjaa
