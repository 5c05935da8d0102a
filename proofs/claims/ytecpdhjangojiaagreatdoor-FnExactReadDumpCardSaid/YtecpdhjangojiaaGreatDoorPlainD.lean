/- Dumps of objects, plain: lines, their words, and what reading makes of them. -/
import Derived.Test.YtecpdhjangojiaaGreatDoorPlainR
import Derived.Test.YtecpdhjangojiaaGreatDoorPlainB
import Derived.Lib.AtoiAll
import Derived.Lib.AtoiAllCases
import Derived.Lib.ItoaNum
namespace Go.Proofs.YtecpdhjangojiaaGreatDoor
open Go.RowKit
set_option linter.unusedSimpArgs false
set_option linter.unusedVariables false
/-- A text of bytes. -/
def txt (l : List UInt8) : ByteArray := ⟨l.toArray⟩
theorem bytesS_txt (l : List UInt8) : bytesS (txt l) = l := by simp [bytesS, txt]
theorem txt_bytesS (s : ByteArray) : txt (bytesS s) = s := by cases s; simp [bytesS, txt]
theorem txt_inj {a b : List UInt8} (h : txt a = txt b) : a = b := by have := congrArg bytesS h; rwa [bytesS_txt, bytesS_txt] at this
/-- Words, each with a space ahead. -/
def spaced : List (List UInt8) → List UInt8
  | [] => []
  | x :: r => 32 :: (x ++ spaced r)
theorem spaced_append : ∀ a b, spaced (a ++ b) = spaced a ++ spaced b
  | [], b => rfl
  | x :: r, b => by simp [spaced, spaced_append r b]
def lineOf (w : List UInt8) (ws : List (List UInt8)) : List UInt8 := w ++ spaced ws
@[reducible] def secT : List UInt8 := [115, 101, 99, 116, 105, 111, 110]
@[reducible] def fixT : List UInt8 := [102, 105, 120, 117, 112]
@[reducible] def symT : List UInt8 := [115, 121, 109, 98, 111, 108]
def secWords (s : SecD) : List (List UInt8) := [bytesS s.name, Lib.itoa s.kind, Lib.itoa s.align, Lib.itoa (sectionSize s)] ++ (if s.bytes = [] then [] else [hexText s.bytes])
def fixWords (f : FixD) : List (List UInt8) := [Lib.itoa f.1, Lib.itoa f.2.1, Lib.itoa f.2.2.1, Lib.itoa f.2.2.2]
def symWords (s : SymD) : List (List UInt8) := [bytesS s.name, Lib.itoa s.bind, Lib.itoa s.whr, Lib.itoa s.val]
def secLine (s : SecD) : List UInt8 := lineOf secT (secWords s)
def fixLine (f : FixD) : List UInt8 := lineOf fixT (fixWords f)
def symLine (s : SymD) : List UInt8 := lineOf symT (symWords s)
def secDump (s : SecD) : List (List UInt8) := secLine s :: s.fix.map fixLine
/-- The lines of an object. -/
def dumpL (o : ObjD) : List (List UInt8) := if objB o = true then o.secs.flatMap secDump ++ o.syms.map symLine else []
/-- The words of a line. -/
def wordsL : List UInt8 → List (List UInt8)
  | [] => [[]]
  | c :: r => if c = 32 then [] :: wordsL r else match wordsL r with
    | [] => [[c]]
    | x :: q => (c :: x) :: q
theorem wordsL_ne : ∀ l, wordsL l ≠ []
  | [] => by simp [wordsL]
  | c :: r => by
    unfold wordsL
    split
    · simp
    · split <;> simp
theorem wordsL_word : ∀ (w r : List UInt8), (32 : UInt8) ∉ w → ∀ x q, wordsL r = x :: q → wordsL (w ++ r) = (w ++ x) :: q
  | [], r, _, x, q, h => h
  | c :: w, r, hw, x, q, h => by
    simp only [List.mem_cons, not_or] at hw
    have ih := wordsL_word w r hw.2 x q h
    rw [List.cons_append]
    unfold wordsL
    rw [if_neg (Ne.symm hw.1), ih]
    rfl
theorem wordsL_line : ∀ (ws : List (List UInt8)) (w : List UInt8), (32 : UInt8) ∉ w → (∀ x ∈ ws, (32 : UInt8) ∉ x) → wordsL (lineOf w ws) = w :: ws
  | [], w, hw, _ => by
    unfold lineOf spaced
    have := wordsL_word w [] hw [] [] rfl
    simpa using this
  | y :: ws, w, hw, h => by
    have ih := wordsL_line ws y (h y (List.mem_cons_self ..)) fun x hx => h x (List.mem_cons_of_mem _ hx)
    unfold lineOf at ih ⊢
    have e : wordsL (spaced (y :: ws)) = [] :: (y :: ws) := by
      unfold spaced wordsL
      rw [if_pos rfl, ih]
    have := wordsL_word w _ hw _ _ e
    simpa using this
/-- A word that is a number. -/
def atoiO (l : List UInt8) : Option Int := match Lib.atoiAll l with
  | .ok v => some v
  | _ => none
def addSec (o : ObjD) (n a b c h : List UInt8) : Option ObjD := match atoiO a, atoiO b, atoiO c, readHexL h with
  | some x, some y, some z, some bs => some ⟨o.secs ++ [⟨txt n, x, y, bs, if x = 3 then z else 0, []⟩], o.syms⟩
  | _, _, _, _ => none
def addLast (l : List SecD) (f : FixD) : List SecD := match l.getLast? with
  | none => l
  | some s => l.dropLast ++ [⟨s.name, s.kind, s.align, s.bytes, s.size, s.fix ++ [f]⟩]
def addFix (o : ObjD) (n a b c : List UInt8) : Option ObjD := match atoiO n, atoiO a, atoiO b, atoiO c with
  | some x, some y, some z, some t => if o.secs = [] then none else some ⟨addLast o.secs (x, y, z, t), o.syms⟩
  | _, _, _, _ => none
def addSym (o : ObjD) (n a b c : List UInt8) : Option ObjD := match atoiO a, atoiO b, atoiO c with
  | some x, some y, some z => some ⟨o.secs, o.syms ++ [⟨txt n, x, y, z⟩]⟩
  | _, _, _ => none
/-- What the program makes of words. -/
def wordsI (o : ObjD) : List (List UInt8) → Option ObjD
  | [w, n, a, b, c, h] => if w = secT then addSec o n a b c h else none
  | [w, n, a, b, c] => if w = secT then addSec o n a b c [] else if w = fixT then addFix o n a b c else if w = symT then addSym o n a b c else none
  | _ => none
/-- What the program makes of a line. -/
def lineI (o : ObjD) (l : List UInt8) : Option ObjD := wordsI o (wordsL l)
/-- Digits, with a sign at most ahead, as the reference reads them. -/
def digitsS : List UInt8 → Nat → Int → Option Int
  | [], _, n => some n
  | c :: r, k, n => if c = 45 ∧ k = 0 then digitsS r (k + 1) n else if c < 48 ∨ 57 < c ∨ 5 < k then none else digitsS r (k + 1) (10 * n + (c.toNat - 48 : Int))
def signS (l : List UInt8) (n : Int) : Int := if l.head? = some 45 then -n else n
/-- A number that the reference reads. -/
def readN (l : List UInt8) : Int := match digitsS l 0 0 with
  | none => 99999
  | some n => if Lib.itoa (signS l n) = l then signS l n else 99999
def addSecS (o : ObjD) (n a b c h : List UInt8) : ObjD := ⟨o.secs ++ [⟨txt n, readN a, readN b, (readHexL h).getD [], if readN a = 3 then readN c else 0, []⟩], o.syms⟩
/-- What the reference makes of words. -/
def wordsS (o : ObjD) : List (List UInt8) → Option ObjD
  | [w, n, a, b, c, h] => if w = secT then some (addSecS o n a b c h) else none
  | [w, n, a, b, c] => if w = secT then some (addSecS o n a b c []) else if w = fixT ∧ o.secs ≠ [] then some ⟨addLast o.secs (readN n, readN a, readN b, readN c), o.syms⟩ else if w = symT then some ⟨o.secs, o.syms ++ [⟨txt n, readN a, readN b, readN c⟩]⟩ else none
  | _ => none
def lineS (o : ObjD) (l : List UInt8) : Option ObjD := wordsS o (wordsL l)
/-- Lines, one after another. -/
def readF (f : ObjD → List UInt8 → Option ObjD) : ObjD → List (List UInt8) → Option ObjD
  | o, [] => some o
  | o, l :: r => match f o l with
    | none => none
    | some o' => readF f o' r
theorem readF_cons (f : ObjD → List UInt8 → Option ObjD) (o : ObjD) (l : List UInt8) (r : List (List UInt8)) : readF f o (l :: r) = match f o l with
    | none => none
    | some o' => readF f o' r := rfl
theorem readF_append (f : ObjD → List UInt8 → Option ObjD) : ∀ (a b : List (List UInt8)) (o o' : ObjD), readF f o a = some o' → readF f o (a ++ b) = readF f o' b
  | [], b, o, o', h => by simp only [readF, Option.some.injEq] at h; subst h; rfl
  | l :: a, b, o, o', h => by
    rw [List.cons_append]
    rw [readF_cons] at h ⊢
    split at h
    · cases h
    · exact readF_append f a b _ o' h
theorem readF_none (f : ObjD → List UInt8 → Option ObjD) : ∀ (a b : List (List UInt8)) (o : ObjD), readF f o a = none → readF f o (a ++ b) = none
  | [], b, o, h => by simp [readF] at h
  | l :: a, b, o, h => by
    rw [List.cons_append]
    rw [readF_cons] at h ⊢
    split
    · rfl
    · rename_i o' h2
      rw [h2] at h
      exact readF_none f a b o' h
/-- A reader that reads lines of valid parts. -/
structure Reads1 (f : ObjD → List UInt8 → Option ObjD) : Prop where
  sec : ∀ (o : ObjD) (s : SecD) (m : Int), SecOk s m → f o (secLine s) = some ⟨o.secs ++ [⟨s.name, s.kind, s.align, s.bytes, s.size, []⟩], o.syms⟩
  fix : ∀ (S : List SecD) (s : SecD) (Y : List SymD) (x : FixD) (m : Int), FixOk x m 48 → m ≤ 1000 → f ⟨S ++ [s], Y⟩ (fixLine x) = some ⟨S ++ [⟨s.name, s.kind, s.align, s.bytes, s.size, s.fix ++ [x]⟩], Y⟩
  sym : ∀ (o : ObjD) (s : SymD) (S : List SecD), SymOk s S → S.length ≤ 1000 → f o (symLine s) = some ⟨o.secs, o.syms ++ [s]⟩
theorem Reads1.fixes {f : ObjD → List UInt8 → Option ObjD} (h : Reads1 f) (S : List SecD) (Y : List SymD) (m : Int) (hm : m ≤ 1000) : ∀ (l : List FixD) (s : SecD), (∀ x ∈ l, FixOk x m 48) → readF f ⟨S ++ [s], Y⟩ (l.map fixLine) = some ⟨S ++ [⟨s.name, s.kind, s.align, s.bytes, s.size, s.fix ++ l⟩], Y⟩
  | [], s, _ => by simp [readF]
  | x :: l, s, hl => by
    rw [List.map_cons]
    unfold readF
    rw [h.fix S s Y x m (hl x (List.mem_cons_self ..)) hm]
    simp only
    rw [h.fixes S Y m hm l _ fun y hy => hl y (List.mem_cons_of_mem _ hy)]
    simp
theorem Reads1.secs {f : ObjD → List UInt8 → Option ObjD} (h : Reads1 f) (m : Int) (hm : m ≤ 1000) : ∀ (l S : List SecD) (Y : List SymD), (∀ s ∈ l, SecOk s m) → readF f ⟨S, Y⟩ (l.flatMap secDump) = some ⟨S ++ l, Y⟩
  | [], S, Y, _ => by simp [readF]
  | s :: l, S, Y, hl => by
    have hs := hl s (List.mem_cons_self ..)
    rw [List.flatMap_cons]
    have e : readF f ⟨S, Y⟩ (secDump s) = some ⟨S ++ [s], Y⟩ := by
      unfold secDump readF
      rw [h.sec ⟨S, Y⟩ s m hs]
      simp only
      rw [h.fixes S Y m hm s.fix _ hs.fix]
      simp
    rw [readF_append f _ _ _ _ e, h.secs m hm l (S ++ [s]) Y fun y hy => hl y (List.mem_cons_of_mem _ hy)]
    simp
theorem Reads1.syms {f : ObjD → List UInt8 → Option ObjD} (h : Reads1 f) (T : List SecD) (hT : T.length ≤ 1000) : ∀ (l : List SymD) (S : List SecD) (Y : List SymD), (∀ s ∈ l, SymOk s T) → readF f ⟨S, Y⟩ (l.map symLine) = some ⟨S, Y ++ l⟩
  | [], S, Y, _ => by simp [readF]
  | s :: l, S, Y, hl => by
    rw [List.map_cons]
    unfold readF
    rw [h.sym ⟨S, Y⟩ s T (hl s (List.mem_cons_self ..)) hT]
    simp only
    rw [h.syms T hT l S (Y ++ [s]) fun y hy => hl y (List.mem_cons_of_mem _ hy)]
    simp
theorem objB_few8 {o : ObjD} (h : objB o = true) : o.secs.length ≤ 8 ∧ o.syms.length ≤ 12 := by
  unfold objB at h
  simp only [Bool.and_eq_true, decide_eq_true_eq] at h
  exact ⟨h.1.1.1, h.1.1.2⟩
/-- What was dumped is read. -/
theorem Reads1.dump {f : ObjD → List UInt8 → Option ObjD} (h : Reads1 f) {o : ObjD} (ho : objB o = true) : readF f ⟨[], []⟩ (dumpL o) = some o := by
  have hf := objB_few8 ho
  unfold dumpL
  rw [if_pos ho]
  have e := h.secs o.syms.length (by omega) o.secs [] [] fun s hs => objB_sec ho hs
  rw [readF_append f _ _ _ _ e, h.syms o.secs (by omega) o.syms _ _ fun s hs => objB_sym ho hs]
  simp
/-- Lines read, and held against the dump. -/
def readD (f : ObjD → List UInt8 → Option ObjD) (ls : List (List UInt8)) : Option ObjD := match readF f ⟨[], []⟩ ls with
  | none => none
  | some o => if objB o = true ∧ dumpL o = ls then some o else none
theorem readD_iff {f : ObjD → List UInt8 → Option ObjD} (h : Reads1 f) (ls : List (List UInt8)) (o : ObjD) : readD f ls = some o ↔ objB o = true ∧ dumpL o = ls := by
  constructor
  · intro e
    unfold readD at e
    split at e
    · cases e
    · split at e
      · rename_i hc
        simp only [Option.some.injEq] at e
        subst e
        exact hc
      · cases e
  · rintro ⟨h1, rfl⟩
    unfold readD
    rw [h.dump h1]
    simp [h1]
theorem readD_eq {f g : ObjD → List UInt8 → Option ObjD} (hf : Reads1 f) (hg : Reads1 g) (ls : List (List UInt8)) : readD f ls = readD g ls := by
  cases h : readD g ls with
  | some o => exact (readD_iff hf ls o).2 ((readD_iff hg ls o).1 h)
  | none =>
    cases hs : readD f ls with
    | none => rfl
    | some o => rw [(readD_iff hg ls o).2 ((readD_iff hf ls o).1 hs)] at h; cases h
/-! ### Numbers -/
theorem u8_dig {d : Nat} (h : d < 10) : (UInt8.ofNat (48 + d)).toNat = 48 + d := by simp; omega
theorem dec_digit : ∀ (u : Nat), ∀ c ∈ Lib.decDigits u, 48 ≤ c.toNat ∧ c.toNat ≤ 57 := by
  intro u
  induction u using Nat.strongRecOn with
  | _ u ih =>
    intro c hc
    rw [Lib.decDigits] at hc
    split at hc
    · rename_i h
      rw [List.mem_singleton] at hc
      subst hc
      rw [u8_dig h]; omega
    · rename_i h
      rcases List.mem_append.1 hc with hc | hc
      · exact ih (u / 10) (by omega) c hc
      · rw [List.mem_singleton] at hc
        subst hc
        rw [u8_dig (Nat.mod_lt _ (by decide))]; omega
theorem dec_ne (u : Nat) : Lib.decDigits u ≠ [] := by
  rw [Lib.decDigits]
  split <;> simp
theorem itoa_space (n : Int) : (32 : UInt8) ∉ Lib.itoa n := by
  intro h
  unfold Lib.itoa at h
  split at h
  · rcases List.mem_cons.1 h with h | h
    · cases h
    · have := dec_digit _ _ h; simp at this
  · have := dec_digit _ _ h; simp at this
theorem parse_cons (acc : Nat) (c : UInt8) (r : List UInt8) : Lib.parseUint10 acc (c :: r) = if 48 ≤ c.toNat ∧ c.toNat ≤ 57 then
      if 1844674407370955162 ≤ acc then .range
      else if 18446744073709551616 ≤ acc * 10 + (c.toNat - 48) then .range
      else Lib.parseUint10 (acc * 10 + (c.toNat - 48)) r
    else Lib.parseUint10 acc [0] := rfl
theorem parse_append : ∀ (a b : List UInt8) (acc u : Nat), Lib.parseUint10 acc a = .ok u → Lib.parseUint10 acc (a ++ b) = Lib.parseUint10 u b
  | [], b, acc, u, h => by simp only [Lib.parseUint10] at h; injection h with h; subst h; rfl
  | c :: a, b, acc, u, h => by
    rw [List.cons_append]
    rw [parse_cons] at h ⊢
    split at h
    · rename_i h1
      rw [if_pos h1]
      split at h
      · cases h
      · rename_i h2
        rw [if_neg h2]
        split at h
        · cases h
        · rename_i h3
          rw [if_neg h3]
          exact parse_append a b _ u h
    · cases h
theorem parse_dec : ∀ (u : Nat), u < 1000000000 → Lib.parseUint10 0 (Lib.decDigits u) = .ok u := by
  intro u
  induction u using Nat.strongRecOn with
  | _ u ih =>
    intro hu
    rw [Lib.decDigits]
    split
    · rename_i h
      unfold Lib.parseUint10
      rw [u8_dig h, if_pos (by omega), if_neg (by omega), if_neg (by omega)]
      unfold Lib.parseUint10
      congr 1
      omega
    · rename_i h
      rw [parse_append _ _ _ _ (ih (u / 10) (by omega) (by omega))]
      unfold Lib.parseUint10
      rw [u8_dig (Nat.mod_lt _ (by decide)), if_pos (by omega), if_neg (by omega), if_neg (by omega)]
      unfold Lib.parseUint10
      congr 1
      omega
theorem parseMag_dec {u : Nat} (hu : u < 1000000000) : Lib.parseMag (Lib.decDigits u) = .ok u := by
  unfold Lib.parseMag
  rw [if_neg (dec_ne u), parse_dec u hu]
theorem atoiAll_itoa {n : Int} (h0 : -1000000 < n) (h1 : n < 1000000) : Lib.atoiAll (Lib.itoa n) = .ok n := by
  unfold Lib.itoa
  split
  · rename_i hn
    rw [Lib.atoiAll_minus, parseMag_dec (by omega)]
    unfold Lib.signed
    simp only
    rw [if_neg (by omega)]
    congr 1
    omega
  · rename_i hn
    have hd := dec_digit n.toNat
    have hp := parseMag_dec (u := n.toNat) (by omega)
    cases hc : Lib.decDigits n.toNat with
    | nil => exact absurd hc (dec_ne _)
    | cons c r =>
      have hcc := hd c (by rw [hc]; exact List.mem_cons_self ..)
      rw [Lib.atoiAll_plain c r (by omega) (by omega), ← hc, hp]
      unfold Lib.signless
      simp only
      rw [if_neg (by omega)]
      congr 1
      omega
theorem atoiO_itoa {n : Int} (h0 : -1000000 < n) (h1 : n < 1000000) : atoiO (Lib.itoa n) = some n := by
  unfold atoiO
  rw [atoiAll_itoa h0 h1]
theorem digitsS_cons (c : UInt8) (r : List UInt8) (k : Nat) (n : Int) : digitsS (c :: r) k n = if c = 45 ∧ k = 0 then digitsS r (k + 1) n else if c < 48 ∨ 57 < c ∨ 5 < k then none else digitsS r (k + 1) (10 * n + (c.toNat - 48 : Int)) := rfl
theorem digitsS_append : ∀ (a b : List UInt8) (k : Nat) (n m : Int), digitsS a k n = some m → digitsS (a ++ b) k n = digitsS b (k + a.length) m
  | [], b, k, n, m, h => by simp only [digitsS, Option.some.injEq] at h; subst h; rfl
  | c :: a, b, k, n, m, h => by
    rw [List.cons_append]
    rw [digitsS_cons] at h ⊢
    rw [List.length_cons, show k + (a.length + 1) = k + 1 + a.length by omega]
    split at h
    · rename_i h1
      rw [if_pos h1]
      exact digitsS_append a b _ _ m h
    · rename_i h1
      rw [if_neg h1]
      split at h
      · cases h
      · rename_i h2
        rw [if_neg h2]
        exact digitsS_append a b _ _ m h
theorem u8_num {c : UInt8} (h1 : 48 ≤ c.toNat) (h2 : c.toNat ≤ 57) : ¬ (c = 45) ∧ ¬ c < 48 ∧ ¬ 57 < c := by
  refine ⟨fun e => by subst e; simp at h1, fun e => ?_, fun e => ?_⟩
  · have := UInt8.lt_iff_toNat_lt.1 e; simp at this; omega
  · have := UInt8.lt_iff_toNat_lt.1 e; simp at this; omega
theorem digitsS_dec : ∀ (u k : Nat), k + (Lib.decDigits u).length ≤ 6 → digitsS (Lib.decDigits u) k 0 = some (u : Int) := by
  intro u
  induction u using Nat.strongRecOn with
  | _ u ih =>
    intro k hk
    rw [Lib.decDigits] at hk ⊢
    split
    · rename_i h
      rw [dif_pos h] at hk
      have hd := u8_dig h
      have hu := u8_num (c := UInt8.ofNat (48 + u)) (by omega) (by omega)
      unfold digitsS
      rw [if_neg (fun e => hu.1 e.1), if_neg (by rintro (e | e | e); exact hu.2.1 e; exact hu.2.2 e; simp at hk; omega)]
      unfold digitsS
      rw [hd]
      congr 1
      omega
    · rename_i h
      rw [dif_neg h, List.length_append] at hk
      have hd := u8_dig (Nat.mod_lt u (by decide : 0 < 10))
      have hu := u8_num (c := UInt8.ofNat (48 + u % 10)) (by omega) (by omega)
      rw [digitsS_append _ _ _ _ _ (ih (u / 10) (by omega) k (by omega))]
      unfold digitsS
      simp only [List.length_cons, List.length_nil] at hk
      have hl : 0 < (Lib.decDigits (u / 10)).length := List.length_pos_iff.2 (dec_ne _)
      rw [if_neg (fun e => hu.1 e.1), if_neg (by rintro (e | e | e); exact hu.2.1 e; exact hu.2.2 e; omega)]
      unfold digitsS
      rw [hd]
      congr 1
      omega
theorem dec_len5 {u : Nat} (h : u < 100000) : (Lib.decDigits u).length ≤ 5 := by
  rw [Lib.decDigits_length]
  by_cases h1 : u < 10
  · rw [Lib.nDigits_small h1]; omega
  rw [Lib.nDigits_big h1]
  by_cases h2 : u / 10 < 10
  · rw [Lib.nDigits_small h2]; omega
  rw [Lib.nDigits_big h2]
  by_cases h3 : u / 10 / 10 < 10
  · rw [Lib.nDigits_small h3]; omega
  rw [Lib.nDigits_big h3]
  by_cases h4 : u / 10 / 10 / 10 < 10
  · rw [Lib.nDigits_small h4]; omega
  rw [Lib.nDigits_big h4, Lib.nDigits_small (by omega)]
  omega
theorem readN_itoa {n : Int} (h0 : -100000 < n) (h1 : n < 100000) : readN (Lib.itoa n) = n := by
  have key : digitsS (Lib.itoa n) 0 0 = some (n.natAbs : Int) ∧ signS (Lib.itoa n) (n.natAbs : Int) = n := by
    unfold Lib.itoa
    split
    · rename_i hn
      have hl := dec_len5 (u := n.natAbs) (by omega)
      refine ⟨?_, ?_⟩
      · unfold digitsS
        rw [if_pos ⟨rfl, rfl⟩]
        exact digitsS_dec n.natAbs 1 (by omega)
      · unfold signS
        rw [List.head?_cons, if_pos rfl]
        omega
    · rename_i hn
      have hl := dec_len5 (u := n.toNat) (by omega)
      have e : n.natAbs = n.toNat := by omega
      rw [e]
      refine ⟨digitsS_dec n.toNat 0 (by omega), ?_⟩
      unfold signS
      have hd := dec_digit n.toNat
      cases hc : Lib.decDigits n.toNat with
      | nil => exact absurd hc (dec_ne _)
      | cons c r =>
        have hcc := hd c (by rw [hc]; exact List.mem_cons_self ..)
        have hu := u8_num hcc.1 hcc.2
        rw [List.head?_cons, if_neg (fun e => hu.1 (by simpa using e))]
        omega
  unfold readN
  rw [key.1]
  simp only
  rw [key.2, if_pos rfl]
/-! ### The readers read -/
theorem name_space {s : ByteArray} (h : nameB s = true) : (32 : UInt8) ∉ bytesS s := by
  intro hm
  unfold nameB at h
  rw [Bool.and_eq_true, decide_eq_true_eq] at h
  obtain ⟨i, hi, he⟩ := List.mem_iff_getElem.1 hm
  have hs : i < s.size := by unfold bytesS at hi; simpa using hi
  have h1 := h.1 i hs
  have e2 : s[i] = 32 := by
    have e3 : s[i] = (bytesS s)[i]'hi := by simp [bytesS]; rfl
    exact e3.trans he
  rw [e2] at h1
  revert h1
  unfold charB letterB digitB
  simp
theorem hexC_space : ∀ n : Nat, n < 16 → hexC n ≠ 32 := by decide
theorem hexText_space : ∀ l : List UInt8, (32 : UInt8) ∉ hexText l
  | [] => by simp [hexText]
  | c :: r => by
    have hc := c.toNat_lt
    simp only [hexText, List.mem_cons, not_or]
    exact ⟨fun e => hexC_space (c.toNat / 16) (by omega) e.symm, fun e => hexC_space (c.toNat % 16) (by omega) e.symm, hexText_space r⟩
theorem secT_space : (32 : UInt8) ∉ secT := by decide
theorem fixT_space : (32 : UInt8) ∉ fixT := by decide
theorem symT_space : (32 : UInt8) ∉ symT := by decide
theorem secLine_words {s : SecD} (hn : nameB s.name = true) : wordsL (secLine s) = secT :: secWords s := by
  refine wordsL_line _ _ secT_space fun x hx => ?_
  unfold secWords at hx
  simp only [List.mem_append, List.mem_cons, List.not_mem_nil, or_false] at hx
  rcases hx with (rfl | rfl | rfl | rfl) | hx
  · exact name_space hn
  · exact itoa_space _
  · exact itoa_space _
  · exact itoa_space _
  · split at hx
    · cases hx
    · rw [List.mem_singleton] at hx; subst hx; exact hexText_space _
theorem fixLine_words (f : FixD) : wordsL (fixLine f) = fixT :: fixWords f := by
  refine wordsL_line _ _ fixT_space fun x hx => ?_
  unfold fixWords at hx
  simp only [List.mem_cons, List.not_mem_nil, or_false] at hx
  rcases hx with rfl | rfl | rfl | rfl <;> exact itoa_space _
theorem symLine_words {s : SymD} (hn : nameB s.name = true) : wordsL (symLine s) = symT :: symWords s := by
  refine wordsL_line _ _ symT_space fun x hx => ?_
  unfold symWords at hx
  simp only [List.mem_cons, List.not_mem_nil, or_false] at hx
  rcases hx with rfl | rfl | rfl | rfl
  · exact name_space hn
  all_goals exact itoa_space _
theorem secSize_ok {s : SecD} {m : Int} (h : SecOk s m) : 0 ≤ sectionSize s ∧ sectionSize s ≤ 48 := by
  have := h.size
  have := h.bytes
  unfold sectionSize
  split <;> omega
theorem sec_back {s : SecD} {m : Int} (h : SecOk s m) : (⟨txt (bytesS s.name), s.kind, s.align, s.bytes, if s.kind = 3 then sectionSize s else 0, []⟩ : SecD) = ⟨s.name, s.kind, s.align, s.bytes, s.size, []⟩ := by
  rw [txt_bytesS]
  congr 1
  split
  · rename_i hk
    unfold sectionSize
    rw [if_pos hk]
  · rename_i hk
    exact (h.full hk).symm
theorem addLast_snoc (S : List SecD) (s : SecD) (f : FixD) : addLast (S ++ [s]) f = S ++ [⟨s.name, s.kind, s.align, s.bytes, s.size, s.fix ++ [f]⟩] := by
  unfold addLast
  simp
theorem lineI_reads : Reads1 lineI where
  sec o s m h := by
    have hk := h.kind
    have ha := (alignB_iff _).1 h.align
    have hs := secSize_ok h
    unfold lineI
    rw [secLine_words h.name]
    unfold secWords
    have e1 := atoiO_itoa (n := s.kind) (by omega) (by omega)
    have e2 := atoiO_itoa (n := s.align) (by omega) (by omega)
    have e3 := atoiO_itoa (n := sectionSize s) (by omega) (by omega)
    have eb := sec_back h
    by_cases hb : s.bytes = []
    · rw [if_pos hb]
      rw [hb] at eb
      simp only [List.append_nil, wordsI, if_pos, addSec, e1, e2, e3, readHexL, eb, hb]
    · rw [if_neg hb]
      simp only [List.cons_append, List.nil_append, wordsI, if_pos, addSec, e1, e2, e3, readHex_hexText, eb]
  fix S s Y x m h hm := by
    have h1 := h.kind
    have h2 := h.to
    have h3 := h.add
    have h4 := h.at_
    unfold lineI
    rw [fixLine_words]
    unfold fixWords
    have e1 := atoiO_itoa (n := x.1) (by omega) (by omega)
    have e2 := atoiO_itoa (n := x.2.1) (by omega) (by omega)
    have e3 := atoiO_itoa (n := x.2.2.1) (by omega) (by omega)
    have e4 := atoiO_itoa (n := x.2.2.2) (by omega) (by omega)
    simp only [wordsI]
    rw [if_neg (by decide), if_pos trivial]
    simp only [addFix, e1, e2, e3, e4]
    rw [if_neg (by simp), addLast_snoc]
  sym o s S h hS := by
    have h1 := h.bind
    have h2 := h.whr
    have h3 := h.val
    unfold lineI
    rw [symLine_words h.name]
    unfold symWords
    have e1 := atoiO_itoa (n := s.bind) (by omega) (by omega)
    have e2 := atoiO_itoa (n := s.whr) (by omega) (by omega)
    have e3 := atoiO_itoa (n := s.val) (by omega) (by omega)
    simp only [wordsI]
    rw [if_neg (by decide), if_neg (by decide), if_pos trivial]
    simp only [addSym, e1, e2, e3, txt_bytesS]
theorem lineS_reads : Reads1 lineS where
  sec o s m h := by
    have hk := h.kind
    have ha := (alignB_iff _).1 h.align
    have hs := secSize_ok h
    unfold lineS
    rw [secLine_words h.name]
    unfold secWords
    have e1 := readN_itoa (n := s.kind) (by omega) (by omega)
    have e2 := readN_itoa (n := s.align) (by omega) (by omega)
    have e3 := readN_itoa (n := sectionSize s) (by omega) (by omega)
    have eb := sec_back h
    by_cases hb : s.bytes = []
    · rw [if_pos hb]
      rw [hb] at eb
      simp only [List.append_nil, wordsS, if_pos, addSecS, e1, e2, e3, readHexL, Option.getD, eb, hb]
    · rw [if_neg hb]
      simp only [List.cons_append, List.nil_append, wordsS, if_pos, addSecS, e1, e2, e3, readHex_hexText, Option.getD, eb]
  fix S s Y x m h hm := by
    have h1 := h.kind
    have h2 := h.to
    have h3 := h.add
    have h4 := h.at_
    unfold lineS
    rw [fixLine_words]
    unfold fixWords
    have e1 := readN_itoa (n := x.1) (by omega) (by omega)
    have e2 := readN_itoa (n := x.2.1) (by omega) (by omega)
    have e3 := readN_itoa (n := x.2.2.1) (by omega) (by omega)
    have e4 := readN_itoa (n := x.2.2.2) (by omega) (by omega)
    simp only [wordsS]
    rw [if_neg (by decide), if_pos ⟨trivial, by simp⟩, addLast_snoc, e1, e2, e3, e4]
  sym o s S h hS := by
    have h1 := h.bind
    have h2 := h.whr
    have h3 := h.val
    unfold lineS
    rw [symLine_words h.name]
    unfold symWords
    have e1 := readN_itoa (n := s.bind) (by omega) (by omega)
    have e2 := readN_itoa (n := s.whr) (by omega) (by omega)
    have e3 := readN_itoa (n := s.val) (by omega) (by omega)
    simp only [wordsS]
    rw [if_neg (by decide), if_neg (fun e => absurd e.1 (by decide)), if_pos trivial, e1, e2, e3, txt_bytesS]
end Go.Proofs.YtecpdhjangojiaaGreatDoor
