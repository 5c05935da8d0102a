/- What the reader's functions draw: some value in range, some name, some bytes. -/
import Derived.Test.YtkefbhidfbnipaaPick
import Derived.Test.YtkefbhidfbnipaaBytes
namespace Go.Proofs.Ytkefbhidfbnipaa
open Go.ChangeShapes Go.WideShapes Go.ChangeAt Go.RowKit Go.Joins
set_option linter.unusedSimpArgs false
set_option linter.unusedVariables false
set_option maxRecDepth 100000

/-- What a drawing function ends in. -/
def DrawE (R : World → Value → Prop) (c : Nat) (w : World) (g p : Nat) (e : Ending) (w' : World) : Prop := ∃ v q, e = .returned v ∧ R w' v ∧ q ≤ p + c ∧ Drawn g q w w'
theorem Drawn.start {w : World} {g p : Nat} (h : RdAt w g p) : Drawn g p w w := ⟨h, ⟨rfl, rfl, rfl, Nat.le_refl _, fun _ _ _ => rfl⟩⟩
theorem RdAt.alloc {w : World} {g p : Nat} (h : RdAt w g p) (o : Obj) : RdAt (w.alloc o) g p := h.grown (row := none) (World.grownBy_alloc w o none) (by simp) (by simp)
theorem Drawn.alloc {w w1 : World} {g p : Nat} (h : Drawn g p w w1) (o : Obj) : Drawn g p w (w1.alloc o) := h.more (World.grownBy_alloc w1 o _) (h.rd.alloc o)
theorem Drawn.below {w w1 w2 : World} {g p : Nat} (h : Drawn g p w w1) (hb : Below w1.heap.size w1 w2) : Drawn g p w w2 :=
  have hg : w1.grownBy w2 none := ⟨hb.os, hb.tape, hb.output, hb.size, fun k hk _ => hb.block k hk⟩
  ⟨h.rd.grown hg (by simp) (by simp), ⟨hb.os.trans h.grow.os, hb.tape.trans h.grow.tape, hb.output.trans h.grow.output, Nat.le_trans h.grow.size hb.size, fun i hi hne => by rw [hb.block i (Nat.lt_of_lt_of_le hi h.grow.size), h.grow.block i hi hne]⟩⟩
theorem Drawn.next {w w1 w2 : World} {g p q : Nat} (h : Drawn g p w w1) (h2 : Drawn g q w1 w2) : Drawn g q w w2 := ⟨h2.rd, h.grow.trans h2.grow⟩
theorem RdAt.lt {w : World} {g p : Nat} (h : RdAt w g p) : g < w.heap.size := by
  obtain ⟨bs, l, hB, _⟩ := h
  exact hB.lt
theorem Drawn.lt {w w1 : World} {g p : Nat} (h : Drawn g p w w1) : g < w1.heap.size := h.rd.lt
/-- A write into a block behind the reader. -/
theorem Drawn.behind {w w1 w2 : World} {g p : Nat} (h : Drawn g p w w1) {k : Nat} (hg : w1.grownBy w2 (some k)) (hk : w.heap.size ≤ k) (hgk : g < k) : Drawn g p w w2 := by
  refine ⟨h.rd.grown hg (fun e => ?_) (fun b ⟨_, _, _, hb⟩ e => ?_), ⟨hg.os.trans h.grow.os, hg.tape.trans h.grow.tape, hg.output.trans h.grow.output, Nat.le_trans h.grow.size hg.size, fun i hi hne => ?_⟩⟩
  · simp only [Option.some.injEq] at e; omega
  · simp only [Option.some.injEq] at e; omega
  · rw [hg.block i (Nat.lt_of_lt_of_le hi h.grow.size) (fun e => by simp only [Option.some.injEq] at e; omega), h.grow.block i hi hne]
theorem Drawn.grownRow {w w1 w2 : World} {g p : Nat} (h : Drawn g p w w1) {row : Option Nat} (hg : w1.grownBy w2 row) (hk : ∀ k, row = some k → w.heap.size ≤ k) (hgw : g < w.heap.size) : Drawn g p w w2 := by
  cases row with
  | none =>
    refine ⟨h.rd.grown hg (by simp) (by simp), ⟨hg.os.trans h.grow.os, hg.tape.trans h.grow.tape, hg.output.trans h.grow.output, Nat.le_trans h.grow.size hg.size, fun i hi hne => ?_⟩⟩
    rw [hg.block i (Nat.lt_of_lt_of_le hi h.grow.size) (by simp), h.grow.block i hi hne]
  | some k => exact h.behind hg (hk k rfl) (by have := hk k rfl; omega)
/-- A literal's element. -/
theorem lit_at {w : World} {gb : Nat} {c : Array Value} {t : TypeId} (h : Blk w gb c t) (x : Int) (h0 : 0 ≤ x) (h1 : x < (c.size : Int)) : ∃ u, u ∈ c.toList ∧ w.cell? ⟨gb, x.toNat, none⟩ = some u := by
  have hi : x.toNat < c.size := by omega
  exact ⟨c[x.toNat], by simp, by rw [h.cell, Array.getElem?_eq_getElem hi]⟩
def intLit (lo hi : Int) (l : List Value) : Bool := l.all fun | .int .i64 y => decide (lo ≤ y) && decide (y ≤ hi) | _ => false
def strLit (n : Nat) (l : List Value) : Bool := l.all fun | .string s => decide (s.size ≤ n) | _ => false
theorem lit_int {w : World} {gb : Nat} {c : Array Value} {t : TypeId} (h : Blk w gb c t) (x : Int) (h0 : 0 ≤ x) (h1 : x < (c.size : Int)) (lo hi : Int) (hc : intLit lo hi c.toList = true) : ∃ y, lo ≤ y ∧ y ≤ hi ∧ w.cell? ⟨gb, x.toNat, none⟩ = some (.int .i64 y) := by
  obtain ⟨u, hu, e⟩ := lit_at h x h0 h1
  have := List.all_eq_true.1 hc u hu
  split at this
  · rename_i y
    simp only [Bool.and_eq_true, decide_eq_true_eq] at this
    exact ⟨y, this.1, this.2, e⟩
  · cases this
theorem lit_str {w : World} {gb : Nat} {c : Array Value} {t : TypeId} (h : Blk w gb c t) (x : Int) (h0 : 0 ≤ x) (h1 : x < (c.size : Int)) (n : Nat) (hc : strLit n c.toList = true) : ∃ s : ByteArray, s.size ≤ n ∧ w.cell? ⟨gb, x.toNat, none⟩ = some (.string s) := by
  obtain ⟨u, hu, e⟩ := lit_at h x h0 h1
  have := List.all_eq_true.1 hc u hu
  split at this
  · rename_i s
    exact ⟨s, by simpa using this, e⟩
  · cases this
/-- A pick, in range. -/
def PickP (w : World) (g p : Nat) (n : Int) (e : Ending) (w' : World) : Prop := ∃ x : Int, e = .returned (.int .i64 x) ∧ 0 ≤ x ∧ x < n ∧ Drawn g (p + 1) w w'
theorem pick_in (w0 w : World) (g p : Nat) (h : Drawn g p w0 w) (hp : p ≤ 1073741824) (n : Int) (h1 : 1 ≤ n) (hn : n ≤ 1073741824) :
    Calls Try.prog 49 #[.pointer (some ⟨g, 0, none⟩), .int .i64 n] w (PickP w0 g p n) :=
  (pick_any w g p h.rd hp n hn).mono fun e w' ⟨x, he, h2, h3, h4⟩ => ⟨x, he, h2, h3 h1, h.next h4⟩
/-- A pick behind a literal. -/
def PickL (w : World) (g p : Nat) (n : Int) (k : Nat) (c : Array Value) (t : TypeId) (e : Ending) (w' : World) : Prop := ∃ x : Int, e = .returned (.int .i64 x) ∧ 0 ≤ x ∧ x < n ∧ Drawn g (p + 1) w w' ∧ Blk w' k c t
theorem pick_over (w0 w : World) (g p : Nat) (h : Drawn g p w0 w) (hp : p ≤ 1073741824) (c : Array Value) (t : TypeId) (n : Int) (h1 : 1 ≤ n) (hn : n ≤ 1073741824) :
    Calls Try.prog 49 #[.pointer (some ⟨g, 0, none⟩), .int .i64 n] (w.alloc (.cells c t)) (PickL w0 g p n w.heap.size c t) :=
  (pick_any _ g p (h.alloc _).rd hp n hn).mono fun e w' ⟨x, he, h2, h3, h4⟩ => ⟨x, he, h2, h3 h1, (h.alloc _).next h4, (Blk.new w c t).grown h4.grow (by have := h.lt; simp; omega)⟩

theorem pick_at (w0 w : World) (g p : Nat) (h : Drawn g p w0 w) (hp : p ≤ 1073741824) (k : Nat) (hk : k = w.heap.size) (c : Array Value) (t : TypeId) (n : Int) (h1 : 1 ≤ n) (hn : n ≤ 1073741824) :
    Calls Try.prog 49 #[.pointer (some ⟨g, 0, none⟩), .int .i64 n] (w.alloc (.cells c t)) (PickL w0 g p n k c t) := by
  subst hk
  exact pick_over w0 w g p h hp c t n h1 hn
def SomeBool (_ : World) (v : Value) : Prop := ∃ b, v = .bool b
def SomeStr (n : Nat) (_ : World) (v : Value) : Prop := ∃ s : ByteArray, v = .string s ∧ s.size ≤ n
def SomeBytes (base n : Nat) (w : World) (v : Value) : Prop := ∃ l, OwnB w base v l ∧ l.length ≤ n
/-- What the call owns stands while the reader runs. -/
theorem owns_drawn {w w' : World} {g B : Nat} {t : TypeId} {size : Nat} {v : Value} {n : Nat} {xs : List Value} (h : w.ownsRow B t size v n xs) (hg : w.grownBy w' (some g)) (hB : g < B) : w'.ownsRow B t size v n xs := by
  refine h.kept hg ?_
  cases hb : v.ownBlock with
  | none => exact .inl rfl
  | some k =>
    right
    have := owns_block h k hb
    intro e; simp only [Option.some.injEq] at e; omega
/-- A write into what the call owns, behind the reader. -/
theorem Drawn.ownGrown {w w1 w2 : World} {g p : Nat} (h : Drawn g p w w1) {t : TypeId} {size : Nat} {v : Value} {n : Nat} {xs : List Value} (hg : w1.grownBy w2 v.ownBlock) (ho : w1.ownsRow w.heap.size t size v n xs) (hgw : g < w.heap.size) : Drawn g p w w2 := by
  have zg := h.lt
  cases hb : v.ownBlock with
  | none =>
    rw [hb] at hg
    refine ⟨h.rd.grown hg (by simp) (by simp), ⟨hg.os.trans h.grow.os, hg.tape.trans h.grow.tape, hg.output.trans h.grow.output, Nat.le_trans h.grow.size hg.size, fun i hi hne => ?_⟩⟩
    rw [hg.block i (Nat.lt_of_lt_of_le hi h.grow.size) (by simp), h.grow.block i hi hne]
  | some k =>
    rw [hb] at hg
    exact h.behind hg (owns_block ho k hb) (by have := owns_block ho k hb; omega)
set_option maxHeartbeats 1000000 in
theorem odd_any (w : World) (g p : Nat) (h : RdAt w g p) (hp : p ≤ 1073741823) (n : Int) (h0 : 0 ≤ n) (hn : n ≤ 1073741824) :
    Calls Try.prog 52 #[.pointer (some ⟨g, 0, none⟩), .int .i64 n] w (DrawE SomeBool 1 w g p) := by
  have HR := Lib.hid h
  clear h
  by_cases n0 : 0 < n
  · go_enter Try.func52, Try.ntmps52
    go_wp2_with fail
    refine (pick_any _ g p HR.out (by omega) _ (by omega)).mono ?_
    rintro e w1 ⟨x, rfl, hx0, hx1, hD⟩
    have HD := Lib.hid hD
    clear hD
    go_wp2_with fail
    go_ret
    exact ⟨_, _, rfl, ⟨_, rfl⟩, Nat.le_refl _, HD.out⟩
  · go_enter Try.func52, Try.ntmps52
    go_wp2_with fail
    go_ret
    exact ⟨_, _, rfl, ⟨_, rfl⟩, by omega, Drawn.start HR.out⟩

/-- A reader that a call has opened. -/
def OpenB (w : World) (e : Ending) (w' : World) : Prop := ∃ g, e = .returned (.pointer (some ⟨g, 0, none⟩)) ∧ w.heap.size ≤ g ∧ RdAt w' g 0 ∧ Below w.heap.size w w'
set_option maxHeartbeats 1000000 in
theorem l20Open_any (w : World) (v : Value) (l : List UInt8) (h : BytesAt w v l) :
    Calls Try.prog 19 #[v] w (OpenB w) := by
  obtain ⟨a, cap, rfl, hcap, hmax, hnone, hcell⟩ := h.form
  have HR := Lib.hid h
  clear h
  have hlt : ∀ b off, a = some ⟨b, off, none⟩ → 0 < l.length → b < w.heap.size := by
    intro b off e hn
    obtain ⟨b', off', e', hc⟩ := hcell hn
    rw [e] at e'
    simp only [Option.some.injEq, Addr.mk.injEq] at e'
    obtain ⟨rfl, rfl, _⟩ := e'
    exact World.block_lt_of_cell? w _ (hc 0 hn)
  have HL := Lib.hid hlt
  have HM := Lib.hid hmax
  clear hcell hnone hlt
  by_cases hl : l.length ≤ 2000
  · have e1 : ¬ (2000 : Int) < (l.length : Int) := by omega
    go_enter Try.func19, Try.ntmps19
    go_wp2_with fail
    go_ret
    refine ⟨_, rfl, Nat.le_refl _, ⟨_, l, Blk.new _ _ _, HR.out.below (Nat.le_refl _) ((From.start w).alloc _).below, hl, ?_⟩, ((From.start w).alloc _).below⟩
    intro b off n c e hn
    simp only [Value.slice.injEq] at e
    exact HL.out b off e.1 (by omega)
  · have e1 : (2000 : Int) < (l.length : Int) := by omega
    have e2 : (2000 : Int) ≤ (cap : Int) := by omega
    unfold maxLen at hmax
    go_enter Try.func19, Try.ntmps19
    go_wp2_with fail
    go_ret
    have hl2 : (l.take 2000).length = 2000 := by rw [List.length_take]; omega
    have hr : BytesAt w (.slice a 2000 cap) (l.take 2000) := by
      unfold BytesAt
      rw [hl2]
      obtain ⟨r1, a', cap', hv, r2, r3, r4, r5⟩ := HR.out
      simp only [Value.slice.injEq] at hv
      obtain ⟨rfl, _, rfl⟩ := hv
      refine ⟨by rw [bvs_length, hl2], a, cap, rfl, by omega, r3, r4, fun hn => ?_⟩
      obtain ⟨b, off, e, hc⟩ := r5 (by omega)
      refine ⟨b, off, e, fun j u hu => hc j u ?_⟩
      unfold bvs at hu ⊢
      rw [List.map_take, List.getElem?_take] at hu
      split at hu
      · exact hu
      · cases hu
    refine ⟨_, rfl, Nat.le_refl _, ⟨_, l.take 2000, Blk.new _ _ _, hr.below (Nat.le_refl _) ((From.start w).alloc _).below, by omega, ?_⟩, ((From.start w).alloc _).below⟩
    intro b off n c e hn
    simp only [Value.slice.injEq] at e
    exact HL.out b off e.1 (by omega)

set_option maxHeartbeats 1000000 in
theorem l20Name_any (w : World) (g p : Nat) (h : RdAt w g p) (hp : p ≤ 1073741822) (n : Int) (h0 : 0 ≤ n) (hn : n ≤ 1073741824) :
    Calls Try.prog 78 #[.pointer (some ⟨g, 0, none⟩), .int .i64 n] w (DrawE (SomeStr 9) 2 w g p) := by
  have HR := Lib.hid h
  clear h
  go_enter Try.func78, Try.ntmps78
  go_wp2_with fail
  refine (odd_any _ g p HR.out (by omega) _ h0 hn).mono ?_
  rintro e w1 ⟨_, q, rfl, ⟨b, rfl⟩, hq, hD⟩
  have HD := Lib.hid hD
  clear hD
  cases b
  · go_wp2_with fail
    refine (pick_over _ _ g q HD.out (by omega) _ _ _ (by decide) (by decide)).mono ?_
    rintro e w2 ⟨x, rfl, hx0, hx1, hD, hB⟩
    obtain ⟨s, hs, hc⟩ := lit_str hB x hx0 hx1 9 rfl
    have HD2 := Lib.hid hD
    clear hD hB HD
    go_wp2_with fail
    go_ret
    exact ⟨_, _, rfl, ⟨_, rfl, hs⟩, by omega, HD2.out⟩
  · go_wp2_with fail
    refine (pick_over _ _ g q HD.out (by omega) _ _ _ (by decide) (by decide)).mono ?_
    rintro e w2 ⟨x, rfl, hx0, hx1, hD, hB⟩
    obtain ⟨s, hs, hc⟩ := lit_str hB x hx0 hx1 9 rfl
    have HD2 := Lib.hid hD
    clear hD hB HD
    go_wp2_with fail
    go_ret
    exact ⟨_, _, rfl, ⟨_, rfl, hs⟩, by omega, HD2.out⟩
set_option maxHeartbeats 1000000 in
theorem l20Bytes_any (w : World) (g p : Nat) (h : RdAt w g p) (m : Nat) (hm : m ≤ 1000) (hp : p ≤ 1073000000) :
    Calls Try.prog 79 #[.pointer (some ⟨g, 0, none⟩), .int .i64 m] w (DrawE (SomeBytes w.heap.size m) (1 + 2 * m) w g p) := by
  obtain ⟨i0, hi, hz0, hz1, hz2⟩ := info_parts info_u8
  have zg := h.lt
  have HR := Lib.hid h
  clear h
  go_enter Try.func79, Try.ntmps79
  go_wp2_with fail
  refine (pick_over w w g p (Drawn.start HR.out) (by omega) _ _ _ (by omega) (by omega)).mono ?_
  rintro e w1 ⟨x, rfl, hx0, hx1, hD, hB⟩
  obtain ⟨k0, rfl⟩ := Int.eq_ofNat_of_zero_le hx0
  have hO : OwnB w1 w.heap.size (.slice (some ⟨w.heap.size, 0, none⟩) 0 0) [] := ⟨rfl, .inr ⟨w.heap.size, 0, #[], rfl, Nat.le_refl _, hB, Nat.le_refl _, Nat.zero_le _, rfl, rfl⟩⟩
  have HO0 := Lib.hid hO
  have HD0 := Lib.hid hD
  clear hO hD hB
  go_wp2_with fail
  go_loopw [5, 6] (fun out i wr => ∃ (l : List UInt8) (k q : Nat), i = .int .i64 k ∧ l.length + k ≤ m ∧ Hid (OwnB wr w.heap.size out l) ∧ q ≤ p + 1 + 2 * l.length ∧ Hid (Drawn g q w wr)) (fun _ i _ => (intOf i).toNat)
  case atStart => exact ⟨[], k0, p + 1, rfl, by simp; omega, HO0, by simp, HD0⟩
  case round =>
    clear HO0 HD0
    obtain ⟨l, k, q, rfl, hlk, HO, hq, HD⟩ := hrel
    by_cases hlt : 0 < k
    · go_wp2_with fail
      have z0 := HD.out.lt
      refine (pick_in wr _ g q (Drawn.start HD.out.rd) (by omega) _ (by decide) (by decide)).mono ?_
      rintro e w2 ⟨x, rfl, hx0, hx1, hD2⟩
      have HD2 := Lib.hid hD2
      clear hD2
      go_wp2_with fail
      refine (pick_over wr _ g (q + 1) HD2.out (by omega) _ _ _ (by decide) (by decide)).mono ?_
      rintro e w3 ⟨y, rfl, hy0, hy1, hD3, hB⟩
      obtain ⟨u, hu, hc⟩ := lit_at hB y hy0 hy1
      obtain ⟨c, rfl⟩ : ∃ c : UInt8, u = .int .u8 (c.toNat : Int) := by
        simp only [List.mem_cons, List.not_mem_nil, or_false] at hu
        rcases hu with rfl | rfl | rfl
        · exact ⟨UInt8.ofNat x.toNat, by rw [UInt8.toNat_ofNat']; congr 1; omega⟩
        · exact ⟨0, rfl⟩
        · exact ⟨255, rfl⟩
      have hO3 : OwnB w3 w.heap.size _ l := owns_drawn HO.out hD3.grow zg
      have HO3 := Lib.hid hO3
      have HD3 := Lib.hid (HD.out.next hD3)
      clear hO3 hD3 hB HD2 HO hu
      go_wp2_with (at_builtin; refine wpList_append_src rfl _ _ 22 22 rfl w.heap.size 5 i0 (.int .u8 0) 1 1 Try.underlying22 hi hz0 hz1 hz2 rfl (by decide) _ _ _ rfl (HO3.out.alloc _) _ 1 [_] rfl (src_new Try.underlying22 _ [_] 1 1 1 _ rfl ?c0) ?c1 ?c2 ?c3 ?_)
      case c0 => intro u hu; obtain rfl := List.mem_singleton.1 hu; rfl
      case c1 => unfold maxLen; omega
      case c2 => omega
      case c3 => have := HD3.out.grow.size; simp; omega
      intro v' w4 hown hgr
      have HO4 := Lib.hid (owns_snoc hown rfl)
      have HD4 := Lib.hid ((HD3.out.alloc _).ownGrown hgr (HO3.out.alloc _) zg)
      clear hown hgr HO3 HD3
      go_wp2_with fail
      go_roundw
      case rel => exact ⟨l ++ [c], k - 1, q + 2, by go_num, by simp; omega, HO4, by simp; omega, HD4⟩
      case measure => simp [intOf]; try omega
    · obtain rfl : k = 0 := by omega
      go_wp2_with fail
      go_ret
      exact ⟨_, q, rfl, ⟨l, HO.out, by omega⟩, by omega, HD.out⟩
end Go.Proofs.Ytkefbhidfbnipaa
