/- What the statements draw: numbers, bytes, texts, headers. -/
import Derived.Test.YthjpdnpmdppamaaDraw
import Derived.Test.YthjpdnpmdppamaaHead
import Derived.Test.YthjpdnpmdppamaaHex
namespace Go.Proofs.Ythjpdnpmdppamaa
open Go.ChangeShapes Go.WideShapes Go.ChangeAt Go.RowKit Go.Joins
set_option linter.unusedSimpArgs false
set_option linter.unusedVariables false
set_option maxRecDepth 100000

theorem From.drawn {B g q : Nat} {w w1 w2 : World} (h : From B w w1) (hD : Drawn g q w1 w2) (hg : B ≤ g) : From B w w2 := h.grown hD.grow (by intro k hk; simp only [Option.some.injEq] at hk; omega)
theorem Blk.drawn {w w' : World} {g q k : Nat} {c : Array Value} {t : TypeId} (h : Blk w k c t) (hD : Drawn g q w w') (hk : g ≠ k) : Blk w' k c t := h.grown hD.grow (by intro e; simp only [Option.some.injEq] at e; omega)
theorem RdAt.ne {w : World} {g p : Nat} (h : RdAt w g p) : g ≠ w.heap.size := by have := h.lt; omega
theorem Drawn.set {w w1 : World} {g q k : Nat} (h : Drawn g q w w1) (hk : w.heap.size ≤ k) (hg : g < w.heap.size) (o : Nat) (u : Value) : Drawn g q w (w1.setCell ⟨k, o, none⟩ u) :=
  h.behind (k := k) ⟨rfl, rfl, rfl, by simp [World.setCell], fun i _ hi => Below.heap_setCell w1 _ _ i (fun e => hi (by rw [e]))⟩ hk (by omega)
/-- What a statement's draw ends in. -/
def DrawB (R : World → Value → Prop) (w : World) (e : Ending) (w' : World) : Prop := ∃ v, e = .returned v ∧ R w' v ∧ From w.heap.size w w'
def TwoInts (a b c d : Int) (_ : World) (v : Value) : Prop := ∃ n m : Int, v = .tuple #[.int .i64 n, .int .i64 m] ∧ a ≤ n ∧ n ≤ b ∧ c ≤ m ∧ m ≤ d
def BytesInts (k : Nat) (a b c d : Int) (w : World) (v : Value) : Prop := ∃ (vb : Value) (l : List UInt8) (n m : Int), v = .tuple #[vb, .int .i64 n, .int .i64 m] ∧ BytesAt w vb l ∧ l.length ≤ k ∧ a ≤ n ∧ n ≤ b ∧ c ≤ m ∧ m ≤ d
def BytesK (k : Nat) (w : World) (v : Value) : Prop := ∃ l, BytesAt w v l ∧ l.length ≤ k
def SomeHead (_ : World) (v : Value) : Prop := ∃ a b c d : Int, v = headerV a b c d
/-- A part of bytes. -/
theorem bytes_sub {w : World} {b off : Nat} {k : List UInt8} (hc : ∀ j (hj : j < k.length), w.cell? ⟨b, off + j, none⟩ = some (.int .u8 (k[j].toNat : Int))) (A W : Nat) (h : A + W ≤ k.length) (c : Nat) (h1 : W ≤ c) (h2 : c ≤ maxLen) :
    BytesAt w (.slice (some ⟨b, off + A, none⟩) W c) ((k.drop A).take W) := by
  have hl : ((k.drop A).take W).length = W := by rw [List.length_take, List.length_drop]; omega
  have := BytesAt.mk (w := w) (b := b) (off := off + A) (cap := c) (l := (k.drop A).take W) (by omega) h2 (fun j hj => by
    rw [Nat.add_assoc, hc (A + j) (by omega)]
    simp)
  rwa [hl] at this
theorem alive_any (w : World) : Calls Try.prog 32 #[] w fun e w' => e = .returned (.bool true) ∧ w = w' := by
  have h : alignUp 5 4 = 8 := by decide
  have hc : Calls Try.prog 87 #[.int .i64 5, .int .i64 4] w fun e w' => e = .returned (.int .i64 8) ∧ w = w' := by
    rw [← h]; exact alignUp_any 5 4 w
  go_enter Try.func32, Try.ntmps32
  go_wp2_with (first | (go_at_call 87; (with_reducible refine (hc).mono ?_); rintro e w' ⟨rfl, rfl⟩))
  go_ret
  exact ⟨rfl, rfl⟩
set_option maxHeartbeats 1000000 in
theorem drawPutNumber_any (w : World) (v : Value) (l : List UInt8) (h : BytesAt w v l) :
    Calls Try.prog 54 #[v] w (DrawB (TwoInts (-1) 4294967296 0 5) w) := by
  go_enter Try.func54, Try.ntmps54
  go_wp2_with fail
  refine (l20Open_any _ _ l h).mono ?_
  rintro e w1 ⟨g, rfl, hg, hR, hb⟩
  have HF := Lib.hid ((From.start w).call hb)
  have HR := Lib.hid hR
  have ng := hR.ne
  clear hb hR h
  go_wp2_with fail
  refine (pick_at (w1.alloc _) (w1.alloc _) g 0 (Drawn.start (HR.out.alloc _)) (by decide) (w1.heap.size + 1) (by simp) _ _ 8 (by decide) (by decide)).mono ?_
  rintro e w2 ⟨x, rfl, hx0, hx1, hD, hB⟩
  obtain ⟨y, hy0, hy1, hc⟩ := lit_int hB x hx0 hx1 0 5 rfl
  obtain ⟨z, hz0, hz1, hc2⟩ := lit_int ((Blk.new w1 _ _).drawn hD ng) y hy0 (by show y < 6; omega) 0 5 rfl
  have HF2 := Lib.hid ((HF.out.alloc _).drawn hD hg)
  have HR2 := Lib.hid hD.rd
  clear hD hB HF HR
  go_wp2_with fail
  clear hc hc2
  refine (pick_in w2 _ g 1 (Drawn.start HR2.out) (by decide) 256 (by decide) (by decide)).mono ?_
  rintro e w3 ⟨x1, rfl, hx10, hx11, hD⟩
  have HD3 := Lib.hid hD
  clear hD
  go_wp2_with fail
  refine (pick_in w2 _ g 2 HD3.out (by decide) 256 (by decide) (by decide)).mono ?_
  rintro e w4 ⟨x2, rfl, hx20, hx21, hD⟩
  have HD4 := Lib.hid hD
  clear hD HD3
  go_wp2_with fail
  refine (pick_in w2 _ g 3 HD4.out (by decide) 256 (by decide) (by decide)).mono ?_
  rintro e w5 ⟨x3, rfl, hx30, hx31, hD⟩
  have HD5 := Lib.hid hD
  clear hD HD4
  go_wp2_with fail
  refine (pick_over w2 _ g 4 HD5.out (by decide) _ _ 10 (by decide) (by decide)).mono ?_
  rintro e w6 ⟨x4, rfl, hx40, hx41, hD, hB⟩
  obtain ⟨u, hu, hcu⟩ := lit_at hB x4 hx40 hx41
  obtain ⟨n, rfl, hn0, hn1⟩ : ∃ n : Int, u = .int .i64 n ∧ -1 ≤ n ∧ n ≤ 4294967296 := by
    simp only [List.mem_cons, List.not_mem_nil, or_false] at hu
    rcases hu with rfl | rfl | rfl | rfl | rfl | rfl | rfl | rfl | rfl | rfl <;> exact ⟨_, rfl, by omega, by omega⟩
  have HF6 := Lib.hid (HF2.out.drawn hD hg)
  clear hD hB HD5 hu
  go_wp2_with fail
  go_ret2
  exact ⟨_, rfl, ⟨n, z, rfl, hn0, hn1, hz0, hz1⟩, HF6.out⟩
set_option maxHeartbeats 1000000 in
theorem drawSignedOf_any (w : World) (v : Value) (l : List UInt8) (h : BytesAt w v l) :
    Calls Try.prog 43 #[v] w (DrawB (TwoInts (-1) 4294967296 0 5) w) := by
  go_enter Try.func43, Try.ntmps43
  go_wp2_with fail
  refine (drawPutNumber_any _ _ l h).mono ?_
  rintro e w1 ⟨_, rfl, ⟨n, z, rfl, hn0, hn1, hz0, hz1⟩, hF⟩
  have HF := Lib.hid hF
  clear hF
  go_wp2_with fail
  go_ret2
  exact ⟨_, rfl, ⟨n, z, rfl, hn0, hn1, hz0, hz1⟩, HF.out⟩
set_option maxHeartbeats 1000000 in
theorem drawGetNumber_any (w : World) (v : Value) (l : List UInt8) (h : BytesAt w v l) :
    Calls Try.prog 36 #[v] w (DrawB (BytesInts 9 (-1) 8 0 5) w) := by
  go_enter Try.func36, Try.ntmps36
  go_wp2_with fail
  refine (l20Open_any _ _ l h).mono ?_
  rintro e w1 ⟨g, rfl, hg, hR, hb⟩
  have HF := Lib.hid ((From.start w).call hb)
  have HR := Lib.hid hR
  have zg := hR.lt
  clear hb hR h
  go_wp2_with fail
  refine (l20Bytes_any _ g 0 HR.out 9 (by decide) (by decide)).mono ?_
  rintro e w2 ⟨vb, q, rfl, ⟨k, hO, hk⟩, hq, hD⟩
  obtain ⟨ra, rc, rfl⟩ := owns_form hO
  have HO := Lib.hid hO
  have HD := Lib.hid hD
  clear hO hD
  go_wp2_with fail
  refine (pick_in w2 _ g q (Drawn.start HD.out.rd) (by omega) _ (by decide) (by decide)).mono ?_
  rintro e w3 ⟨x, rfl, hx0, hx1, hD⟩
  have HD3 := Lib.hid hD
  clear hD
  go_wp2_with fail
  refine (pick_in w2 _ g (q + 1) HD3.out (by omega) _ (by decide) (by decide)).mono ?_
  rintro e w4 ⟨y, rfl, hy0, hy1, hD⟩
  have HF4 := Lib.hid (HF.out.drawn (HD.out.next hD) hg)
  have HO4 := Lib.hid (owns_drawn HO.out hD.grow zg)
  clear hD HD3 HD HF HO
  go_wp2_with fail
  go_ret3
  exact ⟨_, rfl, ⟨_, k, x - 1, y, rfl, reads_of_owns HO4.out, hk, by omega, by omega, by omega, by omega⟩, HF4.out⟩
set_option maxHeartbeats 1000000 in
theorem drawHexText_any (w : World) (v : Value) (l : List UInt8) (h : BytesAt w v l) :
    Calls Try.prog 47 #[v] w (DrawB (BytesK 9) w) := by
  go_enter Try.func47, Try.ntmps47
  go_wp2_with fail
  refine (l20Open_any _ _ l h).mono ?_
  rintro e w1 ⟨g, rfl, hg, hR, hb⟩
  have HF := Lib.hid ((From.start w).call hb)
  have HR := Lib.hid hR
  clear hb hR h
  go_wp2_with fail
  refine (l20Bytes_any _ g 0 HR.out 9 (by decide) (by decide)).mono ?_
  rintro e w2 ⟨vb, q, rfl, ⟨k, hO, hk⟩, hq, hD⟩
  have HO := Lib.hid hO
  have HF2 := Lib.hid (HF.out.drawn hD hg)
  clear hO hD HF
  go_wp2_with fail
  go_ret
  exact ⟨_, rfl, ⟨k, reads_of_owns HO.out, hk⟩, HF2.out⟩
set_option maxHeartbeats 1000000 in
theorem drawNameValid_any (w : World) (v : Value) (l : List UInt8) (h : BytesAt w v l) :
    Calls Try.prog 33 #[v] w (DrawB (SomeStr 9) w) := by
  go_enter Try.func33, Try.ntmps33
  go_wp2_with fail
  refine (l20Open_any _ _ l h).mono ?_
  rintro e w1 ⟨g, rfl, hg, hR, hb⟩
  have HF := Lib.hid ((From.start w).call hb)
  have HR := Lib.hid hR
  clear hb hR h
  go_wp2_with fail
  refine (l20Name_any _ g 0 HR.out (by decide) 2 (by decide) (by decide)).mono ?_
  rintro e w2 ⟨_, q, rfl, ⟨s, rfl, hs⟩, hq, hD⟩
  have HF2 := Lib.hid (HF.out.drawn hD hg)
  clear hD HF
  go_wp2_with fail
  go_ret
  exact ⟨_, rfl, ⟨s, rfl, hs⟩, HF2.out⟩
set_option maxHeartbeats 1000000 in
theorem drawReadHex_any (w : World) (v : Value) (l : List UInt8) (h : BytesAt w v l) :
    Calls Try.prog 59 #[v] w (DrawB (SomeStr 13) w) := by
  go_enter Try.func59, Try.ntmps59
  go_wp2_with fail
  refine (l20Open_any _ _ l h).mono ?_
  rintro e w1 ⟨g, rfl, hg, hR, hb⟩
  have HF := Lib.hid ((From.start w).call hb)
  have HR := Lib.hid hR
  have zg := hR.lt
  clear hb hR h
  go_wp2_with fail
  refine (l20Bytes_any _ g 0 HR.out 6 (by decide) (by decide)).mono ?_
  rintro e w2 ⟨vb, q, rfl, ⟨k, hO, hk⟩, hq, hD⟩
  have HO := Lib.hid hO
  have HD := Lib.hid hD
  clear hO hD
  go_wp2_with fail
  refine (s_HexText w2 _ k (reads_of_owns HO.out) (by omega)).mono ?_
  rintro e w3 ⟨rfl, hb⟩
  have hsz : (⟨(hexText k).toArray⟩ : ByteArray).size ≤ 12 := by
    show (hexText k).toArray.size ≤ 12
    have := hexText_length k
    simp; omega
  have HD3 := Lib.hid (HD.out.below hb)
  have HF3 := Lib.hid ((HF.out.drawn HD.out hg).call hb)
  clear hb HO HF
  generalize (⟨(hexText k).toArray⟩ : ByteArray) = s at *
  go_wp2_with fail
  refine (odd_any _ g q HD3.out.rd (by omega) 3 (by decide) (by decide)).mono ?_
  rintro e w4 ⟨_, q2, rfl, ⟨b, rfl⟩, hq2, hD⟩
  have HF4 := Lib.hid (HF3.out.drawn hD hg)
  have HD4 := Lib.hid hD
  clear hD HF3 HD3
  cases b
  · go_wp2_with fail
    go_ret
    exact ⟨_, rfl, ⟨s, rfl, by omega⟩, HF4.out⟩
  · obtain ⟨s1, hs1, hr1⟩ := str_sum s ⟨#[49]⟩ (by show s.size + 1 ≤ _; omega)
    obtain ⟨s2, hs2, hr2⟩ := str_sum ⟨#[32]⟩ s (by show 1 + s.size ≤ _; omega)
    have z1 : s1.size ≤ 13 := by rw [hs1, ByteArray.size_append]; show s.size + 1 ≤ 13; omega
    have z2 : s2.size ≤ 13 := by rw [hs2, ByteArray.size_append]; show 1 + s.size ≤ 13; omega
    clear hs1 hs2
    go_wp2_with fail
    clear hr1 hr2
    refine (pick_over w4 _ g q2 (Drawn.start HD4.out.rd) (by omega) _ _ 7 (by decide) (by decide)).mono ?_
    rintro e w5 ⟨x, rfl, hx0, hx1, hD, hB⟩
    obtain ⟨u, hu, hcu⟩ := lit_at hB x hx0 hx1
    obtain ⟨n, rfl, hn⟩ : ∃ n : ByteArray, u = .string n ∧ n.size ≤ 13 := by
      simp only [List.mem_cons, List.not_mem_nil, or_false] at hu
      rcases hu with rfl | rfl | rfl | rfl | rfl | rfl | rfl <;> exact ⟨_, rfl, by first | assumption | decide⟩
    have HF5 := Lib.hid (HF4.out.drawn hD hg)
    clear hD hB HF4 hu
    go_wp2_with fail
    go_ret
    exact ⟨_, rfl, ⟨n, rfl, hn⟩, HF5.out⟩
/-- Four whole numbers in a block. -/
@[reducible] def headCells (a b c d : Int) : Array Value := #[.int .i64 a, .int .i64 b, .int .i64 c, .int .i64 d]
set_option maxHeartbeats 2000000 in
theorem l20Header_any (w : World) (g p : Nat) (h : RdAt w g p) (hp : p ≤ 1073000000) (n : Int) (h0 : 0 ≤ n) (hn : n ≤ 1000) :
    Calls Try.prog 83 #[.pointer (some ⟨g, 0, none⟩), .int .i64 n] w (DrawE SomeHead 10 w g p) := by
  have HR := Lib.hid h
  have zg := h.lt
  clear h
  go_enter Try.func83, Try.ntmps83
  go_wp2_with fail
  refine (pick_in (w.alloc _) _ g p (Drawn.start (HR.out.alloc _)) (by omega) 9 (by decide) (by decide)).mono ?_
  rintro e w1 ⟨a, rfl, ha0, ha1, hD⟩
  have HD1 := Lib.hid hD
  clear hD
  go_wp2_with fail
  refine (pick_in (w.alloc _) _ g (p + 1) HD1.out (by omega) 13 (by decide) (by decide)).mono ?_
  rintro e w2 ⟨b, rfl, hb0, hb1, hD⟩
  have HD2 := Lib.hid hD
  clear hD HD1
  go_wp2_with fail
  refine (pick_in (w.alloc _) _ g (p + 1 + 1) HD2.out (by omega) 49 (by decide) (by decide)).mono ?_
  rintro e w3 ⟨c, rfl, hc0, hc1, hD⟩
  have HD3 := Lib.hid hD
  clear hD HD2
  go_wp2_with fail
  refine (pick_in (w.alloc _) _ g (p + 1 + 1 + 1) HD3.out (by omega) 256 (by decide) (by decide)).mono ?_
  rintro e w4 ⟨d, rfl, hd0, hd1, hD⟩
  have z4 : w.heap.size + 1 ≤ w4.heap.size := by have := hD.grow.size; simpa using this
  have HB0 := Lib.hid ((Blk.new w (headCells 0 0 0 0) 28).drawn hD (by omega))
  have HD4 := Lib.hid ((Drawn.start HR.out).alloc _ |>.next hD)
  clear hD HD3
  go_wp2_with fail
  refine (odd_any _ g _ (HD4.out.rd.alloc _) (by omega) n h0 (by omega)).mono ?_
  rintro e w5 ⟨_, q, rfl, ⟨o, rfl⟩, hq, hD⟩
  have B0 := Lib.hid ((HB0.out.alloc (.cells (headCells a b c (1 + d)) 28)).drawn hD (by omega))
  have B1 := Lib.hid ((Blk.new w4 (headCells a b c (1 + d)) 28).drawn hD (by omega))
  have HD5 := Lib.hid ((HD4.out.alloc _).next hD)
  have z5 : w4.heap.size < w5.heap.size := B1.out.lt
  have nb : w.heap.size ≠ w4.heap.size := by omega
  clear hD HB0 HD4
  cases o
  · have c1 := B1.out.cell
    have f0 := B0.out.frozen
    have c0 := B0.out.cell
    go_wp2_with fail
    have z0 := B0.out.lt
    refine bodyPost_ret (v := headerV a b c (1 + d)) (by simp [results, Try.results83, go_sem, c0, z0]) rfl ⟨_, q, rfl, ⟨_, _, _, _, rfl⟩, by omega, ?_⟩
    exact (((HD5.out.set (Nat.le_refl _) zg _ _).set (Nat.le_refl _) zg _ _).set (Nat.le_refl _) zg _ _).set (Nat.le_refl _) zg _ _
  · go_wp2_with fail
    refine (pick_in w5 _ g q (Drawn.start HD5.out.rd) (by omega) 4 (by decide) (by decide)).mono ?_
    rintro e w6 ⟨x, rfl, hx0, hx1, hD⟩
    have C0 := Lib.hid (B0.out.drawn hD (by omega))
    have C1 := Lib.hid (B1.out.drawn hD (by have := HD5.out.grow.size; omega))
    have HD6 := Lib.hid (HD5.out.next hD)
    clear hD B0 B1 HD5
    have hx : x = 0 ∨ x = 1 ∨ x = 2 ∨ x = 3 := by omega
    rcases hx with rfl | rfl | rfl | rfl
    · go_wp2_with fail
      refine (pick_over w6 _ g (q + 1) (Drawn.start HD6.out.rd) (by omega) _ _ 2 (by decide) (by decide)).mono ?_
      rintro e w7 ⟨y, rfl, hy0, hy1, hD, hB⟩
      obtain ⟨z, hz0, hz1, hc⟩ := lit_int hB y hy0 hy1 (-1) 9 rfl
      have D0 := C0.out.drawn hD (by omega)
      have D1 := C1.out.drawn hD (by omega)
      have HD7 := Lib.hid (HD6.out.next hD)
      have c0 := D0.cell
      have c1 := D1.cell
      have f0 := D0.frozen
      have f1 := D1.frozen
      have z0 := D0.lt
      have z1 := D1.lt
      clear hD hB C0 C1 HD6 D0 D1
      go_wp2_with fail
      refine bodyPost_ret (v := headerV z b c (1 + d)) (by simp [results, Try.results83, go_sem, c0, z0]) rfl ⟨_, q + 1 + 1, rfl, ⟨_, _, _, _, rfl⟩, by omega, ?_⟩
      exact ((((HD7.out.set (by omega) zg _ _).set (Nat.le_refl _) zg _ _).set (Nat.le_refl _) zg _ _).set (Nat.le_refl _) zg _ _).set (Nat.le_refl _) zg _ _
    · have c0 := C0.out.cell
      have c1 := C1.out.cell
      have f0 := C0.out.frozen
      have f1 := C1.out.frozen
      have z0 := C0.out.lt
      have z1 := C1.out.lt
      clear C0 C1
      go_wp2_with fail
      refine bodyPost_ret (v := headerV a 13 c (1 + d)) (by simp [results, Try.results83, go_sem, c0, z0]) rfl ⟨_, q + 1, rfl, ⟨_, _, _, _, rfl⟩, by omega, ?_⟩
      exact ((((HD6.out.set (by omega) zg _ _).set (Nat.le_refl _) zg _ _).set (Nat.le_refl _) zg _ _).set (Nat.le_refl _) zg _ _).set (Nat.le_refl _) zg _ _
    · have c0 := C0.out.cell
      have c1 := C1.out.cell
      have f0 := C0.out.frozen
      have f1 := C1.out.frozen
      have z0 := C0.out.lt
      have z1 := C1.out.lt
      clear C0 C1
      go_wp2_with fail
      refine bodyPost_ret (v := headerV a b (-1) (1 + d)) (by simp [results, Try.results83, go_sem, c0, z0]) rfl ⟨_, q + 1, rfl, ⟨_, _, _, _, rfl⟩, by omega, ?_⟩
      exact ((((HD6.out.set (by omega) zg _ _).set (Nat.le_refl _) zg _ _).set (Nat.le_refl _) zg _ _).set (Nat.le_refl _) zg _ _).set (Nat.le_refl _) zg _ _
    · go_wp2_with fail
      refine (pick_over w6 _ g (q + 1) (Drawn.start HD6.out.rd) (by omega) _ _ 2 (by decide) (by decide)).mono ?_
      rintro e w7 ⟨y, rfl, hy0, hy1, hD, hB⟩
      obtain ⟨z, hz0, hz1, hc⟩ := lit_int hB y hy0 hy1 0 401 rfl
      have D0 := C0.out.drawn hD (by omega)
      have D1 := C1.out.drawn hD (by omega)
      have HD7 := Lib.hid (HD6.out.next hD)
      have c0 := D0.cell
      have c1 := D1.cell
      have f0 := D0.frozen
      have f1 := D1.frozen
      have z0 := D0.lt
      have z1 := D1.lt
      clear hD hB C0 C1 HD6 D0 D1
      go_wp2_with fail
      refine bodyPost_ret (v := headerV a b c z) (by simp [results, Try.results83, go_sem, c0, z0]) rfl ⟨_, q + 1 + 1, rfl, ⟨_, _, _, _, rfl⟩, by omega, ?_⟩
      exact ((((HD7.out.set (by omega) zg _ _).set (Nat.le_refl _) zg _ _).set (Nat.le_refl _) zg _ _).set (Nat.le_refl _) zg _ _).set (Nat.le_refl _) zg _ _
set_option maxHeartbeats 1000000 in
theorem s_DrawHeaderValid (w : World) (v : Value) (l : List UInt8) (h : BytesAt w v l) :
    Calls Try.prog 29 #[v] w (DrawB SomeHead w) := by
  go_enter Try.func29, Try.ntmps29
  go_wp2_with fail
  refine (l20Open_any _ _ l (h.below (Nat.le_refl _) ((From.start w).alloc _).below)).mono ?_
  rintro e w1 ⟨g, rfl, hg, hR, hb⟩
  have HB := (Blk.new w _ _).call hb
  have HF := Lib.hid (((From.start w).alloc _).call hb)
  have HR := Lib.hid hR
  have hg' : w.heap.size < g := by have := hg; simp at this; omega
  clear hb hR h hg
  go_wp2_with fail
  refine (l20Header_any _ g 0 HR.out (by decide) 2 (by decide) (by decide)).mono ?_
  rintro e w2 ⟨_, q, rfl, ⟨a, b, c, d, rfl⟩, hq, hD⟩
  have HF2 := Lib.hid (HF.out.drawn hD (by omega))
  have B2 := HB.drawn hD (by omega)
  have c0 := B2.cell
  have f0 := B2.frozen
  have z0 := B2.lt
  clear hD HF HB B2
  go_wp2_with fail
  refine bodyPost_ret (v := headerV a b c d) (by simp [results, Try.results29, go_sem, c0, z0]) rfl ⟨_, rfl, ⟨_, _, _, _, rfl⟩, ?_⟩
  exact (((HF2.out.setCell (Nat.le_refl _) _).setCell (Nat.le_refl _) _).setCell (Nat.le_refl _) _).setCell (Nat.le_refl _) _
set_option maxHeartbeats 1000000 in
theorem s_DrawPutHeader (w : World) (v : Value) (l : List UInt8) (h : BytesAt w v l) :
    Calls Try.prog 70 #[v] w (DrawB SomeHead w) := by
  go_enter Try.func70, Try.ntmps70
  go_wp2_with fail
  refine (l20Open_any _ _ l (h.below (Nat.le_refl _) ((From.start w).alloc _).below)).mono ?_
  rintro e w1 ⟨g, rfl, hg, hR, hb⟩
  have HB := (Blk.new w _ _).call hb
  have HF := Lib.hid (((From.start w).alloc _).call hb)
  have HR := Lib.hid hR
  have hg' : w.heap.size < g := by have := hg; simp at this; omega
  clear hb hR h hg
  go_wp2_with fail
  refine (l20Header_any _ g 0 HR.out (by decide) 6 (by decide) (by decide)).mono ?_
  rintro e w2 ⟨_, q, rfl, ⟨a, b, c, d, rfl⟩, hq, hD⟩
  have HF2 := Lib.hid (HF.out.drawn hD (by omega))
  have B2 := HB.drawn hD (by omega)
  have c0 := B2.cell
  have f0 := B2.frozen
  have z0 := B2.lt
  clear hD HF HB B2
  go_wp2_with fail
  refine bodyPost_ret (v := headerV a b c d) (by simp [results, Try.results70, go_sem, c0, z0]) rfl ⟨_, rfl, ⟨_, _, _, _, rfl⟩, ?_⟩
  exact (((HF2.out.setCell (Nat.le_refl _) _).setCell (Nat.le_refl _) _).setCell (Nat.le_refl _) _).setCell (Nat.le_refl _) _
end Go.Proofs.Ythjpdnpmdppamaa
