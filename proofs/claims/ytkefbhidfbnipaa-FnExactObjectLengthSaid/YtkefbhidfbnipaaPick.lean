/- The reader of codes: what it picks is in range; it changes nothing but its own place. -/
import Derived.Test.YtkefbhidfbnipaaBytes
import Derived.Deep.QuietTactic
import Derived.BigQuiet
import Derived.IntWalk
import Derived.Laws.Bits64
namespace Go.Proofs.Ytkefbhidfbnipaa
open Go.ChangeShapes Go.WideShapes Go.ChangeAt Go.RowKit Go.Joins
set_option linter.unusedSimpArgs false
set_option linter.unusedVariables false
set_option maxRecDepth 100000

/-- A reader at block g, at place p. -/
def RdAt (w : World) (g p : Nat) : Prop := ∃ bs l, Blk w g #[bs, .int .i64 p] 86 ∧ BytesAt w bs l ∧ l.length ≤ 2000 ∧ (∀ b off n c, bs = .slice (some ⟨b, off, none⟩) n c → 0 < n → b < g)
theorem Reads.grown {w w' : World} {size : Nat} {v : Value} {n : Nat} {xs : List Value} {row : Option Nat} (h : Reads w size v n xs) (hg : w.grownBy w' row) (hne : ∀ b off n c, v = .slice (some ⟨b, off, none⟩) n c → 0 < n → some b ≠ row) : Reads w' size v n xs := by
  obtain ⟨h1, a, cap, rfl, h2, h3, h4, h5⟩ := h
  refine ⟨h1, a, cap, rfl, h2, h3, h4, fun hn => ?_⟩
  obtain ⟨b, off, rfl, hc⟩ := h5 hn
  exact ⟨b, off, rfl, fun j u hu => hg.cell (hc j u hu) (hne b off n cap rfl hn)⟩
/-- The same reader, where its block and what it reads are left alone. -/
theorem RdAt.grown {w w' : World} {g p : Nat} (h : RdAt w g p) {row : Option Nat} (hg : w.grownBy w' row) (h1 : some g ≠ row) (h2 : ∀ b, (∃ o u, w.cell? ⟨b, o, none⟩ = some u ∧ b < g) → some b ≠ row) : RdAt w' g p := by
  obtain ⟨bs, l, hb, hr, hl, hne⟩ := h
  refine ⟨bs, l, hb.grown hg h1, ?_, hl, hne⟩
  obtain ⟨e1, a, cap, rfl, e2, e3, e4, e5⟩ := hr
  refine ⟨e1, a, cap, rfl, e2, e3, e4, fun hn => ?_⟩
  obtain ⟨b, off, rfl, hc⟩ := e5 hn
  refine ⟨b, off, rfl, fun j u hu => hg.cell (hc j u hu) (h2 b ⟨_, _, hc j u hu, hne b off _ _ rfl hn⟩)⟩
/-- A growth that a draw brings: the reader runs on, new blocks. -/
structure Drawn (g p : Nat) (w w' : World) : Prop where
  rd : RdAt w' g p
  grow : w.grownBy w' (some g)
theorem xor_i64 (X : Nat) (hX : X < 4611686018427387904) : ∃ Y : Nat, bits .xor .i64 (X : Int) ((X : Int) / 64) = (Y : Int) := by
  have d : ((X : Int) / (64 : Int)) = ((X / 64 : Nat) : Int) := by omega
  rw [d]
  have hx : X ^^^ (X / 64) < 2 ^ 62 := Nat.xor_lt_two_pow (by omega) (by omega)
  have h1 : (BitVec.ofInt 64 (X : Int)).toNat = X := by
    rw [BitVec.ofInt_natCast, BitVec.toNat_ofNat]; exact Nat.mod_eq_of_lt (by omega)
  have h2 : (BitVec.ofInt 64 ((X / 64 : Nat) : Int)).toNat = X / 64 := by
    rw [BitVec.ofInt_natCast, BitVec.toNat_ofNat]; exact Nat.mod_eq_of_lt (by omega)
  refine ⟨X ^^^ (X / 64), ?_⟩
  show IntKind.i64.wrap ((BitVec.ofInt 64 (X : Int) ^^^ BitVec.ofInt 64 ((X / 64 : Nat) : Int)).toNat : Int) = _
  rw [BitVec.toNat_xor, h1, h2]
  exact IntWalk.i64_in _ (by omega)

/-- What a pick ends in. -/
def PickB (w : World) (g p : Nat) (n : Int) (e : Ending) (w' : World) : Prop := ∃ x : Int, e = .returned (.int .i64 x) ∧ 0 ≤ x ∧ (1 ≤ n → x < n) ∧ Drawn g (p + 1) w w'

theorem drawn_step {w : World} {g p : Nat} {bs : Value} {l : List UInt8} (hB : Blk w g #[bs, .int .i64 p] 86) (hr : BytesAt w bs l) (hl : l.length ≤ 2000) (hne : ∀ b off n c, bs = .slice (some ⟨b, off, none⟩) n c → 0 < n → b < g) :
    Drawn g (p + 1) w (w.setCell ⟨g, 1, none⟩ (.int .i64 ((p : Int) + 1))) := by
  have hg : w.grownBy (w.setCell ⟨g, 1, none⟩ (.int .i64 ((p : Int) + 1))) (some g) :=
    ⟨rfl, rfl, rfl, by simp [World.setCell], fun k _ hk => Below.heap_setCell w _ _ k (fun e => hk (by rw [e]))⟩
  refine ⟨⟨bs, l, ?_, hr.grown hg fun b off n c e hn => ?_, hl, hne⟩, hg⟩
  · have := hB.set (o := 1) (.int .i64 ((p : Int) + 1))
    simpa using this
  · have := hne b off n c e hn
    intro h; simp only [Option.some.injEq] at h; omega
theorem World.grownBy_drewN (w : World) (n : Nat) (row : Option Nat) : w.grownBy (w.drewN n) row := ⟨rfl, rfl, rfl, Nat.le_refl _, fun _ _ _ => rfl⟩
theorem RdAt.drewN {w : World} {g p : Nat} (h : RdAt w g p) (n : Nat) : RdAt (w.drewN n) g p := h
theorem Drawn.more {g p : Nat} {w w1 w2 : World} (h : Drawn g p w w1) (hg : w1.grownBy w2 (some g)) (hr : RdAt w2 g p) : Drawn g p w w2 := ⟨hr, h.grow.trans hg⟩

set_option maxHeartbeats 1000000 in
theorem pick_any (w : World) (g p : Nat) (h : RdAt w g p) (hp : p ≤ 1073741824) (n : Int) (hn : n ≤ 1073741824) :
    Calls Try.prog 49 #[.pointer (some ⟨g, 0, none⟩), .int .i64 n] w (PickB w g p n) := by
  obtain ⟨bs, l, hB, hr, hl, hne⟩ := h
  have HD := Lib.hid (drawn_step hB hr hl hne)
  obtain ⟨a, cap, rfl, hcap, hmax, hnone, hcell⟩ := hr.form
  have hc0 := hB.cell 0
  have hc1 := hB.cell 1
  have hf := hB.frozen 1
  have zb := hB.lt
  have hB' := Lib.hid hB
  clear hB hnone
  unfold maxLen at hmax
  by_cases n1 : n < 1
  · clear hcell hr hne
    go_enter Try.func49, Try.ntmps49
    go_wp2_with fail
    go_ret
    exact ⟨0, rfl, Int.le_refl _, fun h => by omega, HD.out⟩
  by_cases l0 : l.length = 0
  · have e0 : ((l.length : Int) == 0) = true := by simp [l0]
    clear hcell hr hne
    go_enter Try.func49, Try.ntmps49
    go_wp2_with fail
    go_ret
    exact ⟨0, rfl, Int.le_refl _, fun h => by omega, HD.out⟩
  have e0 : ((l.length : Int) == 0) = false := by simp [l0]
  obtain ⟨b, off, rfl, hc⟩ := hcell (by omega)
  have hbg := hne b off _ _ rfl (by omega)
  by_cases hk : p < l.length
  · have cp := hc p hk
    have u0 := u8_lt l[p]
    have hk' : (p : Int) < (l.length : Int) := by omega
    have n0 : (n == 0) = false := by simp; omega
    clear hcell hr hne hc
    generalize l[p] = c at *
    have E : Hid (Int.tmod (c.toNat : Int) n = (c.toNat : Int) % n) := by
      show _ = _; exact Int.tmod_eq_emod_of_nonneg (by omega)
    have R0 : Hid (0 ≤ (c.toNat : Int) % n ∧ (c.toNat : Int) % n < n) := ⟨Int.emod_nonneg _ (by omega), Int.emod_lt_of_pos _ (by omega)⟩
    go_enter Try.func49, Try.ntmps49
    go_wp2_with fail
    go_ret
    exact ⟨(c.toNat : Int) % n, by try rfl, R0.out.1, fun _ => R0.out.2, HD.out⟩
  · have hk' : ¬ (p : Int) < (l.length : Int) := by omega
    have n0 : (n == 0) = false := by simp; omega
    have hL : 0 < l.length := by omega
    have m1 : p % l.length < l.length := Nat.mod_lt _ hL
    have m2 : (7 * p + 3) % l.length < l.length := Nat.mod_lt _ hL
    have d1 : p / l.length ≤ p := Nat.div_le_self _ _
    have c1 := hc _ m1
    have c2 := hc _ m2
    have u1 := u8_lt l[p % l.length]
    have u2 := u8_lt l[(7 * p + 3) % l.length]
    generalize l[p % l.length] = x1 at *
    generalize l[(7 * p + 3) % l.length] = x2 at *
    have hW : ∀ q : Addr, q.block ≠ g → (w.setCell ⟨g, 1, none⟩ (.int .i64 ((p : Int) + 1))).cell? q = w.cell? q := fun q hq => World.cell?_of_block (Below.heap_setCell w _ _ _ hq)
    have k0 : (w.setCell ⟨g, 1, none⟩ (.int .i64 ((p : Int) + 1))).cell? ⟨g, 0, none⟩ = some (.slice (some ⟨b, off, none⟩) l.length cap) := by
      have := (hB'.out.set (o := 1) (.int .i64 ((p : Int) + 1))).cell 0
      simpa using this
    have k1 := (hW ⟨b, off + p % l.length, none⟩ (by show b ≠ g; omega)).trans c1
    have k2 := (hW ⟨b, off + (7 * p + 3) % l.length, none⟩ (by show b ≠ g; omega)).trans c2
    clear hcell hr hne hc c1 c2 hW
    go_enter Try.func49, Try.ntmps49
    go_wp2_with fail
    generalize hWW : w.setCell ⟨g, 1, none⟩ (.int .i64 ((p : Int) + 1)) = W at *
    clear hWW hc0 hc1 hf
    have t1 : (p : Int).tmod (l.length : Int) = ((p % l.length : Nat) : Int) := by rw [Int.tmod_eq_emod_of_nonneg (by omega)]; omega
    have v1 : IntKind.i64.wrap ((p : Int) * 7) = (p : Int) * 7 := IntWalk.i64_in _ (by omega)
    have v2 : IntKind.i64.wrap ((p : Int) * 7 + 3) = (p : Int) * 7 + 3 := IntWalk.i64_in _ (by omega)
    have t2 : ((p : Int) * 7 + 3).tmod (l.length : Int) = (((7 * p + 3) % l.length : Nat) : Int) := by rw [Int.tmod_eq_emod_of_nonneg (by omega), Int.natCast_emod]; congr 1; omega
    have t3 : (p : Int).tdiv (l.length : Int) = ((p / l.length : Nat) : Int) := by rw [Int.tdiv_eq_ediv_of_nonneg (by omega)]; omega
    have z0 : ((l.length : Int) == 0) = false := e0
    have b1 : ((p % l.length : Nat) : Int) < (l.length : Int) := by omega
    have b2 : (((7 * p + 3) % l.length : Nat) : Int) < (l.length : Int) := by omega
    have b3 : (0 : Int) ≤ ((p % l.length : Nat) : Int) := by omega
    have b4 : (0 : Int) ≤ (((7 * p + 3) % l.length : Nat) : Int) := by omega
    generalize p % l.length = q1 at *
    generalize (7 * p + 3) % l.length = q2 at *
    generalize p / l.length = q3 at *
    have v3 : IntKind.i64.wrap ((x1.toNat : Int) * 131) = (x1.toNat : Int) * 131 := IntWalk.i64_in _ (by omega)
    have v4 : IntKind.i64.wrap ((x2.toNat : Int) * 1117) = (x2.toNat : Int) * 1117 := IntWalk.i64_in _ (by omega)
    have v5 : IntKind.i64.wrap ((x1.toNat : Int) * 131 + (x2.toNat : Int) * 1117) = (x1.toNat : Int) * 131 + (x2.toNat : Int) * 1117 := IntWalk.i64_in _ (by omega)
    have v6 : IntKind.i64.wrap ((p : Int) * 29) = (p : Int) * 29 := IntWalk.i64_in _ (by omega)
    have v7 : IntKind.i64.wrap ((x1.toNat : Int) * 131 + (x2.toNat : Int) * 1117 + (p : Int) * 29) = (x1.toNat : Int) * 131 + (x2.toNat : Int) * 1117 + (p : Int) * 29 := IntWalk.i64_in _ (by omega)
    have v8 : IntKind.i64.wrap ((q3 : Int) * 53) = (q3 : Int) * 53 := IntWalk.i64_in _ (by omega)
    have v9 : IntKind.i64.wrap ((x1.toNat : Int) * 131 + (x2.toNat : Int) * 1117 + (p : Int) * 29 + (q3 : Int) * 53) = (x1.toNat : Int) * 131 + (x2.toNat : Int) * 1117 + (p : Int) * 29 + (q3 : Int) * 53 := IntWalk.i64_in _ (by omega)
    have v10 : IntKind.i64.wrap (x1.toNat : Int) = (x1.toNat : Int) := IntWalk.i64_in _ (by omega)
    have v11 : IntKind.i64.wrap (x2.toNat : Int) = (x2.toNat : Int) := IntWalk.i64_in _ (by omega)
    go_quiet (fail)
    obtain ⟨X, hX, hX2⟩ : ∃ X : Nat, (x1.toNat : Int) * 131 + (x2.toNat : Int) * 1117 + (p : Int) * 29 + (q3 : Int) * 53 = (X : Int) ∧ X < 4611686018427387904 :=
      ⟨((x1.toNat : Int) * 131 + (x2.toNat : Int) * 1117 + (p : Int) * 29 + (q3 : Int) * 53).toNat, by omega, by omega⟩
    clear t1 t2 t3 v1 v2 v3 v4 v5 v6 v7 v8 v9 v10 v11
    rw [hX]
    clear hX
    obtain ⟨Y, hY⟩ := xor_i64 X hX2
    have R0 : Hid (0 ≤ (Y : Int) % n ∧ (Y : Int) % n < n) := ⟨Int.emod_nonneg _ (by omega), Int.emod_lt_of_pos _ (by omega)⟩
    have HD2 : Hid (Drawn g (p + 1) w (W.drewN nq)) := Lib.hid (HD.out.more (World.grownBy_drewN W nq _) (HD.out.rd.drewN nq))
    go_wp2_with fail
    go_ret
    exact ⟨(Y : Int) % n, by try rfl, R0.out.1, fun _ => R0.out.2, HD2.out⟩
end Go.Proofs.Ytkefbhidfbnipaa
