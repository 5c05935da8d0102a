/- Slices that read as lists, slices that the call itself owns, the law of append for any source, and the frame of a law's statement. -/
import Derived.Test.YthenijikmjffjaaRows
import Derived.WalkKit
import Derived.WalkSpells
import Derived.WalkLawsBesides
import Derived.ProofKit
import Derived.OpenShut
import Derived.Lib.Hide
import Derived.Lib.SmallJoins
import Derived.Deep.AppendSrc
import Derived.Carry
namespace Go.Proofs.Ythenijikmjffjaa
open Go.ChangeShapes Go.WideShapes Go.ChangeAt Go.RowKit Go.Joins
set_option linter.unusedSimpArgs false
set_option linter.unusedVariables false
set_option maxRecDepth 100000

theorem own_knob : ownKnob Try.prog.godebug = none := by kernel_rfl
theorem laid_out : laidOutB Try.prog = true := by kernel_rfl

/-- Behind a call that has left the old blocks alone: all old cells and marks read as before. -/
theorem bcell {W w1 : World} {B : Nat} (hb : Below B W w1) : (∀ b o, b < B → w1.cell? ⟨b, o, none⟩ = W.cell? ⟨b, o, none⟩) ∧ (∀ b o, b < B → w1.frozen? ⟨b, o, none⟩ = W.frozen? ⟨b, o, none⟩) :=
  ⟨fun b o h => hb.cell (p := ⟨b, o, none⟩) h, fun b o h => hb.frozen (p := ⟨b, o, none⟩) h⟩

/-- A block of cells, none of them frozen. -/
def Blk (w : World) (g : Nat) (c : Array Value) (t : TypeId) : Prop := w.heap[g]? = some (.cells c t (0, 0))
theorem Blk.new (w : World) (c : Array Value) (t : TypeId) : Blk (w.alloc (.cells c t)) w.heap.size c t := heap_alloc_new w _
theorem Blk.lt {w : World} {g : Nat} {c : Array Value} {t : TypeId} (h : Blk w g c t) : g < w.heap.size := (Array.getElem?_eq_some_iff.1 h).1
theorem Blk.below {w w1 : World} {g B : Nat} {c : Array Value} {t : TypeId} (h : Blk w g c t) (hb : Below B w w1) (hg : g < B) : Blk w1 g c t := (hb.block g hg).trans h
theorem Blk.call {w w1 : World} {g : Nat} {c : Array Value} {t : TypeId} (h : Blk w g c t) (hb : Below w.heap.size w w1) : Blk w1 g c t := h.below hb h.lt
theorem Blk.alloc {w : World} {g : Nat} {c : Array Value} {t : TypeId} (h : Blk w g c t) (o : Obj) : Blk (w.alloc o) g c t := (Below.heap_alloc w o g h.lt).trans h
theorem Blk.drew {w : World} {g : Nat} {c : Array Value} {t : TypeId} (h : Blk w g c t) : Blk w.drew g c t := h
theorem Blk.drewN {w : World} {g : Nat} {c : Array Value} {t : TypeId} (h : Blk w g c t) (n : Nat) : Blk (w.drewN n) g c t := h
theorem Blk.other {w : World} {g : Nat} {c : Array Value} {t : TypeId} (h : Blk w g c t) {p : Addr} (hp : p.block ≠ g) (u : Value) : Blk (w.setCell p u) g c t := (Below.heap_setCell w p u g (Ne.symm hp)).trans h
theorem Blk.cell {w : World} {g : Nat} {c : Array Value} {t : TypeId} (h : Blk w g c t) : ∀ o, w.cell? ⟨g, o, none⟩ = c[o]? := fun o => cell_of_row w g o c t (0, 0) h
theorem Blk.frozen {w : World} {g : Nat} {c : Array Value} {t : TypeId} (h : Blk w g c t) : ∀ o, w.frozen? ⟨g, o, none⟩ = false := fun o => by
  have h' : w.heap[g]? = some (.cells c t (0, 0)) := h
  simp [World.frozen?, h']
theorem Blk.grown {w w1 : World} {g : Nat} {c : Array Value} {t : TypeId} {row : Option Nat} (h : Blk w g c t) (hg : w.grownBy w1 row) (hne : some g ≠ row) : Blk w1 g c t := (hg.block g h.lt hne).trans h
theorem Blk.set {w : World} {g o : Nat} {c : Array Value} {t : TypeId} (h : Blk w g c t) (u : Value) : Blk (w.setCell ⟨g, o, none⟩ u) g (c.setIfInBounds o u) t := by
  have h' : w.heap[g]? = some (.cells c t (0, 0)) := h
  show (w.setCell ⟨g, o, none⟩ u).heap[g]? = _
  simp [World.setCell, Array.getElem?_modify, h']

/-- From a world on: below B nothing has turned, and the heap reaches B. -/
structure From (B : Nat) (a w : World) : Prop where
  below : Below B a w
  le : B ≤ w.heap.size
theorem From.start (w : World) : From w.heap.size w w := ⟨Below.refl _ _, Nat.le_refl _⟩
theorem From.alloc {B : Nat} {a w : World} (h : From B a w) (o : Obj) : From B a (w.alloc o) := ⟨h.below.alloc h.le o, by have := h.le; simp; omega⟩
theorem From.drew {B : Nat} {a w : World} (h : From B a w) : From B a w.drew := ⟨h.below.drew, h.le⟩
theorem From.drewN {B : Nat} {a w : World} (h : From B a w) (n : Nat) : From B a (w.drewN n) := ⟨⟨h.below.os, h.below.tape, h.below.output, h.below.size, h.below.block⟩, h.le⟩
theorem From.call {B : Nat} {a w w1 : World} (h : From B a w) (hb : Below w.heap.size w w1) : From B a w1 := ⟨h.below.trans (hb.mono h.le), Nat.le_trans h.le hb.size⟩
theorem From.trans {B : Nat} {a w w1 : World} (h : From B a w) (hb : Below B w w1) : From B a w1 := ⟨h.below.trans hb, Nat.le_trans h.le hb.size⟩
theorem From.setCell {B : Nat} {a w : World} (h : From B a w) {p : Addr} (hp : B ≤ p.block) (u : Value) : From B a (w.setCell p u) := ⟨h.below.setCell hp u, by have := h.le; simpa [World.setCell] using this⟩
theorem From.grown {B : Nat} {a w w1 : World} {row : Option Nat} (h : From B a w) (hg : w.grownBy w1 row) (hr : ∀ k, row = some k → B ≤ k) : From B a w1 := ⟨h.below.grown hg h.le hr, Nat.le_trans h.le hg.size⟩

/-- The cells of bytes. -/
def bvs (l : List UInt8) : List Value := l.map fun c => Value.int .u8 (c.toNat : Int)
theorem bvs_length (l : List UInt8) : (bvs l).length = l.length := by simp [bvs]
theorem bvs_append (l k : List UInt8) : bvs (l ++ k) = bvs l ++ bvs k := by simp [bvs]
theorem bvs_one (l : List UInt8) : ∀ u ∈ bvs l, u.oneCell' = true := by
  intro u hu; obtain ⟨_, _, rfl⟩ := List.mem_map.1 hu; rfl

/-- A value reads, in a world, as a slice of n elements with these cells. -/
def Reads (w : World) (size : Nat) (v : Value) (n : Nat) (xs : List Value) : Prop :=
  xs.length = n * size ∧ ∃ (a : Option Addr) (cap : Nat), v = .slice a n cap ∧ n ≤ cap ∧ cap ≤ maxLen ∧
    (a = none → cap = 0) ∧
    (0 < n → ∃ b off, a = some ⟨b, off, none⟩ ∧ ∀ j u, xs[j]? = some u → w.cell? ⟨b, off + j, none⟩ = some u)

theorem Reads.len {w : World} {size : Nat} {v : Value} {n : Nat} {xs : List Value} (h : Reads w size v n xs) : n ≤ maxLen := by
  obtain ⟨_, a, cap, _, h1, h2, _⟩ := h; omega
theorem Reads.nil (w : World) (size : Nat) : Reads w size (.slice none 0 0) 0 [] := ⟨by simp, none, 0, rfl, Nat.le_refl _, Nat.zero_le _, fun _ => rfl, fun h => by omega⟩

/-- What reads, reads on where the old blocks are as they were. -/
theorem Reads.below {w w' : World} {size : Nat} {v : Value} {n : Nat} {xs : List Value} {B : Nat} (h : Reads w size v n xs) (hB : w.heap.size ≤ B) (hb : Below B w w') : Reads w' size v n xs := by
  obtain ⟨h1, a, cap, rfl, h2, h3, h4, h5⟩ := h
  refine ⟨h1, a, cap, rfl, h2, h3, h4, fun hn => ?_⟩
  obtain ⟨b, off, rfl, hc⟩ := h5 hn
  refine ⟨b, off, rfl, fun j u hu => ?_⟩
  have h0 := hc j u hu
  have hlt : b < w.heap.size := World.block_lt_of_cell? w _ h0
  rw [hb.cell (p := ⟨b, off + j, none⟩) (show b < B by omega)]
  exact h0

/-- What the call itself owns, reads. -/
theorem reads_of_owns {w : World} {base : Nat} {e : TypeId} {size : Nat} {v : Value} {n : Nat} {xs : List Value} (h : w.ownsRow base e size v n xs) : Reads w size v n xs := by
  obtain ⟨h1, h2⟩ := h
  refine ⟨h1, ?_⟩
  rcases h2 with ⟨rfl, rfl⟩ | ⟨g, cap, cur, rfl, hb, hg, hn, hm, hs, ht⟩
  · exact ⟨none, 0, rfl, Nat.le_refl _, Nat.zero_le _, fun _ => rfl, fun h => by omega⟩
  · refine ⟨some ⟨g, 0, none⟩, cap, rfl, hn, hm, fun h => (by cases h), fun _ => ⟨g, 0, rfl, fun j u hu => ?_⟩⟩
    rw [Nat.zero_add, cell_of_row w g j cur e (0, 0) hg]
    rw [← ht, List.getElem?_take] at hu
    split at hu
    · simpa using hu
    · cases hu

/-- A slice of bytes. -/
def BytesAt (w : World) (v : Value) (l : List UInt8) : Prop := Reads w 1 v l.length (bvs l)
theorem BytesAt.below {w w' : World} {v : Value} {l : List UInt8} {B : Nat} (h : BytesAt w v l) (hB : w.heap.size ≤ B) (hb : Below B w w') : BytesAt w' v l := Reads.below h hB hb

/-- For a walk: the value spelled out, the cells. -/
theorem BytesAt.form {w : World} {v : Value} {l : List UInt8} (h : BytesAt w v l) :
    ∃ (a : Option Addr) (cap : Nat), v = .slice a l.length cap ∧ l.length ≤ cap ∧ cap ≤ maxLen ∧ (a = none → cap = 0) ∧
      (0 < l.length → ∃ b off, a = some ⟨b, off, none⟩ ∧ ∀ j (hj : j < l.length), w.cell? ⟨b, off + j, none⟩ = some (.int .u8 (l[j].toNat : Int))) := by
  obtain ⟨_, a, cap, rfl, h2, h3, h4, h5⟩ := h
  refine ⟨a, cap, rfl, h2, h3, h4, fun hn => ?_⟩
  obtain ⟨b, off, rfl, hc⟩ := h5 hn
  exact ⟨b, off, rfl, fun j hj => hc j _ (by simp [bvs, hj])⟩

theorem BytesAt.mk {w : World} {b off cap : Nat} {l : List UInt8} (h1 : l.length ≤ cap) (h2 : cap ≤ maxLen)
    (hc : ∀ j (hj : j < l.length), w.cell? ⟨b, off + j, none⟩ = some (.int .u8 (l[j].toNat : Int))) : BytesAt w (.slice (some ⟨b, off, none⟩) l.length cap) l := by
  refine ⟨by simp [bvs], _, cap, rfl, h1, h2, (fun h => by cases h), fun _ => ⟨b, off, rfl, fun j u hu => ?_⟩⟩
  simp only [bvs, List.getElem?_map, Option.map_eq_some_iff] at hu
  obtain ⟨c, hc', rfl⟩ := hu
  obtain ⟨hj, rfl⟩ := List.getElem?_eq_some_iff.1 hc'
  exact hc j hj

/-- Bytes that the call owns. -/
def OwnB (w : World) (base : Nat) (v : Value) (l : List UInt8) : Prop := w.ownsRow base 5 1 v l.length (bvs l)
theorem OwnB.reads {w : World} {base : Nat} {v : Value} {l : List UInt8} (h : OwnB w base v l) : BytesAt w v l := reads_of_owns h

theorem owns_call {w w' : World} {base : Nat} {e : TypeId} {size : Nat} {v : Value} {n : Nat} {xs : List Value} (h : w.ownsRow base e size v n xs) (hb : Below w.heap.size w w') : w'.ownsRow base e size v n xs := by
  refine ⟨h.1, ?_⟩
  rcases h.2 with h2 | ⟨g, cap, cur, hv, hg, hh, r⟩
  · exact .inl h2
  · exact .inr ⟨g, cap, cur, hv, hg, (hb.block g (Array.getElem?_eq_some_iff.1 hh).1).trans hh, r⟩
theorem OwnB.call {w w' : World} {base : Nat} {v : Value} {l : List UInt8} (h : OwnB w base v l) (hb : Below w.heap.size w w') : OwnB w' base v l := owns_call h hb

theorem info_u8 : (Try.prog.info? 5).map (fun i => (i.zero, i.size, i.bytes)) = some (some (.int .u8 0), 1, 1) := by kernel_rfl

/-- An argument that is a slice of bytes. -/
theorem open_bytesAt {H : Type} {enc : TypeId × Value → H} {W : World} {base : Nat} {v : Value} {d : DataW H} {p : List MemPlace}
    (hval : Value.okWide Try.prog W .any base 22 v) (h : DataW.Trod enc Try.prog W 0 (fun _ => true) true 22 v d p) : ∃ l : List UInt8, BytesAt W v l := by
  obtain ⟨a1, len, cap, rfl⟩ := okWide_slice Try.underlying22 hval
  obtain ⟨fuel, hf⟩ := h
  rcases open_ints Try.underlying22 Try.underlying5 (by kernel_rfl) hf with ⟨hcs, hx⟩ | ⟨a, len', cap', zs, hcs, _, hl, hm, hz, hx, hcell, hwz⟩
  · simp [Value.cells] at hcs
    obtain ⟨rfl, rfl, rfl⟩ := hcs
    exact ⟨[], Reads.nil _ _⟩
  · simp [Value.cells] at hcs
    obtain ⟨rfl, rfl, rfl⟩ := hcs
    simp only [if_true] at hz
    have hlen : ((zs.take len).map fun n => UInt8.ofNat n.toNat).length = len := by simp; omega
    refine ⟨(zs.take len).map fun n => UInt8.ofNat n.toNat, ?_⟩
    unfold BytesAt
    rw [hlen]
    refine ⟨by rw [bvs_length, hlen]; simp, some a, cap, rfl, hl, hm, fun h => (by cases h), fun hn => ?_⟩
    obtain ⟨ab, ao, spot⟩ := a
    have hspot : spot = none := by simpa [Addr.add] using World.cell?_spot (hcell 0 (by omega))
    subst hspot
    refine ⟨ab, ao, rfl, fun j u hu => ?_⟩
    have hj : j < len := by
      have := (List.getElem?_eq_some_iff.1 hu).1
      rw [bvs_length, hlen] at this; exact this
    have hcj := hcell j (by omega)
    rw [Addr.add_lit] at hcj
    rw [hcj]
    have hb := range_u8 hwz j
    have e : zs.getD j 0 = zs[j]'(by omega) := by simp [List.getD, List.getElem?_eq_getElem (show j < zs.length by omega)]
    rw [List.getD_eq_getElem?_getD] at e
    rw [e] at hb
    rw [List.getD_eq_getElem?_getD, e]
    have hu' : u = .int .u8 ((UInt8.ofNat (zs[j]'(by omega)).toNat).toNat : Int) := by
      simp only [bvs, List.map_map, List.getElem?_map, List.getElem?_take, hj, if_true, List.getElem?_eq_getElem (show j < zs.length by omega), Option.map_some, Option.some.injEq] at hu
      exact hu.symm
    rw [hu']
    congr 2
    simp only [UInt8.toNat_ofNat']
    omega

/-- append onto a slice that the call owns, whatever the source yields. -/
theorem run_append_src {P : Program} (w : World) (t tx ty : TypeId) (base : Nat) (e : TypeId) (i : TypeInfo) (z : Value) (ht : P.underlying t = some (.slice e)) (hi : P.info? e = some i) (hz : i.zero = some z)
    (hzs : z.cells.size = i.size) (hsz : 0 < i.size) (v : Value) (n : Nat) (xs : List Value) (hown : w.ownsRow base e i.size v n xs)
    (vx : Value) (m : Nat) (news : List Value) (hsrc : Src P i.size tx vx m news w) (h63 : n + m ≤ maxLen) (hbytes : (n + m) * i.bytes ≤ 140737488355328) (hbase : base ≤ w.heap.size) :
    ∃ v' w', (Builtin.append_ #[t, tx] ty #[v, vx]).run P w = .ok v' w' ∧ w'.ownsRow base e i.size v' (n + m) (xs ++ news) ∧ w.grownBy w' v.ownBlock := by
  have hlen : (xs ++ news).length = (n + m) * i.size := by rw [List.length_append, hown.1, hsrc.newsLen, Nat.add_mul]
  have hsmall : n + m ≤ 9223372036854775807 := by simp only [maxLen] at h63; omega
  have grown : ∀ (old : Nat), old < n + m → ∀ (row : Option Nat),
      (w.drew.alloc (.cells ((xs ++ news).toArray ++ Builtin.zeroCells z.cells (grownCap w (n + m) old e - (n + m))) e)).ownsRow base e i.size
        (.slice (some ⟨w.heap.size, 0, none⟩) (n + m) (grownCap w (n + m) old e)) (n + m) (xs ++ news) ∧
      w.grownBy (w.drew.alloc (.cells ((xs ++ news).toArray ++ Builtin.zeroCells z.cells (grownCap w (n + m) old e - (n + m))) e)) row := by
    intro old ho' row
    have hge := grownCap_ge w (n + m) old e
    have hcm : grownCap w (n + m) old e ≤ maxLen := grownCap_le_maxLen w (n + m) old e h63
    refine ⟨⟨hlen, .inr ⟨w.heap.size, _, _, rfl, hbase, heap_alloc_new w.drew _, hge, hcm, ?_, ?_⟩⟩, ⟨rfl, rfl, rfl, by simp, fun k hk _ => Below.heap_alloc w.drew _ k hk⟩⟩
    · simp only [Array.size_append, List.size_toArray, size_zeroCells, hzs, hlen, ← Nat.add_mul]
      congr 1
      omega
    · simp only [Array.toList_append]
      rw [← hlen]
      exact List.take_left
  rcases hown.2 with ⟨hv, rfl⟩ | ⟨g, cap, cur, hv, hb, hg, hnc, hcm, hcs, htk⟩
  · rw [hv]
    obtain rfl : xs = [] := List.eq_nil_of_length_eq_zero (by simpa using hown.1)
    by_cases hm0 : m = 0
    · subst hm0
      obtain rfl : news = [] := List.eq_nil_of_length_eq_zero (by simpa using hsrc.newsLen)
      refine ⟨.slice none 0 0, w, ?_, World.ownsRow_nil w base e i.size, ⟨rfl, rfl, rfl, Nat.le_refl _, fun _ _ _ => rfl⟩⟩
      have hfc := hsrc.cells
      rcases hsrc.kind with ⟨e', hk⟩ | hk <;> simp [Builtin.append_, run_underlying ht, run_underlying hk, sizeOf, typeInfo, hi, hsrc.len, hfc]
    · have g0 := grown 0 (by omega) (Value.slice none 0 0).ownBlock
      simp only [Nat.zero_add] at g0 ⊢
      have hr := run_append_grow_src w t tx ty e i z ht hi hz none 0 0 [] (run_firstCells_none w.drew i.size 0 0 0) _ m news hsrc (by omega) (by omega) (by simpa using growslice_fits (show 0 < 0 + m by omega) hbytes)
      simp only [Nat.zero_add] at hr
      exact ⟨_, _, hr, g0.1, g0.2⟩
  · rw [hv]
    have hxl : xs.length = n * i.size := hown.1
    have hnl := hsrc.newsLen
    by_cases hroom : n + m ≤ cap
    · have hfit : n * i.size + news.length ≤ cur.size := by rw [hnl, hcs, ← Nat.add_mul]; exact Nat.mul_le_mul_right _ hroom
      have hst := run_storeCells_at P g (n * i.size) e news 0 cur w hg (by simpa using hfit) hsrc.one
      simp only [Nat.add_zero] at hst
      have hr : (Builtin.append_ #[t, tx] ty #[.slice (some ⟨g, 0, none⟩) n cap, vx]).run P w =
          .ok (.slice (some ⟨g, 0, none⟩) (n + m) cap) (w.setRow g (cur.toList.take (n * i.size) ++ news ++ cur.toList.drop (n * i.size + news.length)).toArray) := by
        rcases hsrc.kind with ⟨e', hk⟩ | hk <;> simp [Builtin.append_, run_underlying ht, run_underlying hk, sizeOf, typeInfo, hi, hsrc.len, hroom, hsrc.cells, Addr.add_lit, hst]
      refine ⟨_, _, hr, ⟨hlen, .inr ⟨g, cap, _, rfl, hb, setRow_heap w g cur _ e _ hg, hroom, hcm, ?_, ?_⟩⟩, ⟨rfl, rfl, rfl, by simp, fun k _ hk => setRow_other w g k _ (fun e => hk (by simp [Value.ownBlock, e]))⟩⟩
      · simp only [List.size_toArray, List.length_append, List.length_take, List.length_drop, Array.length_toList]
        omega
      · rw [htk, ← hlen]
        exact List.take_left
    · have holds : ∀ j u, xs[j]? = some u → w.cell? ((⟨g, 0, none⟩ : Addr).add j) = some u := by
        rw [hv] at hown
        exact hown.cells (g := g) rfl
      have hr := run_append_grow_src w t tx ty e i z ht hi hz (some ⟨g, 0, none⟩) n cap xs (run_firstCells_some w.drew i.size n ⟨g, 0, none⟩ n cap xs hxl (by simpa using holds)) _ m news hsrc (by omega) (by omega) (growslice_fits (by omega) hbytes)
      have hgr := grown cap (by omega) (Value.ownBlock (.slice (some ⟨g, 0, none⟩) n cap))
      exact ⟨_, _, hr, hgr.1, hgr.2⟩

/-- THE LAW OF append onto a slice that the call owns, whatever the source yields. -/
theorem wpList_append_src {P : Program} {w : World} {ops : Array Oper} {rest : List Oper} {o : Oper} {a : Act} {Q : Exit → Act → World → Prop} (hgd : o.guard = none) (s x : Operand) (t tx : TypeId)
    (ho : o.op = .call { callee := .builtin .append, args := #[s, x], argTypes := #[t, tx] })
    (base : Nat) (e : TypeId) (i : TypeInfo) (z : Value) (size bytes : Nat) (ht : P.underlying t = some (.slice e)) (hi : P.info? e = some i) (hz : i.zero = some z)
    (hsize : i.size = size) (hby : i.bytes = bytes) (hzs : z.cells.size = size) (hsz : 0 < size)
    (v : Value) (n : Nat) (xs : List Value) (hs : a.eval s = v) (hown : w.ownsRow base e size v n xs)
    (vx : Value) (m : Nat) (news : List Value) (hx : a.eval x = vx) (hsrc : Src P size tx vx m news w)
    (h63 : n + m ≤ maxLen) (hbytes : (n + m) * bytes ≤ 140737488355328) (hbase : base ≤ w.heap.size)
    (h : ∀ v' w', w'.ownsRow base e size v' (n + m) (xs ++ news) → w.grownBy w' v.ownBlock → wpList P ops Q rest (a.put o.dst v') w') : wpList P ops Q (o :: rest) a w := by
  subst hsize hby hs hx
  refine wpList_plain hgd fun K hK => ?_
  obtain ⟨v', w', hrun, h1, h2⟩ := run_append_src w t tx o.type base e i z ht hi hz hzs hsz _ n xs hown _ m news hsrc h63 hbytes hbase
  unfold Oper.wp
  simp [execOp, ho, resolve, invoke, builtin, hrun, Result.andThen]
  exact hK _ _ (h v' w' h1 h2)

/-- The same as one step of a region that draws its order. -/
theorem step_append_src {P : Program} {ops : Array Oper} {o : Oper} {a : Act} {w : World} {K : Act → World → Prop} {Q : Exit → Act → World → Prop} {E : Prop}
    (hgd : o.guard = none) (s x : Operand) (t tx : TypeId) (ho : o.op = .call { callee := .builtin .append, args := #[s, x], argTypes := #[t, tx] })
    (base : Nat) (e : TypeId) (i : TypeInfo) (z : Value) (size bytes : Nat) (ht : P.underlying t = some (.slice e)) (hi : P.info? e = some i) (hz : i.zero = some z)
    (hsize : i.size = size) (hby : i.bytes = bytes) (hzs : z.cells.size = size) (hsz : 0 < size)
    (v : Value) (n : Nat) (xs : List Value) (hs : a.eval s = v) (hown : w.ownsRow base e size v n xs)
    (vx : Value) (m : Nat) (news : List Value) (hx : a.eval x = vx) (hsrc : Src P size tx vx m news w)
    (h63 : n + m ≤ maxLen) (hbytes : (n + m) * bytes ≤ 140737488355328) (hbase : base ≤ w.heap.size)
    (h : ∀ v' w', w'.ownsRow base e size v' (n + m) (xs ++ news) → w.grownBy w' v.ownBlock → K (a.put o.dst v') w') : if Region.wanted o (yielded ops a.tmps) = true then Oper.wp P o a w K Q else E := by
  have hw : Region.wanted o (yielded ops a.tmps) = true := by simp [Region.wanted, hgd]
  rw [if_pos hw]
  subst hsize hby hs hx
  obtain ⟨v', w', hrun, h1, h2⟩ := run_append_src w t tx o.type base e i z ht hi hz hzs hsz _ n xs hown _ m news hsrc h63 hbytes hbase
  unfold Oper.wp
  simp [execOp, ho, resolve, invoke, builtin, hrun, Result.andThen]
  exact h v' w' h1 h2

/-- The source of an append of new cells. -/
theorem src_new {P : Program} {tx e' : TypeId} (hk : P.underlying tx = some (.slice e')) (w : World) (us : List Value) (size n c : Nat) (e : TypeId) (hl : us.length = n * size) (h1 : ∀ u ∈ us, u.oneCell' = true) :
    Src P size tx (.slice (some ⟨w.heap.size, 0, none⟩) n c) n us (w.alloc (.cells us.toArray e)) :=
  Src.ofSlice _ hk ⟨w.heap.size, 0, none⟩ n c us hl (fun j u hu => by
    rw [Addr.add_lit, Nat.zero_add, cell_of_row (w.alloc (.cells us.toArray e)) w.heap.size j us.toArray e (0, 0) (heap_alloc_new w _)]
    simpa using hu) h1
theorem src_blk {P : Program} {tx e' : TypeId} (hk : P.underlying tx = some (.slice e')) (w : World) (g : Nat) (us : List Value) (size n c : Nat) (e : TypeId) (hg : w.heap[g]? = some (.cells us.toArray e (0, 0))) (hl : us.length = n * size) (h1 : ∀ u ∈ us, u.oneCell' = true) :
    Src P size tx (.slice (some ⟨g, 0, none⟩) n c) n us w :=
  Src.ofSlice _ hk ⟨g, 0, none⟩ n c us hl (fun j u hu => by
    rw [Addr.add_lit, Nat.zero_add, cell_of_row w g j us.toArray e (0, 0) hg]
    simpa using hu) h1
/-- The source of an append of what reads. -/
theorem src_reads {P : Program} {tx e' : TypeId} (hk : P.underlying tx = some (.slice e')) {w : World} {size : Nat} {v : Value} {n : Nat} {xs : List Value} (h : Reads w size v n xs) (h1 : ∀ u ∈ xs, u.oneCell' = true) :
    Src P size tx v n xs w := by
  obtain ⟨hl, a, cap, rfl, h2, h3, h4, h5⟩ := h
  rcases Nat.eq_zero_or_pos n with rfl | hn
  · obtain rfl : xs = [] := List.eq_nil_of_length_eq_zero (by simpa using hl)
    cases a with
    | none => obtain rfl := h4 rfl; exact Src.ofNil w hk 0
    | some a => exact Src.ofSlice w hk a 0 cap [] hl (fun j u hu => by simp at hu) h1
  · obtain ⟨b, off, rfl, hc⟩ := h5 hn
    exact Src.ofSlice w hk ⟨b, off, none⟩ n cap xs hl (fun j u hu => by rw [Addr.add_lit]; exact hc j u hu) h1
/-- What is owned has the form of a slice. -/
theorem owns_form {w : World} {base : Nat} {e : TypeId} {size : Nat} {v : Value} {n : Nat} {xs : List Value} (h : w.ownsRow base e size v n xs) : ∃ a cap, v = .slice a n cap := by
  rcases h.2 with ⟨rfl, rfl⟩ | ⟨g, cap, cur, rfl, _⟩
  · exact ⟨none, 0, rfl⟩
  · exact ⟨_, cap, rfl⟩
theorem owns_block {w : World} {base : Nat} {e : TypeId} {size : Nat} {v : Value} {n : Nat} {xs : List Value} (h : w.ownsRow base e size v n xs) : ∀ k, v.ownBlock = some k → base ≤ k := fun k hk => (h.lt k hk).1
end Go.Proofs.Ythenijikmjffjaa
