/- The program's reader: bytes and numbers taken. What the program's reader keeps: sections, numbers, bytes. -/
import Derived.Test.YtkefbhidfbnipaaPlainQ
import Derived.Test.YtkefbhidfbnipaaSec
import Derived.Test.YtkefbhidfbnipaaPick
import Derived.Test.YtkefbhidfbnipaaKeepI
import Derived.Test.YtkefbhidfbnipaaInts
namespace Go.Proofs.Ytkefbhidfbnipaa
/-! ReadI -/
open Go.ChangeShapes Go.WideShapes Go.ChangeAt Go.RowKit Go.Joins
set_option linter.unusedSimpArgs false
set_option linter.unusedVariables false
set_option maxRecDepth 100000
/-- A reader of the program: its bytes lie below it. -/
def PartAt (w : World) (g : Nat) (s : RdL) : Prop := ∃ v, Blk w g #[v, .bool s.bad] 69 ∧ BytesAt w v s.left ∧ (∀ b off n c, v = .slice (some ⟨b, off, none⟩) n c → 0 < n → b < g)
/-- What taking ends in. -/
def TakeB (w : World) (g n : Nat) (s : RdL) (e : Ending) (w' : World) : Prop := ∃ r, e = .returned r ∧ BytesAt w' r (takeR n s).1 ∧ (∀ b off m c, r = .slice (some ⟨b, off, none⟩) m c → 0 < m → b < g ∨ w.heap.size ≤ b) ∧ PartAt w' g (takeR n s).2 ∧ w.grownBy w' (some g)
theorem part_set (w : World) (g o : Nat) (u : Value) : w.grownBy (w.setCell ⟨g, o, none⟩ u) (some g) :=
  ⟨rfl, rfl, rfl, by simp [World.setCell], fun k _ hk => Below.heap_setCell w _ _ k (fun e => hk (by rw [e]))⟩
theorem bvs_dropR (l : List UInt8) (n : Nat) : bvs (l.drop n) = (bvs l).drop n := by unfold bvs; rw [List.map_drop]
theorem bvs_takeR (l : List UInt8) (n : Nat) : bvs (l.take n) = (bvs l).take n := by unfold bvs; rw [List.map_take]
set_option maxHeartbeats 1000000 in
theorem partTake_any (w : World) (g n : Nat) (s : RdL) (h : PartAt w g s) (hn : n ≤ 1073741824) :
    Calls Try.prog 39 #[.pointer (some ⟨g, 0, none⟩), .int .i64 n] w (TakeB w g n s) := by
  obtain ⟨u0, hu0, ua0, ua1, ua2⟩ := info_parts info_u8
  obtain ⟨v, hB, hr, hne⟩ := h
  obtain ⟨a, cap, rfl, hcap, hmax, hnone, hcell⟩ := hr.form
  have hc0 := hB.cell 0
  have hc1 := hB.cell 1
  have hf := hB.frozen 0
  have hf1 := hB.frozen 1
  have zb := hB.lt
  have HB := Lib.hid hB
  have HR := Lib.hid hr
  have HE := Lib.hid hcell
  have HNE := Lib.hid hne
  have HNO := Lib.hid hnone
  clear hB hr hcell hne hnone
  unfold maxLen at hmax
  by_cases hl : n ≤ s.left.length
  · have i1 : ¬ (s.left.length : Int) < (n : Int) := by omega
    have i2 : (n : Int) ≤ (s.left.length : Int) := by omega
    have i3 : (n : Int) ≤ (cap : Int) := by omega
    have ht : takeR n s = (s.left.take n, ⟨s.left.drop n, s.bad⟩) := by unfold takeR; rw [if_pos hl]
    have hout : BytesAt w (.slice a n n) (s.left.take n) := by
      have hlen : (s.left.take n).length = n := by rw [List.length_take]; omega
      unfold BytesAt
      rw [hlen]
      refine ⟨by rw [bvs_length, hlen]; simp, a, n, rfl, Nat.le_refl _, by unfold maxLen; omega, fun e => by have := HNO.out e; omega, fun h0 => ?_⟩
      obtain ⟨b, off, rfl, hc⟩ := HE.out (by omega)
      refine ⟨b, off, rfl, fun j u hu => ?_⟩
      have hj : j < n := by have := (List.getElem?_eq_some_iff.1 hu).1; rw [bvs_length, hlen] at this; exact this
      rw [hc j (by omega)]
      have hg : (s.left.take n)[j]? = some s.left[j] := by rw [List.getElem?_take_of_lt hj, List.getElem?_eq_getElem (by omega)]
      simp only [bvs, List.getElem?_map, hg, Option.map_some] at hu
      exact hu
    have hrest : ∀ a' c', (cap = n → a' = a ∧ c' = 0) → (cap ≠ n → a' = a.map (fun x => x.add n) ∧ c' = cap - n) → BytesAt w (.slice a' (s.left.length - n) c') (s.left.drop n) ∧ ∀ b off m c, Value.slice a' (s.left.length - n) c' = .slice (some ⟨b, off, none⟩) m c → 0 < m → b < g := by
      intro a' c' h1 h2
      have hlen : (s.left.drop n).length = s.left.length - n := by rw [List.length_drop]
      have hc' : c' = cap - n := by
        by_cases hcn : cap = n
        · rw [(h1 hcn).2]; omega
        · exact (h2 hcn).2
      subst hc'
      have hcells : 0 < s.left.length - n → ∃ b off, a = some ⟨b, off, none⟩ ∧ a' = some ⟨b, off + n, none⟩ ∧ ∀ (j : Nat) (hj : j < s.left.length), w.cell? ⟨b, off + j, none⟩ = some (.int .u8 (s.left[j].toNat : Int)) := by
        intro h0
        obtain ⟨b, off, hab, hc⟩ := HE.out (by omega)
        refine ⟨b, off, hab, ?_, hc⟩
        rw [(h2 (by omega)).1, hab]
        simp [Addr.add]
      refine ⟨?_, fun b off m c e hm => ?_⟩
      · unfold BytesAt
        rw [hlen]
        refine ⟨by rw [bvs_length, hlen]; simp, a', cap - n, rfl, by omega, by unfold maxLen; omega, fun e => ?_, fun h0 => ?_⟩
        · by_cases hcn : cap = n
          · omega
          · have := (h2 hcn).1
            rw [e] at this
            have hn : a = none := by cases a <;> simp at this ⊢
            have := HNO.out hn
            omega
        · obtain ⟨b, off, -, ha', hc⟩ := hcells h0
          refine ⟨b, off + n, ha', fun j u hu => ?_⟩
          have hj : n + j < s.left.length := by have := (List.getElem?_eq_some_iff.1 hu).1; rw [bvs_length, hlen] at this; omega
          rw [Nat.add_assoc, hc (n + j) hj]
          rw [bvs_dropR, List.getElem?_drop] at hu
          simp only [bvs, List.getElem?_map, List.getElem?_eq_getElem hj, Option.map_some] at hu
          exact hu
      · simp only [Value.slice.injEq] at e
        obtain ⟨ea, em, -⟩ := e
        obtain ⟨b', off', hab, ha', -⟩ := hcells (by omega)
        rw [ha'] at ea
        simp only [Option.some.injEq, Addr.mk.injEq] at ea
        have := HNE.out b' off' s.left.length cap (by rw [hab]) (by omega)
        omega
    have houtN : ∀ b off m c, Value.slice a n n = .slice (some ⟨b, off, none⟩) m c → 0 < m → b < g := fun b off m c e hm => by
      simp only [Value.slice.injEq] at e
      exact HNE.out b off s.left.length cap (by rw [e.1]) (by omega)
    have HON := Lib.hid houtN
    have HREST := Lib.hid hrest
    have HOUT := Lib.hid hout
    have HT := Lib.hid ht
    clear hout ht hrest houtN
    go_enter Try.func39, Try.ntmps39
    go_wp2_with fail
    · have hcn : cap = n := h
      go_ret
      obtain ⟨r1, r2⟩ := HREST.out a 0 (fun _ => ⟨rfl, rfl⟩) (fun h => absurd hcn h)
      refine ⟨_, rfl, by rw [HT.out]; exact Reads.grown HOUT.out (part_set w g 0 _) (fun b off m c e hm h => by have := HON.out b off m c e hm; simp only [Option.some.injEq] at h; omega), (fun b off m c e hm => .inl (HON.out b off m c e hm)), ?_, part_set w g 0 _⟩
      rw [HT.out]
      refine ⟨_, ?_, Reads.grown r1 (part_set w g 0 _) (fun b off m c e hm h => by have := r2 b off m c e hm; simp only [Option.some.injEq] at h; omega), r2⟩
      have := HB.out.set (o := 0) (.slice a (s.left.length - n) 0)
      simpa using this
    · have hcn : cap ≠ n := h
      go_ret
      obtain ⟨r1, r2⟩ := HREST.out (a.map (fun x => x.add n)) (cap - n) (fun h => absurd h hcn) (fun _ => ⟨rfl, rfl⟩)
      refine ⟨_, rfl, by rw [HT.out]; exact Reads.grown HOUT.out (part_set w g 0 _) (fun b off m c e hm h => by have := HON.out b off m c e hm; simp only [Option.some.injEq] at h; omega), (fun b off m c e hm => .inl (HON.out b off m c e hm)), ?_, part_set w g 0 _⟩
      rw [HT.out]
      refine ⟨_, ?_, Reads.grown r1 (part_set w g 0 _) (fun b off m c e hm h => by have := r2 b off m c e hm; simp only [Option.some.injEq] at h; omega), r2⟩
      have := HB.out.set (o := 0) (.slice (a.map (fun x => x.add n)) (s.left.length - n) (cap - n))
      simpa using this
  · have i1 : (s.left.length : Int) < (n : Int) := by omega
    go_enter Try.func39, Try.ntmps39
    go_wp2_with (at_make; refine wpList_make_full _ rfl _ _ 22 rfl w.heap.size 5 u0 (.int .u8 0) 1 Try.underlying22 hu0 ua0 ua1 _ _ _ _ n rfl rfl rfl rfl ?c1 ?c2 ?c3 ?_)
    case c1 => rw [ua2]; omega
    case c2 => unfold maxLen; omega
    case c3 => simp
    intro w1 hown hgr
    have ht : takeR n s = (List.replicate n 0, ⟨s.left, true⟩) := by unfold takeR; rw [if_neg hl]
    have HT := Lib.hid ht
    have hG : w.grownBy w1 (some g) := (part_set w g 1 (.bool true)).trans ⟨hgr.os, hgr.tape, hgr.output, hgr.size, fun i hi _ => hgr.block i hi (by intro h; cases h)⟩
    have hB1 : Blk w1 g #[.slice a s.left.length cap, .bool true] 69 := by
      have := HB.out.set (o := 1) (.bool true)
      exact Blk.grown (by simpa using this) hgr (fun e => by cases e)
    have HG := Lib.hid hG
    have HB1 := Lib.hid hB1
    have HOWN := Lib.hid hown
    clear hG hB1 hown hgr ht
    go_wp2_with fail
    go_ret
    refine ⟨_, rfl, ?_, ?_, ?_, HG.out⟩
    · rw [HT.out]
      have h1 := reads_of_owns HOWN.out
      have e : (madeCells #[Value.int .u8 0] n).toList = bvs (List.replicate n (0 : UInt8)) := by rw [toList_madeCells_one]; simp [bvs]
      rw [e] at h1
      unfold BytesAt
      simp only [List.length_replicate]
      exact h1
    · intro b off m c e hm
      have e1 : w.heap.size = b := by injection e with e1; injection e1 with e2; injection e2
      right; omega
    · rw [HT.out]
      exact ⟨_, HB1.out, Reads.grown HR.out HG.out (fun b off m c e hm h => by have := HNE.out b off m c e hm; simp only [Option.some.injEq] at h; omega), HNE.out⟩
/-- What a number's taking ends in. -/
def NumB (w : World) (g n : Nat) (s : RdL) (e : Ending) (w' : World) : Prop := e = .returned (.int .i64 (numR n s).1) ∧ PartAt w' g (numR n s).2 ∧ w.grownBy w' (some g)
set_option maxHeartbeats 1000000 in
theorem partNum_any (w : World) (g n : Nat) (s : RdL) (h : PartAt w g s) (h1 : 1 ≤ n) (hn : n ≤ 4) :
    Calls Try.prog 38 #[.pointer (some ⟨g, 0, none⟩), .int .i64 n] w (NumB w g n s) := by
  have H := Lib.hid h
  clear h
  go_enter Try.func38, Try.ntmps38
  go_wp2_with fail
  refine (partTake_any w g n s H.out (by omega)).mono ?_
  rintro e w1 ⟨r, rfl, hr, -, hP, hG⟩
  have hl : (takeR n s).1.length = n := takeR_length n s
  have E : getNum (takeR n s).1 0 (n : Int) = (numR n s).1 := by
    rw [getNum_of ((withinB_iff _ _ _).2 ⟨by omega, by omega⟩) ((withinB_iff _ _ _).2 ⟨by omega, by rw [hl]; omega⟩)]
    show leNum (((takeR n s).1.drop 0).take n) = leNum (takeR n s).1
    rw [List.drop_zero, List.take_of_length_le (by omega)]
  have HE := Lib.hid E
  have HR := Lib.hid hr
  have HP := Lib.hid hP
  have HG := Lib.hid hG
  clear E hr hP hG hl
  go_wp2_with fail
  refine (i_GetNumber w1 _ (takeR n s).1 HR.out 0 (n : Int)).mono ?_
  rw [HE.out]
  rintro e w2 ⟨rfl, rfl⟩
  go_wp2_with fail
  go_ret
  exact ⟨rfl, HP.out, HG.out⟩
/-! ReadK -/
open Go.ChangeShapes Go.WideShapes Go.ChangeAt Go.RowKit Go.Joins
set_option linter.unusedSimpArgs false
set_option linter.unusedVariables false
set_option maxRecDepth 100000
theorem PartAt.grown {w w' : World} {g : Nat} {s : RdL} (h : PartAt w g s) {row : Option Nat} (hg : w.grownBy w' row) (hr : ∀ k, row = some k → g < k) : PartAt w' g s := by
  obtain ⟨v, hB, hR, hne⟩ := h
  exact ⟨v, hB.grown hg (fun e => by have := hr g e.symm; omega), Reads.grown hR hg (fun b off n c e hn h => by have := hne b off n c e hn; have := hr b h.symm; omega), hne⟩
theorem PartAt.lt {w : World} {g : Nat} {s : RdL} (h : PartAt w g s) : g < w.heap.size := by obtain ⟨v, hB, _⟩ := h; exact hB.lt
theorem PartAt.call {w w' : World} {g : Nat} {s : RdL} (h : PartAt w g s) (hb : Below w.heap.size w w') : PartAt w' g s := by
  obtain ⟨v, hB, hR, hne⟩ := h
  exact ⟨v, hB.call hb, Reads.below hR (Nat.le_refl _) hb, hne⟩
theorem PartAt.alloc {w : World} {g : Nat} {s : RdL} (h : PartAt w g s) (o : Obj) : PartAt (w.alloc o) g s := h.call ((From.start w).alloc o).below
theorem PartAt.set {w : World} {g k : Nat} {s : RdL} (h : PartAt w g s) (hk : g < k) (o : Nat) (u : Value) : PartAt (w.setCell ⟨k, o, none⟩ u) g s :=
  h.grown (part_set w k o u) (fun j hj => by simp only [Option.some.injEq] at hj; omega)
/-- Bytes from a place on. -/
theorem bytes_drop {w : World} {a sa : Option Addr} {cap : Nat} {l : List UInt8} (n : Nat) (hn : n ≤ l.length) (h : BytesAt w (.slice a l.length cap) l) (h1 : cap = n → sa = a) (h2 : cap ≠ n → sa = a.map (fun x => x.add n)) :
    BytesAt w (.slice sa (l.length - n) (cap - n)) (l.drop n) ∧ ∀ b off m c, Value.slice sa (l.length - n) (cap - n) = .slice (some ⟨b, off, none⟩) m c → 0 < m → b < w.heap.size := by
  obtain ⟨a', cap', hv, hcap, hmax, hnone, hcell⟩ := h.form
  injection hv with e1 e2 e3
  subst e1 e3
  have hlen : (l.drop n).length = l.length - n := by rw [List.length_drop]
  have hcells : 0 < l.length - n → ∃ b off, a = some ⟨b, off, none⟩ ∧ sa = some ⟨b, off + n, none⟩ ∧ ∀ (j : Nat) (hj : j < l.length), w.cell? ⟨b, off + j, none⟩ = some (.int .u8 (l[j].toNat : Int)) := by
    intro h0
    obtain ⟨b, off, hab, hc⟩ := hcell (by omega)
    refine ⟨b, off, hab, ?_, hc⟩
    rw [h2 (by omega), hab]
    simp [Addr.add]
  refine ⟨?_, fun b off m c e hm => ?_⟩
  · unfold BytesAt
    rw [hlen]
    refine ⟨by rw [bvs_length, hlen]; simp, sa, cap - n, rfl, by omega, by unfold maxLen at hmax ⊢; omega, fun e => ?_, fun h0 => ?_⟩
    · by_cases hcn : cap = n
      · omega
      · have := h2 hcn
        rw [e] at this
        have hn : a = none := by cases a <;> simp at this ⊢
        have := hnone hn
        omega
    · obtain ⟨b, off, -, ha', hc⟩ := hcells h0
      refine ⟨b, off + n, ha', fun j u hu => ?_⟩
      have hj : n + j < l.length := by have := (List.getElem?_eq_some_iff.1 hu).1; rw [bvs_length, hlen] at this; omega
      rw [Nat.add_assoc, hc (n + j) hj]
      rw [bvs_dropR, List.getElem?_drop] at hu
      simp only [bvs, List.getElem?_map, List.getElem?_eq_getElem hj, Option.map_some] at hu
      exact hu
  · simp only [Value.slice.injEq] at e
    obtain ⟨ea, em, -⟩ := e
    obtain ⟨b', off', hab, ha', hc⟩ := hcells (by omega)
    rw [ha'] at ea
    simp only [Option.some.injEq, Addr.mk.injEq] at ea
    have := World.block_lt_of_cell? w _ (hc 0 (by omega))
    simp only at this
    omega
/-- An object and whether there is one, handed back. -/
def RetRd (w : World) (o : Option ObjD) (e : Ending) (w' : World) : Prop := ∃ r, e = .returned (.tuple #[r, .bool o.isSome]) ∧ OwnObj w' w.heap.size r (o.getD ⟨[], []⟩) ∧ Below w.heap.size w w'
theorem ownObj_zero (u : World) (B : Nat) : OwnObj u B (.agg #[.slice none 0 0, .slice none 0 0]) ⟨[], []⟩ :=
  ⟨_, _, [], rfl, rfl, ⟨World.ownsRow_nil _ _ _ _, (fun x hx => by cases hx), by simp [blksOf, Value.ownBlock]⟩, World.ownsRow_nil _ _ _ _, (fun k hk => by cases hk)⟩
theorem kept_row {u u' : World} {B size n : Nat} {e : TypeId} {v : Value} {xs : List Value} {row : Option Nat} (h : u.ownsRow B e size v n xs) (hg : u.grownBy u' row) (hne : ∀ q, v.ownBlock = some q → row ≠ some q) : u'.ownsRow B e size v n xs := by
  refine World.ownsRow.kept h hg ?_
  cases hq : v.ownBlock with
  | none => exact .inl rfl
  | some q => exact .inr fun e => hne q hq e.symm
/-- Three rows of numbers that lie apart. -/
structure Three (u : World) (B : Nat) (p z m : Value) (P Z M : List Int) : Prop where
  op : OwnI u B p P
  oz : OwnI u B z Z
  om : OwnI u B m M
  pz : ∀ q, p.ownBlock = some q → z.ownBlock ≠ some q
  pm : ∀ q, p.ownBlock = some q → m.ownBlock ≠ some q
  zm : ∀ q, z.ownBlock = some q → m.ownBlock ≠ some q
theorem Three.keep {u u' : World} {B : Nat} {p z m : Value} {P Z M : List Int} (h : Three u B p z m P Z M) {row : Option Nat} (hg : u.grownBy u' row) (hr : ∀ q, B ≤ q → row ≠ some q) : Three u' B p z m P Z M :=
  ⟨kept_row h.op hg fun q hq => hr q (World.ownsRow.lt h.op q hq).1, kept_row h.oz hg fun q hq => hr q (World.ownsRow.lt h.oz q hq).1, kept_row h.om hg fun q hq => hr q (World.ownsRow.lt h.om q hq).1, h.pz, h.pm, h.zm⟩
theorem Three.call {u u' : World} {B : Nat} {p z m : Value} {P Z M : List Int} (h : Three u B p z m P Z M) (hb : Below u.heap.size u u') : Three u' B p z m P Z M :=
  ⟨owns_call h.op hb, owns_call h.oz hb, owns_call h.om hb, h.pz, h.pm, h.zm⟩
theorem Three.alloc {u : World} {B : Nat} {p z m : Value} {P Z M : List Int} (h : Three u B p z m P Z M) (o : Obj) : Three (u.alloc o) B p z m P Z M := h.call ((From.start u).alloc o).below
theorem Three.other {u u' : World} {B size n : Nat} {e : TypeId} {v : Value} {xs : List Value} {p z m : Value} {P Z M : List Int} (h : Three u B p z m P Z M) (hv : u.ownsRow B e size v n xs) (hne : 3 ≠ e) (hg : u.grownBy u' v.ownBlock) : Three u' B p z m P Z M :=
  ⟨owns_keptNe h.op hv hne hg, owns_keptNe h.oz hv hne hg, owns_keptNe h.om hv hne hg, h.pz, h.pm, h.zm⟩
theorem Three.addP {u u' : World} {B : Nat} {p p' z m : Value} {P P' Z M : List Int} (h : Three u B p z m P Z M) (ho : OwnI u' B p' P') (hg : u.grownBy u' p.ownBlock) (hp : p'.ownBlock = p.ownBlock ∨ p'.ownBlock = some u.heap.size) : Three u' B p' z m P' Z M := by
  refine ⟨ho, kept_row h.oz hg fun q hq hr => h.pz q hr hq, kept_row h.om hg fun q hq hr => h.pm q hr hq, fun q hq hz => ?_, fun q hq hm => ?_, h.zm⟩
  · rcases hp with hp | hp
    · exact h.pz q (hp ▸ hq) hz
    · have := (World.ownsRow.lt h.oz q hz).2; rw [hp] at hq; simp only [Option.some.injEq] at hq; omega
  · rcases hp with hp | hp
    · exact h.pm q (hp ▸ hq) hm
    · have := (World.ownsRow.lt h.om q hm).2; rw [hp] at hq; simp only [Option.some.injEq] at hq; omega
theorem Three.rot {u : World} {B : Nat} {p z m : Value} {P Z M : List Int} (h : Three u B p z m P Z M) : Three u B z m p Z M P :=
  ⟨h.oz, h.om, h.op, h.zm, fun q hz hp => h.pz q hp hz, fun q hm hp => h.pm q hp hm⟩
/-- A section as it is first laid down. -/
def secT (h : SecH) : SecD × Value × Value := (sec0 h, .slice none 0 0, .slice none 0 0)
theorem nodup_swap {V D B F R B' F' : List Nat} {m : Nat} (h : (V ++ (D ++ ((B ++ F) ++ R))).Nodup) (hlt : ∀ k ∈ V ++ (D ++ ((B ++ F) ++ R)), k < m) (hB : B'.Nodup) (hF : F'.Nodup)
    (h1 : ∀ k ∈ B', k ∈ B ∨ m ≤ k) (h2 : ∀ k ∈ F', k ∈ F ∨ m ≤ k) (h3 : ∀ k ∈ B', k ∉ F') : (V ++ (D ++ ((B' ++ F') ++ R))).Nodup := by
  simp only [List.nodup_append, List.mem_append] at h hlt ⊢
  obtain ⟨a1, ⟨a2, ⟨⟨a3, a4, a5⟩, a6, a7⟩, a8⟩, a9⟩ := h
  refine ⟨a1, ⟨a2, ⟨⟨hB, hF, fun a ha b hb e => h3 a ha (e ▸ hb)⟩, a6, fun a ha b hb e => ?_⟩, fun a ha b hb e => ?_⟩, fun a ha b hb e => ?_⟩
  · subst e
    rcases ha with ha | ha
    · rcases h1 a ha with h | h
      · exact a7 a (.inl h) a hb rfl
      · have := hlt a (.inr (.inr (.inr hb))); omega
    · rcases h2 a ha with h | h
      · exact a7 a (.inr h) a hb rfl
      · have := hlt a (.inr (.inr (.inr hb))); omega
  · subst e
    rcases hb with (hb | hb) | hb
    · rcases h1 a hb with h | h
      · exact a8 a ha a (.inl (.inl h)) rfl
      · have := hlt a (.inr (.inl ha)); omega
    · rcases h2 a hb with h | h
      · exact a8 a ha a (.inl (.inr h)) rfl
      · have := hlt a (.inr (.inl ha)); omega
    · exact a8 a ha a (.inr hb) rfl
  · subst e
    rcases hb with hb | (hb | hb) | hb
    · exact a9 a ha a (.inl hb) rfl
    · rcases h1 a hb with h | h
      · exact a9 a ha a (.inr (.inl (.inl h))) rfl
      · have := hlt a (.inl ha); omega
    · rcases h2 a hb with h | h
      · exact a9 a ha a (.inr (.inl (.inr h))) rfl
      · have := hlt a (.inl ha); omega
    · exact a9 a ha a (.inr (.inr hb)) rfl
/-- A part of one section is a new one, that is stored in its row. -/
theorem OwnSecs.newPart {w w' : World} {base g n cap : Nat} {bs : List Nat} {D R : List (SecD × Value × Value)} {x x' : SecD × Value × Value} (h : OwnSecs w base (.slice (some ⟨g, 0, none⟩) n cap) (D ++ x :: R)) (hn : n = (D ++ x :: R).length) (j : Nat) (u : Value) (hj : j < 6) (hx : secL x' = (secL x).set j u)
    (ho : Other bs w w') (hd : ∀ k ∈ bs, x.2.2.ownBlock = some k ∨ k < base) (hb : OwnB w' base x'.2.1 x'.1.bytes) (hf : OwnF w' base x'.2.2 x'.1.fix)
    (h1 : ∀ k, x'.2.1.ownBlock = some k → x.2.1.ownBlock = some k ∨ w.heap.size ≤ k) (h2 : ∀ k, x'.2.2.ownBlock = some k → x.2.2.ownBlock = some k ∨ w.heap.size ≤ k) (h3 : ∀ k, x'.2.1.ownBlock = some k → x'.2.2.ownBlock ≠ some k) :
    OwnSecs (w'.setCell ⟨g, D.length * 6 + j, none⟩ u) base (.slice (some ⟨g, 0, none⟩) n cap) (D ++ x' :: R) ∧ w'.ownsRow base 52 6 (.slice (some ⟨g, 0, none⟩) n cap) n ((D ++ x :: R).flatMap secL) := by
  subst hn
  obtain ⟨p1, p2, p3⟩ := h.parts
  have hl := h.lt
  have hk0 : g ∈ (Value.slice (some ⟨g, 0, none⟩) (D ++ x :: R).length cap).ownBlock.toList := by simp [Value.ownBlock]
  have hgl := (hl g (List.mem_append_left _ hk0)).2
  have hgb := (hl g (List.mem_append_left _ hk0)).1
  have p4 := p3 g hk0
  have ho2 : Other [g] w' (w'.setCell ⟨g, D.length * 6 + j, none⟩ u) := Other.setCell (by simp) u
  have r1 : w'.ownsRow base 52 6 (.slice (some ⟨g, 0, none⟩) (D ++ x :: R).length cap) (D ++ x :: R).length ((D ++ x :: R).flatMap secL) := owns_other h.row ho fun k hk e => by
      have : k = g := by simpa [Value.ownBlock, eq_comm] using hk
      subst this
      rcases hd _ e with e | e
      · exact p4.2.2.1 (by simpa using e)
      · omega
  refine ⟨⟨?_, fun y hy => ?_, ?_⟩, r1⟩
  · have r2 := (r1.stored (D.length * 6 + j) u).1
    rw [flat_set secL 6 secL_length D R x x' j u hj hx] at r2
    rw [show (D ++ x' :: R).length = (D ++ x :: R).length by simp]
    exact r2
  · have old : ∀ y, y ∈ D ∨ y ∈ R → OwnB (w'.setCell ⟨g, D.length * 6 + j, none⟩ u) base y.2.1 y.1.bytes ∧ OwnF (w'.setCell ⟨g, D.length * 6 + j, none⟩ u) base y.2.2 y.1.fix := by
      intro y hy
      have hm : y ∈ D ++ x :: R := by rcases hy with hy | hy <;> simp [hy]
      have hin : ∀ k, y.2.1.ownBlock = some k ∨ y.2.2.ownBlock = some k → k ∉ bs ∧ k ∉ [g] := by
        intro k hk
        have hkb : base ≤ k := by
          rcases hk with hk | hk
          · exact ((h.each y hm).1.lt k hk).1
          · exact ((h.each y hm).2.lt k hk).1
        rcases hy with hy | hy
        · have hb := blks_in hy hk
          exact ⟨fun e => by
            rcases hd _ e with e | e
            · exact (p2 k (by simpa using e)).2.1 hb
            · omega, fun e => by obtain rfl := List.mem_singleton.1 e; exact p4.1 hb⟩
        · have hb := blks_in hy hk
          exact ⟨fun e => by
            rcases hd _ e with e | e
            · exact (p2 k (by simpa using e)).2.2.2 hb
            · omega, fun e => by obtain rfl := List.mem_singleton.1 e; exact p4.2.2.2 hb⟩
      have e := h.each y hm
      exact ⟨owns_other (owns_other e.1 ho fun k hk => (hin k (.inl hk)).1) ho2 fun k hk => (hin k (.inl hk)).2, owns_other (owns_other e.2 ho fun k hk => (hin k (.inr hk)).1) ho2 fun k hk => (hin k (.inr hk)).2⟩
    rcases List.mem_append.1 hy with hy | hy
    · exact old y (.inl hy)
    · rcases List.mem_cons.1 hy with rfl | hy
      · refine ⟨owns_other hb ho2 fun k hk e => ?_, owns_other hf ho2 fun k hk e => ?_⟩
        · obtain rfl := List.mem_singleton.1 e
          rcases h1 k hk with h | h
          · exact p4.2.1 (by simpa using h)
          · omega
        · obtain rfl := List.mem_singleton.1 e
          rcases h2 k hk with h | h
          · exact p4.2.2.1 (by simpa using h)
          · omega
      · exact old y (.inr hy)
  · have h0 := h.nodup
    rw [blks_mid] at h0 ⊢
    refine nodup_swap h0 (fun k hk => (hl k (by rw [blks_mid]; exact hk)).2) ?_ ?_ (fun k hk => ?_) (fun k hk => ?_) fun k hk hm => h3 k (by simpa using hk) (by simpa using hm)
    · cases x'.2.1.ownBlock <;> simp
    · cases x'.2.2.ownBlock <;> simp
    · simpa using h1 k (by simpa using hk)
    · simpa using h2 k (by simpa using hk)
/-- A fixup more. -/
theorem OwnSecs.addFix {u w1 : World} {base g n cap : Nat} {D R : List (SecD × Value × Value)} {x : SecD × Value × Value} {f : FixD} {v' : Value} (h : OwnSecs u base (.slice (some ⟨g, 0, none⟩) n cap) (D ++ x :: R)) (hn : n = (D ++ x :: R).length)
    (ho : Other x.2.2.ownBlock.toList u w1) (hf : OwnF w1 base v' (x.1.fix ++ [f])) (hp : ∀ k, v'.ownBlock = some k → x.2.2.ownBlock = some k ∨ u.heap.size ≤ k) :
    OwnSecs (w1.setCell ⟨g, D.length * 6 + 5, none⟩ v') base (.slice (some ⟨g, 0, none⟩) n cap) (D ++ ((⟨x.1.name, x.1.kind, x.1.align, x.1.bytes, x.1.size, x.1.fix ++ [f]⟩ : SecD), x.2.1, v') :: R) ∧ w1.ownsRow base 52 6 (.slice (some ⟨g, 0, none⟩) n cap) n ((D ++ x :: R).flatMap secL) := by
  have hm := h.each x (by simp)
  have hb : OwnB w1 base x.2.1 x.1.bytes := owns_other hm.1 ho fun k hk e => (h.parts.1 k (by simpa using hk)).2.2.1 e
  exact h.newPart hn 5 v' (by decide) rfl ho (fun k hk => .inl (by simpa using hk)) hb hf (fun k hk => .inl hk) hp (owns_ne hb hf (by decide))
/-- Bytes for a section that had none. -/
theorem OwnSecs.addByt {u w1 : World} {base g n cap r : Nat} {D R : List (SecD × Value × Value)} {x : SecD × Value × Value} {b : List UInt8} {v' : Value} (h : OwnSecs u base (.slice (some ⟨g, 0, none⟩) n cap) (D ++ x :: R)) (hn : n = (D ++ x :: R).length)
    (ho : Other [r] u w1) (hr : r < base) (hb : OwnB w1 base v' b) (hp : ∀ k, v'.ownBlock = some k → u.heap.size ≤ k) :
    OwnSecs (w1.setCell ⟨g, D.length * 6 + 3, none⟩ v') base (.slice (some ⟨g, 0, none⟩) n cap) (D ++ ((⟨x.1.name, x.1.kind, x.1.align, b, x.1.size, x.1.fix⟩ : SecD), v', x.2.2) :: R) ∧ w1.ownsRow base 52 6 (.slice (some ⟨g, 0, none⟩) n cap) n ((D ++ x :: R).flatMap secL) := by
  have hm := h.each x (by simp)
  have hf : OwnF w1 base x.2.2 x.1.fix := owns_other hm.2 ho fun k hk e => by
    obtain rfl := List.mem_singleton.1 e
    have := (hm.2.lt k hk).1
    omega
  exact h.newPart hn 3 v' (by decide) rfl ho (fun k hk => .inr (by obtain rfl := List.mem_singleton.1 hk; exact hr)) hb hf (fun k hk => .inr (hp k hk)) (fun k hk => .inl hk) (owns_ne hb hf (by decide))
theorem fix_snoc {w : World} {base : Nat} {v : Value} {F : List FixD} {f : FixD} (h : w.ownsRow base 59 4 v (F.length + 1) (fixCells F ++ fixL f)) : OwnF w base v (F ++ [f]) := by
  unfold OwnF
  rw [fixCells_flat] at h ⊢
  rw [List.length_append, List.flatMap_append, List.flatMap_singleton]
  exact h
theorem secs_fresh {u : World} {B n : Nat} {v : Value} {L : List SecH} (h : u.ownsRow B 52 6 v n ((L.map secT).flatMap secL)) (hn : L.length = n) : OwnSecs u B v (L.map secT) := by
  subst hn
  have hb : ∀ L : List SecH, blksOf (L.map secT) = [] := fun L => by
    induction L with
    | nil => rfl
    | cons x r ih => simp only [blksOf, List.map_cons, List.flatMap_cons] at ih ⊢; rw [ih]; rfl
  refine ⟨by rw [List.length_map]; exact h, fun x hx => ?_, ?_⟩
  · obtain ⟨y, -, rfl⟩ := List.mem_map.1 hx
    exact ⟨World.ownsRow_nil _ _ _ _, World.ownsRow_nil _ _ _ _⟩
  · rw [hb]; cases v.ownBlock <;> simp
theorem numR_range {n : Nat} (hn : n ≤ 3) (s : RdL) : 0 ≤ (numR n s).1 ∧ (numR n s).1 < 16777216 := by
  have h1 := leNum_nonneg (takeR n s).1
  have h2 := leNum_3 (takeR n s).1 (by rw [takeR_length]; omega)
  exact ⟨h1, by show leNum (takeR n s).1 < _; omega⟩
theorem secR_range (s : RdL) : (0 ≤ (secR s).1.size ∧ (secR s).1.size < 16777216) ∧ 0 ≤ (secR s).1.many ∧ (secR s).1.many < 16777216 := by
  unfold secR
  dsimp only
  generalize (numR 1 (numR 1 (numR 2 s).2).2).2 = t
  have h1 := numR_range (n := 1) (by omega) t
  have h2 := numR_range (n := 1) (by omega) (numR 1 t).2
  exact ⟨h1, h2⟩
theorem secH_range (s : RdL) : ∀ k, ∀ x ∈ (manyR secR s k).1, (0 ≤ x.size ∧ x.size < 16777216) ∧ 0 ≤ x.many ∧ x.many < 16777216
  | 0, x, h => by cases h
  | k + 1, x, h => by
    unfold manyR at h
    rcases List.mem_append.1 h with h | h
    · exact secH_range s k x h
    · obtain rfl := List.mem_singleton.1 h
      exact secR_range _
theorem Three.oth {u u' : World} {B : Nat} {bs : List Nat} {p z m : Value} {P Z M : List Int} (h : Three u B p z m P Z M) (ho : Other bs u u') (hd : ∀ v n xs, u.ownsRow B 3 1 v n xs → ∀ k, v.ownBlock = some k → k ∉ bs) : Three u' B p z m P Z M :=
  ⟨owns_other h.op ho (hd _ _ _ h.op), owns_other h.oz ho (hd _ _ _ h.oz), owns_other h.om ho (hd _ _ _ h.om), h.pz, h.pm, h.zm⟩
theorem Reads.oth {w w' : World} {size : Nat} {v : Value} {n : Nat} {xs : List Value} {bs : List Nat} (h : Reads w size v n xs) (ho : Other bs w w') (hne : ∀ b off n c, v = .slice (some ⟨b, off, none⟩) n c → 0 < n → b ∉ bs) : Reads w' size v n xs := by
  obtain ⟨h1, a, cap, rfl, h2, h3, h4, h5⟩ := h
  refine ⟨h1, a, cap, rfl, h2, h3, h4, fun hn => ?_⟩
  obtain ⟨b, off, ha, hc⟩ := h5 hn
  refine ⟨b, off, ha, fun j u hj => ?_⟩
  have hlt := World.block_lt_of_cell? w _ (hc j u hj)
  have hb := ho.block b hlt (hne b off n cap (by rw [ha]) hn)
  have h9 := hc j u hj
  simp only [World.cell?] at h9 ⊢
  rw [hb]
  exact h9
theorem PartAt.oth {w w' : World} {g : Nat} {bs : List Nat} {s : RdL} (h : PartAt w g s) (ho : Other bs w w') (hn : ∀ k ∈ bs, g < k) : PartAt w' g s := by
  obtain ⟨v, hB, hR, hne⟩ := h
  exact ⟨v, hB.otherB ho fun e => by have := hn g e; omega, Reads.oth hR ho fun b off n c e hn' h => by have := hne b off n c e hn'; have := hn b h; omega, hne⟩
theorem other_new {bs : List Nat} {w u u' : World} {row : Option Nat} (h : Other bs w u) (hg : u.grownBy u' row) (hr : ∀ k, row = some k → k ∈ bs ∨ w.heap.size ≤ k) : Other bs w u' :=
  ⟨hg.os.trans h.os, hg.tape.trans h.tape, hg.output.trans h.output, Nat.le_trans h.size hg.size, fun g hl hn => (hg.block g (Nat.lt_of_lt_of_le hl h.size) fun e => by
    rcases hr g e.symm with e | e
    · exact hn e
    · omega).trans (h.block g hl hn)⟩
theorem other_set {bs : List Nat} {w u : World} (h : Other bs w u) (g o : Nat) (v : Value) : Other (g :: bs) w (u.setCell ⟨g, o, none⟩ v) :=
  (h.mono fun k hk => List.mem_cons_of_mem _ hk).trans (Other.setCell (p := ⟨g, o, none⟩) (List.mem_cons_self ..) v)
theorem step_append_new {P : Program} {ops : Array Oper} {o : Oper} {a : Act} {w : World} {K : Act → World → Prop} {Q : Exit → Act → World → Prop} {E : Prop}
    (hgd : o.guard = none) (s x : Operand) (t tx : TypeId) (ho : o.op = .call { callee := .builtin .append, args := #[s, x], argTypes := #[t, tx] })
    (base : Nat) (e : TypeId) (i : TypeInfo) (z : Value) (size bytes : Nat) (ht : P.underlying t = some (.slice e)) (hi : P.info? e = some i) (hz : i.zero = some z)
    (hsize : i.size = size) (hby : i.bytes = bytes) (hzs : z.cells.size = size) (hsz : 0 < size)
    (v : Value) (n : Nat) (xs : List Value) (hs : a.eval s = v) (hown : w.ownsRow base e size v n xs)
    (vx : Value) (m : Nat) (news : List Value) (hx : a.eval x = vx) (hsrc : Src P size tx vx m news w)
    (h63 : n + m ≤ maxLen) (hbytes : (n + m) * bytes ≤ 140737488355328) (hbase : base ≤ w.heap.size)
    (h : ∀ v' w', w'.ownsRow base e size v' (n + m) (xs ++ news) → w.grownBy w' v.ownBlock → (v'.ownBlock = v.ownBlock ∨ v'.ownBlock = some w.heap.size) → K (a.put o.dst v') w') : if Region.wanted o (yielded ops a.tmps) = true then Oper.wp P o a w K Q else E := by
  have hw : Region.wanted o (yielded ops a.tmps) = true := by simp [Region.wanted, hgd]
  rw [if_pos hw]
  subst hsize hby hs hx
  obtain ⟨v', w', hrun, h1, h2, h3⟩ := run_append_own w t tx o.type base e i z ht hi hz hzs hsz _ n xs hown _ m news hsrc h63 hbytes hbase
  unfold Oper.wp
  simp [execOp, ho, resolve, invoke, builtin, hrun, Result.andThen]
  exact h v' w' h1 h2 h3
theorem upd_all {α : Type} {S : List α} {k : Nat} {f : α → α} {p : α → Prop} (h : ∀ x ∈ S, p x) (hf : ∀ x, p x → p (f x)) : ∀ x ∈ upd S k f, p x := by
  intro x hx
  unfold upd at hx
  split at hx
  · rename_i y hy
    rcases List.mem_or_eq_of_mem_set hx with hx | rfl
    · exact h x hx
    · exact hf y (h y (List.mem_of_getElem? hy))
  · exact h x hx
theorem nameOf_size (T : List UInt8) (p : Int) : (nameOf T p).size ≤ T.length := by
  have hs : ((nameAtL T p).getD []).length ≤ T.length := by
    cases hn : nameAtL T p with
    | none => simp
    | some s =>
      unfold nameAtL at hn
      split at hn
      · obtain ⟨r, e, -⟩ := textAt_some hn
        have := congrArg List.length e
        simp only [List.length_append, List.length_cons, List.length_drop] at this
        simp only [Option.getD_some]
        omega
      · cases hn
  unfold nameOf
  show (((nameAtL T p).getD []).toArray).size ≤ _
  simpa using hs
theorem fixIn_names {m i : Nat} {S : List SecD} {s : RdL} (h : ∀ x ∈ S, x.name.size ≤ m) : ∀ j, ∀ x ∈ (fixIn i S s j).1, x.name.size ≤ m
  | 0 => h
  | j + 1 => by
    unfold fixIn
    exact upd_all (fixIn_names h j) fun x hx => hx
theorem fixAll_names {m : Nat} {many : List Int} {S : List SecD} {s : RdL} (h : ∀ x ∈ S, x.name.size ≤ m) : ∀ k, ∀ x ∈ (fixAll many S s k).1, x.name.size ≤ m
  | 0 => h
  | k + 1 => by
    unfold fixAll
    exact fixIn_names (fixAll_names h k) _
theorem nmAll_names {m a : Nat} {T : List UInt8} {places : List Int} {S : List SecD} {Y : List SymD} (hT : T.length ≤ m) (h : ∀ x ∈ S, x.name.size ≤ m) (hy : ∀ x ∈ Y, x.name.size ≤ m) : ∀ k, (∀ x ∈ (nmAll T places a S Y k).1, x.name.size ≤ m) ∧ ∀ x ∈ (nmAll T places a S Y k).2, x.name.size ≤ m
  | 0 => ⟨h, hy⟩
  | k + 1 => by
    have ih := nmAll_names (places := places) (a := a) hT h hy k
    unfold nmAll
    split
    · exact ⟨upd_all ih.1 fun x hx => Nat.le_trans (nameOf_size _ _) hT, ih.2⟩
    · exact ⟨ih.1, upd_all ih.2 fun x hx => Nat.le_trans (nameOf_size _ _) hT⟩
theorem bytAll_names {m : Nat} {sizes : List Int} {S : List SecD} {s : RdL} (h : ∀ x ∈ S, x.name.size ≤ m) : ∀ k, ∀ x ∈ (bytAll sizes S s k).1, x.name.size ≤ m
  | 0 => h
  | k + 1 => by
    unfold bytAll
    split
    · exact upd_all (bytAll_names h k) fun x hx => hx
    · exact upd_all (bytAll_names h k) fun x hx => hx
theorem parseI_names (a b d : Nat) (left : List UInt8) : (∀ x ∈ (parseI a b d left).1.secs, x.name.size ≤ d) ∧ ∀ x ∈ (parseI a b d left).1.syms, x.name.size ≤ d := by
  unfold parseI
  dsimp only
  have h0 : ∀ L : List SecH, ∀ x ∈ L.map sec0, x.name.size ≤ d := fun L x hx => by
    obtain ⟨y, -, rfl⟩ := List.mem_map.1 hx
    exact Nat.zero_le _
  have h1 : ∀ L : List SymH, ∀ x ∈ L.map sym0, x.name.size ≤ d := fun L x hx => by
    obtain ⟨y, -, rfl⟩ := List.mem_map.1 hx
    exact Nat.zero_le _
  generalize manyR secR ⟨left, false⟩ a = r1
  generalize manyR symR r1.2 b = r2
  have h2 := fixAll_names (many := r1.1.map (·.many)) (s := r2.2) (h0 r1.1) a
  generalize fixAll (r1.1.map (·.many)) (r1.1.map sec0) r2.2 a = r3 at *
  have h3 := nmAll_names (places := r1.1.map (·.place) ++ r2.1.map (·.place)) (a := a) (T := (takeR d r3.2).1) (by rw [takeR_length]; exact Nat.le_refl _) h2 (h1 r2.1) (a + b)
  generalize nmAll (takeR d r3.2).1 (r1.1.map (·.place) ++ r2.1.map (·.place)) a r3.1 (r2.1.map sym0) (a + b) = n at *
  exact ⟨bytAll_names h3.1 _, h3.2⟩
theorem kindAt_mid {A B : List SecD} {x : SecD} {k : Nat} (h : A.length = k) : kindAt (A ++ x :: B) k = x.kind := by
  subst h
  unfold kindAt
  rw [List.getElem?_append_right (Nat.le_refl _), Nat.sub_self, List.getElem?_cons_zero]
end Go.Proofs.Ytkefbhidfbnipaa
