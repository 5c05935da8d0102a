/- Numbers as texts; lines of words: the functions of the program and of the reference. -/
import Derived.Test.YtecpdhjangojiaaGreatDoorPlainD
import Derived.Test.YtecpdhjangojiaaGreatDoorInts
import Derived.Test.YtecpdhjangojiaaGreatDoorHex
import Derived.Test.YtecpdhjangojiaaGreatDoorDShelf
import Derived.Lib.AppendIntMem
import Derived.Lib.ItoaLen
import Derived.Deep.DeepCutAuto
namespace Go.Proofs.YtecpdhjangojiaaGreatDoor
open Go.ChangeShapes Go.WideShapes Go.ChangeAt Go.RowKit Go.Joins
set_option linter.unusedSimpArgs false
set_option linter.unusedVariables false
set_option maxRecDepth 100000
/-- The library's table of tens reads as it is laid. -/
def Tab (w : World) : Prop := Lib.TabIs Tryz.prog w "internal/strconv.uint64pow10" .u64 Lib.pow10Tab
theorem Tab.call {w w' : World} (h : Tab w) (hb : Below w.heap.size w w') : Tab w' := Lib.tabBelow_of_tabIs h w' hb
theorem Tab.below {w w' : World} {B : Nat} (h : Tab w) (hB : w.heap.size ≤ B) (hb : Below B w w') : Tab w' := h.call (hb.mono hB)
theorem txt_append (a b : List UInt8) : txt a ++ txt b = txt (a ++ b) := by
  apply ByteArray.ext
  apply Array.toList_inj.1
  simp [txt, ByteArray.data_append]
theorem txt_size (a : List UInt8) : (txt a).size = a.length := by simp [txt, ByteArray.size]
/-- The sum of two texts, under a name, for a walk. -/
theorem txt_sum (a b : List UInt8) (h : a.length + b.length ≤ 9223372036854775807) : ∀ w : World, (Op.stringOp .add (txt a) (txt b)).run Tryz.prog w = .ok (.string (txt (a ++ b))) w := fun w => by
  have := run_string_add_sum (P := Tryz.prog) w (txt a) (txt b) (by rw [txt_size, txt_size]; exact h)
  rw [this, txt_append]
theorem txt_sum2 (s t : ByteArray) (a b : List UInt8) (hs : s = txt a) (ht : t = txt b) (h : a.length + b.length ≤ 9223372036854775807) : ∀ w : World, (Op.stringOp .add s t).run Tryz.prog w = .ok (.string (txt (a ++ b))) w := by
  subst hs ht
  exact txt_sum a b h
theorem txt_cons (b : List UInt8) (h : b.length ≤ 9223372036854775806) : ∀ w : World, (Op.stringOp .add (⟨#[32]⟩ : ByteArray) (txt b)).run Tryz.prog w = .ok (.string (txt (32 :: b))) w := txt_sum2 ⟨#[32]⟩ (txt b) [32] b rfl rfl (by simp only [List.length_cons, List.length_nil]; omega)
theorem txt_empty : ((txt []).toList.isEmpty) = true := by rw [toList_bytesS, bytesS_txt]; rfl
theorem txt_full {l : List UInt8} (h : l ≠ []) : ((txt l).toList.isEmpty) = false := by
  rw [toList_bytesS, bytesS_txt]
  cases l with
  | nil => exact absurd rfl h
  | cons a r => rfl
/-- append as one step of a region that draws its order; where the row lies behind it is told. -/
theorem step_append_newD {P : Program} {ops : Array Oper} {o : Oper} {a : Act} {w : World} {K : Act → World → Prop} {Q : Exit → Act → World → Prop} {E : Prop}
    (hgd : o.guard = none) (s x : Operand) (t tx : TypeId) (ho : o.op = .call { callee := .builtin .append, args := #[s, x], argTypes := #[t, tx] })
    (base : Nat) (e : TypeId) (i : TypeInfo) (z : Value) (size bytes : Nat) (ht : P.underlying t = some (.slice e)) (hi : P.info? e = some i) (hz : i.zero = some z)
    (hsize : i.size = size) (hby : i.bytes = bytes) (hzs : z.cells.size = size) (hsz : 0 < size)
    (v : Value) (n : Nat) (xs : List Value) (hs : a.eval s = v) (hown : w.ownsRow base e size v n xs)
    (vx : Value) (m : Nat) (news : List Value) (hx : a.eval x = vx) (hsrc : Src P size tx vx m news w)
    (h63 : n + m ≤ maxLen) (hbytes : (n + m) * bytes ≤ 140737488355328) (hbase : base ≤ w.heap.size)
    (h : ∀ v' w', w'.ownsRow base e size v' (n + m) (xs ++ news) → w.grownBy w' v.ownBlock → (v'.ownBlock = v.ownBlock ∨ v'.ownBlock = some w.heap.size) → K (a.put o.dst v') w') : if Region.wanted o (yielded ops a.tmps) = true then Oper.wp P o a w K Q else E := by
  have hw : Region.wanted o (yielded ops a.tmps) = true := by simp [Region.wanted, hgd]
  rw [if_pos hw]
  subst hsize hby hs hx
  obtain ⟨v', w', hrun, h1, h2, h3⟩ := run_append_own w t tx o.type base e i z ht hi hz hzs hsz _ n xs hown _ m news hsrc h63 hbytes hbase
  unfold Oper.wp
  simp [execOp, ho, resolve, invoke, builtin, hrun, Result.andThen]
  exact h v' w' h1 h2 h3
theorem itoa_call (n : Int) (h0 : -9223372036854775808 ≤ n) (h1 : n ≤ 9223372036854775807) (w : World) (ht : Tab w) :
    Calls Tryz.prog 62 #[.int .i64 n] w fun e w' => e = .returned (.string (txt (Lib.itoa n))) ∧ Below w.heap.size w w' :=
  (Any.strconv_Itoa Tryz.laysM171 n h0 h1 w ht).mono fun e w' ⟨h1, k, os, h2⟩ => ⟨h1, by subst h2; exact Lib.below_grow _ w (Nat.le_refl _) k os⟩
theorem spaced_take (ns : List Int) (k : Nat) (hk : k < ns.length) : spaced ((ns.take (k + 1)).map Lib.itoa) = spaced ((ns.take k).map Lib.itoa) ++ 32 :: Lib.itoa ns[k] := by
  rw [List.take_succ_eq_append_getElem hk, List.map_append, spaced_append]
  simp [spaced]
theorem spaced_len : ∀ (ns : List Int), (∀ n ∈ ns, -9223372036854775808 ≤ n ∧ n ≤ 9223372036854775807) → (spaced (ns.map Lib.itoa)).length ≤ 22 * ns.length
  | [], _ => Nat.le_refl _
  | n :: ns, h => by
    have h1 := spaced_len ns fun x hx => h x (List.mem_cons_of_mem _ hx)
    have h2 := h n (List.mem_cons_self ..)
    have h3 := Lib.itoa_length_le n h2.1 h2.2
    simp only [List.map_cons, spaced, List.length_cons, List.length_append]
    omega
/-- The words of a line behind its first one. -/
def nameW (s : List UInt8) : List UInt8 := if s = [] then [] else 32 :: s
set_option maxHeartbeats 1000000 in
theorem i_wordsLine (w : World) (a b : List UInt8) (v : Value) (ns : List Int) (h : IntsAt w v ns) (hn : ∀ n ∈ ns, -9223372036854775808 ≤ n ∧ n ≤ 9223372036854775807) (hl : ns.length ≤ 1000) (ha : a.length ≤ 1000000) (hb : b.length ≤ 1000000) (ht : Tab w) :
    Calls Tryz.prog 34 #[.string (txt a), .string (txt b), v] w fun e w' => e = .returned (.string (txt (a ++ nameW b ++ spaced (ns.map Lib.itoa)))) ∧ Below w.heap.size w w' := by
  have H := Lib.hid h
  have HN := Lib.hid hn
  have HT := Lib.hid ht
  obtain ⟨va, vc, rfl, hcap, hmax, hnone, hcell⟩ := h.form
  have HC := Lib.hid hcell
  clear h hn ht hnone hcell
  unfold maxLen at hmax
  have hsp : ∀ k, k ≤ ns.length → (spaced ((ns.take k).map Lib.itoa)).length ≤ 22000 := fun k hk => by
    have h1 := spaced_len (ns.take k) fun n hm => HN.out n (List.mem_of_mem_take hm)
    rw [List.length_take] at h1
    omega
  have HSP := Lib.hid hsp
  clear hsp
  go_enter Tryz.func34, Tryz.ntmps34
  have hnl : (nameW b).length ≤ b.length + 1 := by unfold nameW; split <;> simp
  go_upto_if 10 with fail
  go_cut [0] (fun s wx => s = .string (txt (a ++ nameW b)) ∧ wx = w)
  case first =>
    by_cases hbz : b = []
    · subst hbz
      have e1 := txt_empty
      have e2 : a ++ nameW [] = a := by simp [nameW]
      have E2 := Lib.hid e2
      clear e2
      simp only [e1, Bool.not_true]
      go_wp2_with fail
      go_meet
      case rel => exact ⟨by rw [E2.out], rfl⟩
    · have e1 := txt_full hbz
      have k1 := txt_cons b (by omega)
      have k2 := txt_sum a (32 :: b) (by simp; omega)
      have e2 : a ++ nameW b = a ++ 32 :: b := by simp [nameW, hbz]
      have E2 := Lib.hid e2
      clear e2 hbz
      simp only [e1, Bool.not_false]
      go_wp2_with fail
      go_meet
      case rel => exact ⟨by rw [E2.out], rfl⟩
  case rest =>
    obtain ⟨rfl, rfl⟩ := hcut
    obtain ⟨x, hx⟩ : ∃ x, a ++ nameW b = x := ⟨_, rfl⟩
    have hxl : x.length ≤ 2000001 := by rw [← hx, List.length_append]; omega
    rw [hx]
    have HX := Lib.hid hx
    clear hx hnl
    go_wp2_with fail
    go_loopw [0, 17] (fun s i wr => ∃ k : Nat, k ≤ ns.length ∧ i = .int .i64 (k : Int) ∧ Hid (s = .string (txt (x ++ spaced ((ns.take k).map Lib.itoa)))) ∧ Hid (From wc.heap.size wc wr)) (fun _ i _ => ns.length - (intOf i).toNat)
    case atStart => exact ⟨0, Nat.zero_le _, rfl, by show _ = _; simp [spaced], From.start wc⟩
    case round =>
      obtain ⟨k, hk, rfl, HS, HF⟩ := hrel
      obtain ⟨y, hy⟩ : ∃ y, x ++ spaced ((ns.take k).map Lib.itoa) = y := ⟨_, rfl⟩
      have hyl : y.length ≤ 3000000 := by have := HSP.out k hk; rw [← hy, List.length_append]; omega
      rw [hy] at HS
      obtain rfl := HS.out
      by_cases hlt : k < ns.length
      · obtain ⟨b0, off, rfl, hc⟩ := HC.out (by omega)
        have hcc := hc k hlt
        have hlb := World.block_lt_of_cell? wc _ hcc
        have hcr := (HF.out.below.cell (p := ⟨b0, off + k, none⟩) hlb).trans hcc
        have hnn := HN.out ns[k] (List.getElem_mem hlt)
        have hil := Lib.itoa_length_le ns[k] hnn.1 hnn.2
        have EY : Hid (y ++ 32 :: Lib.itoa ns[k] = x ++ spaced ((ns.take (k + 1)).map Lib.itoa)) := by
          show _ = _
          rw [spaced_take ns k hlt, ← hy, List.append_assoc]
        obtain ⟨z, hz⟩ : ∃ z, ns[k] = z := ⟨_, rfl⟩
        rw [hz] at hcr hnn hil EY
        have i1 : (k : Int) < (ns.length : Int) := by omega
        have i3 : (0 : Int) ≤ (k : Int) := by omega
        have htr : Hid (Tab wr) := HT.out.call HF.out.below
        clear hc hcc hlb hy HS hz
        go_wp2_with fail
        refine (itoa_call z hnn.1 hnn.2 wr htr.out).mono ?_
        rintro e w2 ⟨rfl, k2⟩
        have HF2 := Lib.hid (HF.out.call k2)
        obtain ⟨q, hq⟩ : ∃ q, Lib.itoa z = q := ⟨_, rfl⟩
        rw [hq] at hil EY ⊢
        have k3 := txt_cons q (by omega)
        have k4 := txt_sum y (32 :: q) (by simp; omega)
        clear k2 hq HF htr hcr
        go_wp2_with fail
        go_roundw
        case rel => exact ⟨k + 1, by omega, by go_num, by show _ = _; rw [EY.out], HF2⟩
        case measure => simp [intOf]; try omega
      · obtain rfl : k = ns.length := by omega
        rw [List.take_length] at hy
        have HY := Lib.hid hy
        clear hy HS
        go_wp2_with fail
        go_ret
        exact ⟨by rw [HX.out, HY.out]; rfl, HF.out.below⟩
theorem bytes_lit1 (w : World) (c : UInt8) : BytesAt (w.alloc (.cells #[.int .u8 (c.toNat : Int)] 5)) (.slice (some ⟨w.heap.size, 0, none⟩) 1 1) [c] := by
  have h : OwnB (w.alloc (.cells #[.int .u8 (c.toNat : Int)] 5)) w.heap.size (.slice (some ⟨w.heap.size, 0, none⟩) 1 1) [c] :=
    World.ownsRow_lit w #[.int .u8 (c.toNat : Int)] (e := 5) (size := 1) (base := w.heap.size) 1 (Nat.le_refl _) (by decide) rfl
  exact h.reads
theorem conv_digit (w : World) (m : Nat) : (convert 22 9 (.slice (some ⟨w.heap.size, 0, none⟩) 1 1)).run Tryz.prog (w.alloc (.cells #[.int .u8 (48 + (m : Int) % 10)] 5)) = .ok (.string (txt [UInt8.ofNat (48 + m % 10)])) (w.alloc (.cells #[.int .u8 (48 + (m : Int) % 10)] 5)) := by
  have h := bytes_lit1 w (UInt8.ofNat (48 + m % 10))
  have e : ((UInt8.ofNat (48 + m % 10)).toNat : Int) = 48 + (m : Int) % 10 := by rw [u8_dig (Nat.mod_lt _ (by decide))]; omega
  rw [e] at h
  exact conv_at _ _ _ h
theorem mod_ten (m : Nat) : (m : Int).tmod 10 = (m : Int) % 10 ∧ IntKind.u8.wrap (48 + (m : Int) % 10) = 48 + (m : Int) % 10 :=
  ⟨Int.tmod_eq_emod_of_nonneg (by omega), by rw [IntKind.wrap_u8]; omega⟩
/-- The digits that are still to come. -/
def restD (k : Nat) : List UInt8 := if k < 10 then [] else Lib.decDigits (k / 10)
theorem dec_rest (k : Nat) : Lib.decDigits k = restD k ++ [UInt8.ofNat (48 + k % 10)] := by
  rw [Lib.decDigits]
  unfold restD
  split
  · rename_i h
    rw [Nat.mod_eq_of_lt h]; rfl
  · rfl
set_option maxHeartbeats 1000000 in
theorem s_l8Number (w : World) (n : Int) (h0 : -1000000000 < n) (h1 : n < 1000000000) :
    Calls Tryz.prog 44 #[.int .i64 n] w fun e w' => e = .returned (.string (txt (Lib.itoa n))) ∧ Below w.heap.size w w' := by
  obtain ⟨m, hm⟩ : ∃ m : Nat, n.natAbs = m := ⟨_, rfl⟩
  obtain ⟨sg, hsg⟩ : ∃ sg : List UInt8, (if n < 0 then [45] else []) = sg := ⟨_, rfl⟩
  have hsl : sg.length ≤ 1 := by rw [← hsg]; split <;> simp
  have E : Hid (Lib.itoa n = sg ++ Lib.decDigits m) := by
    show _ = _
    unfold Lib.itoa
    rw [← hsg, ← hm]
    split
    · rfl
    · rw [List.nil_append, show n.toNat = n.natAbs by omega]
  have hm9 : m < 1000000000 := by omega
  go_enter Tryz.func44, Tryz.ntmps44
  go_upto_if 6 with fail
  go_cut [0, 3] (fun x s wx => x = .int .i64 (m : Int) ∧ s = .string (txt sg) ∧ wx = w)
  case first =>
    by_cases hn : n < 0
    · rw [if_pos hn] at hsg
      subst hsg
      have e1 : IntKind.i64.wrap (-n) = -n := IntWalk.i64_in _ (by omega)
      have e2 : -n = (m : Int) := by omega
      clear hm
      go_wp2_with fail
      go_meet
      case rel => exact ⟨by first | rfl | rw [e2], rfl, rfl⟩
    · rw [if_neg hn] at hsg
      subst hsg
      have e2 : n = (m : Int) := by omega
      have E2 := Lib.hid e2
      clear hm e2
      go_wp2_with fail
      go_meet
      case rel => exact ⟨by rw [E2.out], rfl, rfl⟩
  case rest =>
    obtain ⟨rfl, rfl, rfl⟩ := hcut
    clear hm hsg h0 h1
    have kc := conv_digit wc m
    obtain ⟨x1, x2⟩ := mod_ten m
    obtain ⟨c, hc⟩ : ∃ c, UInt8.ofNat (48 + m % 10) = c := ⟨_, rfl⟩
    rw [hc] at kc
    have hdl := Lib.nDigits_le20 m (by omega)
    rw [← Lib.decDigits_length] at hdl
    have HD0 : Hid (Lib.decDigits m = restD m ++ [c]) := by show _ = _; rw [dec_rest m, hc]
    clear hc
    go_wp2_with fail
    go_loopw [0, 4] (fun x s wr => ∃ (k : Nat) (L : List UInt8), k ≤ m ∧ x = .int .i64 (k : Int) ∧ Hid (s = .string (txt L)) ∧ Hid (Lib.decDigits m = restD k ++ L) ∧ Hid (From wc.heap.size wc wr)) (fun x _ _ => (intOf x).toNat)
    case atStart => exact ⟨m, [c], Nat.le_refl _, rfl, rfl, HD0, (From.start wc).alloc _⟩
    case round =>
      clear x1 x2 kc HD0
      obtain ⟨k, L, hk, rfl, HS, HD, HF⟩ := hrel
      obtain rfl := HS.out
      have hLl : L.length ≤ 20 := by
        have h9 := congrArg List.length HD.out
        rw [List.length_append] at h9
        omega
      by_cases hgt : 9 < k
      · have i1 : (9 : Int) < (k : Int) := by omega
        have x0 : (k : Int).tdiv 10 = ((k / 10 : Nat) : Int) := by rw [Int.tdiv_eq_ediv_of_nonneg (by omega)]; omega
        obtain ⟨j, hj⟩ : ∃ j, k / 10 = j := ⟨_, rfl⟩
        rw [hj] at x0
        have kc := conv_digit wr j
        obtain ⟨x1, x2⟩ := mod_ten j
        have HD2 : Hid (Lib.decDigits m = restD j ++ ([UInt8.ofNat (48 + j % 10)] ++ L)) := by
          show _ = _
          rw [HD.out, ← List.append_assoc, ← dec_rest j, ← hj]
          unfold restD
          rw [if_neg (by omega)]
        obtain ⟨c2, hc2⟩ : ∃ c, UInt8.ofNat (48 + j % 10) = c := ⟨_, rfl⟩
        rw [hc2] at kc HD2
        have k4 := txt_sum [c2] L (by simp; omega)
        have hjm : j ≤ m := by omega
        have hjk : j < k := by omega
        clear hc2 hj HS
        go_wp2_with fail
        go_roundw
        case rel => exact ⟨j, [c2] ++ L, hjm, rfl, rfl, HD2, HF.out.alloc _⟩
        case measure => simp [intOf]; try omega
      · have i1 : ¬ (9 : Int) < (k : Int) := by omega
        have e3 : sg ++ L = Lib.itoa n := by
          rw [E.out, HD.out]
          unfold restD
          rw [if_pos (by omega)]
          rfl
        have E3 := Lib.hid e3
        have k4 := txt_sum sg L (by omega)
        clear e3 HS
        go_wp2_with fail
        go_ret
        exact ⟨by first | rfl | (rw [E3.out]; rfl), HF.out.below⟩
end Go.Proofs.YtecpdhjangojiaaGreatDoor
