/- ReadDump of the program reads what the reference reads, and DumpObject of the object is the lines: the card. Its row lists five tables and two sentinels of Go's library with what they hold. -/
import Derived.Test.YtecpdhjangojiaaGreatDoorBase
import Derived.Test.YtecpdhjangojiaaGreatDoorCards
import Derived.Test.YtecpdhjangojiaaGreatDoorTie
import Derived.Test.YtecpdhjangojiaaGreatDoorLineX
import Derived.Deep.DeepHandedRow
import Derived.Lib.LaidTab
import Derived.LaidSub
import Derived.LaidLaws
import Derived.MakeChecks
import Derived.Stop.LaidErr
import Derived.RowKitTokens
namespace Go.Proofs.YtecpdhjangojiaaGreatDoor
open Go.ChangeShapes Go.WideShapes Go.ChangeAt Go.RowKit Go.Joins
set_option linter.unusedSimpArgs false
set_option linter.unusedVariables false
set_option maxRecDepth 100000
/-! The frame: a row that lists tables, and its card. -/
theorem gPow : Tryz.prog.globalNamed "internal/strconv.uint64pow10" = some 3 := by kernel_rfl
theorem gPowType : (Tryz.prog.globals[3]?).map (·.type) = some 125 := by kernel_rfl
theorem cellsA : Tryz.prog.cellsOf 125 = 20 := by kernel_rfl
theorem cellsE : Tryz.prog.cellsOf 113 = 1 := by kernel_rfl
theorem gSyn : Tryz.prog.globalNamed "strconv.ErrSyntax" = some 1 := by kernel_rfl
theorem gSynType : (Tryz.prog.globals[1]?).map (·.type) = some 92 := by kernel_rfl
theorem gRng : Tryz.prog.globalNamed "strconv.ErrRange" = some 2 := by kernel_rfl
theorem gRngType : (Tryz.prog.globals[2]?).map (·.type) = some 92 := by kernel_rfl
theorem cellsS : Tryz.prog.cellsOf 9 = 1 := by kernel_rfl
theorem cellsEs : Tryz.prog.cellsOf 139 = 1 := by kernel_rfl
theorem starEs : "*" ++ "errors.errorString" = "*errors.errorString" := by decide
theorem rowEs (u : TypeId) (h : Tryz.prog.typeName? 3 u = some "*errors.errorString") : u = 137 :=
  typeName_ptr_named (nm := "errors.errorString") (by rw [starEs]; kernel_rfl) (by kernel_rfl) (by decide) u (by rw [starEs]; exact h)
theorem tab_laid {W : World} (h : laidMetH Tryz.prog Rows.fnReadDumpRow.laid W) : Tab W := by
  have h1 := laidMetH.filter (fun x => x.1 == "internal/strconv.uint64pow10") h
  have e : Rows.fnReadDumpRow.laid.filter (fun x => x.1 == "internal/strconv.uint64pow10") = [("internal/strconv.uint64pow10", Lib.tabData .u64 Lib.pow10Tab)] := by kernel_rfl
  rw [e] at h1
  exact Lib.tabIs_of_head (rest := []) gPow gPowType Tryz.underlying125 Tryz.underlying113 cellsE cellsA h1
theorem env_laid {W : World} (h : laidMetH Tryz.prog Rows.fnReadDumpRow.laid W) (hs : W.ShapedOpen Tryz.prog) : Env W := by
  refine ⟨tab_laid h, ?_, ?_, Tryz.laysM146.s1_3 W hs⟩
  · have h1 := laidMetH.filter (fun x => x.1 == "strconv.ErrSyntax") h
    have e : Rows.fnReadDumpRow.laid.filter (fun x => x.1 == "strconv.ErrSyntax") = [("strconv.ErrSyntax", .iface "*errors.errorString" (.ptr (.agg [.lit (.string [105, 110, 118, 97, 108, 105, 100, 32, 115, 121, 110, 116, 97, 120])])))] := by kernel_rfl
    rw [e, Go.MakeChecks.laidMetH_plain _ _ _ (by kernel_rfl)] at h1
    obtain ⟨a, s, hv, -, -, -⟩ := laid_sentinel h1 gSyn gSynType Tryz.underlying92 rowEs Tryz.underlying137 Tryz.underlying139 rfl rfl Tryz.underlying9 cellsEs cellsS
    exact ⟨_, _, hv⟩
  · have h1 := laidMetH.filter (fun x => x.1 == "strconv.ErrRange") h
    have e : Rows.fnReadDumpRow.laid.filter (fun x => x.1 == "strconv.ErrRange") = [("strconv.ErrRange", .iface "*errors.errorString" (.ptr (.agg [.lit (.string [118, 97, 108, 117, 101, 32, 111, 117, 116, 32, 111, 102, 32, 114, 97, 110, 103, 101])])))] := by kernel_rfl
    rw [e, Go.MakeChecks.laidMetH_plain _ _ _ (by kernel_rfl)] at h1
    obtain ⟨a, s, hv, -, -, -⟩ := laid_sentinel h1 gRng gRngType Tryz.underlying92 rowEs Tryz.underlying137 Tryz.underlying139 rfl rfl Tryz.underlying9 cellsEs cellsS
    exact ⟨_, _, hv⟩
def tab32 : List Int := [0, 1, 28, 2, 29, 14, 24, 3, 30, 22, 20, 15, 25, 17, 4, 8, 31, 27, 13, 23, 21, 19, 16, 7, 26, 12, 18, 6, 11, 5, 10, 9]
def tab64 : List Int := [0, 1, 56, 2, 57, 49, 28, 3, 61, 58, 42, 50, 38, 29, 17, 4, 62, 47, 59, 36, 45, 43, 51, 22, 53, 39, 33, 30, 24, 18, 12, 5, 63, 55, 48, 27, 60, 41, 37, 16, 46, 35, 44, 21, 52, 32, 23, 11, 54, 26, 40, 15, 34, 20, 31, 10, 25, 14, 19, 9, 13, 8, 7, 6]
def tabAcc : List Int := [128, 191, 160, 191, 128, 159, 144, 191, 128, 143, 0, 0, 0, 0, 0, 0, 0, 0, 0, 0, 0, 0, 0, 0, 0, 0, 0, 0, 0, 0, 0, 0]
abbrev synS : ByteArray := { data := #[105, 110, 118, 97, 108, 105, 100, 32, 115, 121, 110, 116, 97, 120] }
abbrev rngS : ByteArray := { data := #[118, 97, 108, 117, 101, 32, 111, 117, 116, 32, 111, 102, 32, 114, 97, 110, 103, 101] }
noncomputable def low : Nat := (World.holding Tryz.prog default ⟨#[], #[], []⟩).heap.size
noncomputable def putAt (h : Array Obj) (g : Nat) (c : Array Value) : Array Obj := h.modify g fun
  | .cells _ t frozen => .cells c t frozen
  | o => o
noncomputable def laidHeap (h : Array Obj) : Array Obj :=
  putAt (putAt (putAt (putAt (putAt (putAt (putAt h 3 (Lib.pow10Tab.map fun z => Value.int .u64 z).toArray)
    6 (tab32.map fun z => Value.int .u8 z).toArray) 7 (tab64.map fun z => Value.int .u8 z).toArray)
    5 (tabAcc.map fun z => Value.int .u8 z).toArray) 4 (Go.Pinned.utf8FirstZ.map fun (z : Nat) => Value.int .u8 (z : Int)).toArray)
    1 #[.iface 137 (.pointer (some ⟨low, 0, none⟩))]) 2 #[.iface 137 (.pointer (some ⟨low + 1, 0, none⟩))]
/-- A world for the witness: the settled one, with the tables and the sentinels as their initialisers lay them. -/
noncomputable def laidWorld (os : Os) (i : Input) : World := { World.holding Tryz.prog os ⟨#[.cells #[.string synS] 139, .cells #[.string rngS] 139], #[], []⟩ with heap := laidHeap (World.holding Tryz.prog os ⟨#[.cells #[.string synS] 139, .cells #[.string rngS] 139], #[], []⟩).heap }
theorem laid_met (os : Os) : laidMet Tryz.prog Rows.fnReadDumpRow.laid ((laidWorld os ⟨#[], #[], []⟩).forCall (fun _ _ => 0) ⟨#[], #[.slice none 0 0], []⟩).memory :=
  laidMet_of_run' 8 (by kernel_rfl) (by kernel_rfl)
theorem reads_wit (os : Os) {H : Type} (enc : TypeId × Value → H) : ∃ places, DataW.whole enc Tryz.prog ((laidWorld os ⟨#[], #[], []⟩).forCall (fun _ _ => 0) ⟨#[], #[.slice none 0 0], []⟩).memory Tryz.f3.params.toList Rows.fnReadDumpSpec.vars false #[.slice none 0 0].toList 8 = some ([.nil], [], places) :=
  ⟨[], by kernel_rfl⟩
theorem lifted_FnReadDump (os : Os) (started : os.Started) (H : Type) (enc : TypeId × Value → H) (F : Stop.Interp) :
    ReturnsInHanded {} Tryz.checked os 3 .any ((OpenSpec.ofChange Rows.fnReadDumpSpec).preRow enc Tryz.prog Tryz.f3 Rows.fnReadDumpRow.domain false Rows.fnReadDumpRow.laid) (((OpenSpec.ofChange Rows.fnReadDumpSpec).at F).post enc Tryz.prog Tryz.f3 false true false false) := by
  obtain ⟨x, hx⟩ := reads_wit os enc
  refine returnsInHanded_of_row (C := Tryz.checked) (s := OpenSpec.ofChange Rows.fnReadDumpSpec) own_knob started (by kernel_rfl) Tryz.func3
    (witness_row_at (enc := enc) (C := Tryz.checked) false (laidWorld os ⟨#[], #[], []⟩) #[.slice none 0 0] rfl (by kernel_rfl) (by kernel_rfl) (by kernel_rfl)
      (OpenSpec.preRow_of_cond 8 hx (by kernel_rfl) (fun k hk => by cases hk) (by kernel_rfl) (laid_met os))) ?_
  intro W base args ds gs before hval0 hW _ _ _ hL hSh _
  have hval : ∀ (j : Nat) t v, Tryz.f3.params[j]? = some t → args[j]? = some v → Value.okWide Tryz.prog W .any base t v := hval0
  have hW' := hW
  obtain ⟨p, q, hA0, hV, rfl, hfz, hnd⟩ := hW
  have hA : DataW.TrodAll enc Tryz.prog W 0 (fun _ => true) true Tryz.f3.params.toList args.toList ds p := hA0
  rw [Tryz.params3] at hA hval
  obtain ⟨v0, vs0, d0, ds0, p0, q0, hargs, rfl, rfl, h0, r0⟩ := trodAll_cons hA
  obtain ⟨rfl, rfl, rfl⟩ := trodAll_nil r0
  obtain rfl : args = #[v0] := by cases args; simp_all
  obtain ⟨rfl, rfl⟩ := trodVars_none hV
  clear hA0 hval0
  have k0 := h0
  have t0 : ∀ x ∈ p0, x.block < W.heap.size := fun x hx => by simpa using hW'.lt x (by simp [hx])
  obtain ⟨x0, o0⟩ := open_bytesAt (hval 0 22 v0 rfl rfl) h0
  refine (walk_FnReadDump W v0 x0 o0 (env_laid hL hSh)).mono fun e W' ⟨he, hg⟩ => ?_
  subst he
  exact ⟨_, rfl, _, _, _, _, _, _, hW', (trodAll_cons_mk (shut_bool Tryz.underlying4 _) trodAll_mk0), (trodAll_cons_mk (Below.trod laid_out (by kernel_rfl) (of_decide_eq_true (by kernel_rfl)) k0 hg t0) trodAll_mk0), rfl, hg.frame _, fun h => by cases h⟩
set_option maxHeartbeats 2000000 in
theorem facts_FnReadDump : joinedFacts Tryz.prog 3 Tryz.f3 (OpenSpec.ofChange Rows.fnReadDumpSpec).bare Rows.fnReadDumpRow = true := by
  unfold joinedFacts
  simp only [Bool.and_eq_true]
  repeat' apply And.intro
  all_goals first
    | with_reducible exact laid_out
    | with_reducible exact may_enter
    | (with_reducible rw [lifts_final]; as_aux_lemma => kernel_rfl)
    | (with_reducible rw [make_cut]; as_aux_lemma => kernel_rfl)
    | as_aux_lemma => kernel_rfl
theorem inst_FnReadDump : Tryz.f3.isInstance Tryz.prog Rows.fnReadDumpRow.origin Rows.fnReadDumpRow.targs := of_decide_eq_true (by kernel_rfl)
theorem wrap_FnReadDump : Tryz.f3.isWrapper Tryz.prog Rows.fnReadDumpRow.wrapper Rows.fnReadDumpRow.mainSum := by
  unfold Func.isWrapper
  first | (rw [if_pos (by decide +kernel)]; kernel_rfl) | (rw [if_neg (by decide +kernel)]; exact ⟨rfl, rfl⟩)
theorem named_FnReadDump : Tryz.prog.funcNamed Rows.fnReadDumpRow.func = some 3 := by kernel_rfl
theorem said_FnReadDump : Rows.FnReadDumpSaid :=
  OpenClaim.holds_of_cond 3 Tryz.f3 rfl rfl rfl rfl rfl rfl rfl ⟨rfl, rfl, rfl, rfl, rfl⟩ rfl rfl rfl rfl rfl named_FnReadDump Tryz.func3 facts_FnReadDump inst_FnReadDump wrap_FnReadDump
    (fun os started H enc _ F => by rw [OpenClaim.pre_eq_preRow]; exact lifted_FnReadDump os started H enc F)
theorem plain_FnReadDump (f : FuncId) (fn : Func) (hf : Tryz.pinned.checked.prog.funcNamed Rows.fnReadDumpRow.func = some f) (hfn : Tryz.pinned.checked.prog.funcs[f]? = some fn) :
    true = Tryz.pinned.checked.prog.looks [] ∧ ∀ (j : Nat) t, fn.params[j]? = some t → Tryz.pinned.checked.prog.wantsStandIn t = false := by
  obtain rfl : f = 3 := Option.some.inj (named_FnReadDump.symm.trans hf) |>.symm
  obtain rfl : fn = Tryz.f3 := (Option.some.inj (Tryz.func3.symm.trans hfn)).symm
  refine ⟨by kernel_rfl, fun j t ht => ?_⟩
  rw [Tryz.params3] at ht
  obtain rfl : t = 22 := by simpa using Array.mem_of_getElem? ht
  exact (show Tryz.prog.wantsStandIn 22 = false by kernel_rfl)
/-- The statement. -/
theorem holds_FnReadDump : Rows.FnReadDumpCardSaid :=
  Claim7.holds_tied_plain_at .later [] _ _ _ _ said_FnReadDump (fun _ h => by cases h) (by kernel_rfl) (fun _ h => by cases h) fnReadDump_row_tie rfl ⟨rfl, rfl⟩ (by kernel_rfl) rfl plain_FnReadDump (by kernel_rfl)
#print axioms holds_FnReadDump
end Go.Proofs.YtecpdhjangojiaaGreatDoor
