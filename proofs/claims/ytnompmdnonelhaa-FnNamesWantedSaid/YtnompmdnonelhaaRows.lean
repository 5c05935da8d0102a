/-
  No cell of these rows narrows 'for every input' (looked for: loops, veiled, ifaces, maps, wideKeys, modest, calm, conditions, laid).
  DERIVED. THE GIVEN ROWS OF THIS SEAT. 14 by the template 'for every input the law returns true; each argument reads behind the call as it read before'; 0 by the template 'total and deterministic' (their statements: YtnompmdnonelhaaTotals.lean).
  GIVEN WITH THE SEED: the statements are not yours to turn. If you find one false, say at which input.
  Laid BY PROGRAM, IN A SANDBOX (cutbox-rows.mjs): the forced cells as the released guide's own fill.sh prints them over the translation f78da9e46bff311d… (all of the seat's roots in one cut). By AI agents, Wed Nov 11 2026. No macro, syntax, notation, axiom, sorry.
-/
import Derived.Test.YtnompmdnonelhaaChecked
import GoSem.Claim
import GoSem.ClaimJoined
import GoSem.ClaimMapViews
import Derived.JoinedTies
import Derived.KernelRfl
namespace Go.Proofs.Ytnompmdnonelhaa
/- THE CELL 'sum', in the pinned program and in every row, IS THE sha256 OF THE DUMP (.gsa) THAT YtnompmdnonelhaaProg.lean LOADS. Nothing in Lean hashes anything: it is a label: what it is worth is what the hold of that sum in a sandbox is worth. -/
noncomputable def Try.pinned : Pinned := { name := "ytnompmdnonelhaa", sum := "f78da9e46bff311d9334ebfd9663e56d5a4270b79b517a82d14dc39215bd4912", checked := Try.checked }
namespace Rows
def none {H : Type} : Left H := { results := [], args := [] }

/-- 'laws.FnSectionSize': WHATEVER THE INPUT: true; the input reads as it did. -/
def fnSectionSizeSpec : ChangeSpec := { name := "fnSectionSize", fn := fun _ => fun
  | [d] => { results := [.lit (.bool true)], args := [d] }
  | _ => none }
def fnSectionSizeRow : OpenClaim := { program := "ytnompmdnonelhaa", sum := "f78da9e46bff311d9334ebfd9663e56d5a4270b79b517a82d14dc39215bd4912", func := "loop.example/objectlinker/laws.FnSectionSize", spec := "fnSectionSize", apart := false }
def FnSectionSizeSaid : Prop := fnSectionSizeRow.holds Try.pinned (OpenSpec.ofChange fnSectionSizeSpec)

/-- ITS FALSE NEIGHBOUR: 'it returns false'. Refute it at one input. -/
def fnSectionSizeWrong : ChangeSpec := { name := "fnSectionSize", fn := fun _ => fun
  | [d] => { results := [.lit (.bool false)], args := [d] }
  | _ => none }
def FnSectionSizeWrongFalsely : Prop := fnSectionSizeRow.holds Try.pinned (OpenSpec.ofChange fnSectionSizeWrong)

/-- 'laws.FnSectionValid': WHATEVER THE INPUT: true; the input reads as it did. -/
def fnSectionValidSpec : ChangeSpec := { name := "fnSectionValid", fn := fun _ => fun
  | [d] => { results := [.lit (.bool true)], args := [d] }
  | _ => none }
def fnSectionValidRow : OpenClaim := { program := "ytnompmdnonelhaa", sum := "f78da9e46bff311d9334ebfd9663e56d5a4270b79b517a82d14dc39215bd4912", func := "loop.example/objectlinker/laws.FnSectionValid", spec := "fnSectionValid", apart := false }
def FnSectionValidSaid : Prop := fnSectionValidRow.holds Try.pinned (OpenSpec.ofChange fnSectionValidSpec)

/-- ITS FALSE NEIGHBOUR: 'it returns false'. Refute it at one input. -/
def fnSectionValidWrong : ChangeSpec := { name := "fnSectionValid", fn := fun _ => fun
  | [d] => { results := [.lit (.bool false)], args := [d] }
  | _ => none }
def FnSectionValidWrongFalsely : Prop := fnSectionValidRow.holds Try.pinned (OpenSpec.ofChange fnSectionValidWrong)

/-- 'laws.FnSymbolValid': WHATEVER THE INPUT: true; the input reads as it did. -/
def fnSymbolValidSpec : ChangeSpec := { name := "fnSymbolValid", fn := fun _ => fun
  | [d] => { results := [.lit (.bool true)], args := [d] }
  | _ => none }
def fnSymbolValidRow : OpenClaim := { program := "ytnompmdnonelhaa", sum := "f78da9e46bff311d9334ebfd9663e56d5a4270b79b517a82d14dc39215bd4912", func := "loop.example/objectlinker/laws.FnSymbolValid", spec := "fnSymbolValid", apart := false }
def FnSymbolValidSaid : Prop := fnSymbolValidRow.holds Try.pinned (OpenSpec.ofChange fnSymbolValidSpec)

/-- ITS FALSE NEIGHBOUR: 'it returns false'. Refute it at one input. -/
def fnSymbolValidWrong : ChangeSpec := { name := "fnSymbolValid", fn := fun _ => fun
  | [d] => { results := [.lit (.bool false)], args := [d] }
  | _ => none }
def FnSymbolValidWrongFalsely : Prop := fnSymbolValidRow.holds Try.pinned (OpenSpec.ofChange fnSymbolValidWrong)

/-- 'laws.FnObjectValid': WHATEVER THE INPUT: true; the input reads as it did. -/
def fnObjectValidSpec : ChangeSpec := { name := "fnObjectValid", fn := fun _ => fun
  | [d] => { results := [.lit (.bool true)], args := [d] }
  | _ => none }
def fnObjectValidRow : OpenClaim := { program := "ytnompmdnonelhaa", sum := "f78da9e46bff311d9334ebfd9663e56d5a4270b79b517a82d14dc39215bd4912", func := "loop.example/objectlinker/laws.FnObjectValid", spec := "fnObjectValid", unfollowed := true, recurses := true, apart := false }
def FnObjectValidSaid : Prop := fnObjectValidRow.holds Try.pinned (OpenSpec.ofChange fnObjectValidSpec)

/-- ITS FALSE NEIGHBOUR: 'it returns false'. Refute it at one input. -/
def fnObjectValidWrong : ChangeSpec := { name := "fnObjectValid", fn := fun _ => fun
  | [d] => { results := [.lit (.bool false)], args := [d] }
  | _ => none }
def FnObjectValidWrongFalsely : Prop := fnObjectValidRow.holds Try.pinned (OpenSpec.ofChange fnObjectValidWrong)

/-- 'laws.FnObjectsValid': WHATEVER THE INPUT: true; the input reads as it did. -/
def fnObjectsValidSpec : ChangeSpec := { name := "fnObjectsValid", fn := fun _ => fun
  | [d] => { results := [.lit (.bool true)], args := [d] }
  | _ => none }
def fnObjectsValidRow : OpenClaim := { program := "ytnompmdnonelhaa", sum := "f78da9e46bff311d9334ebfd9663e56d5a4270b79b517a82d14dc39215bd4912", func := "loop.example/objectlinker/laws.FnObjectsValid", spec := "fnObjectsValid", unfollowed := true, recurses := true, apart := false }
def FnObjectsValidSaid : Prop := fnObjectsValidRow.holds Try.pinned (OpenSpec.ofChange fnObjectsValidSpec)

/-- ITS FALSE NEIGHBOUR: 'it returns false'. Refute it at one input. -/
def fnObjectsValidWrong : ChangeSpec := { name := "fnObjectsValid", fn := fun _ => fun
  | [d] => { results := [.lit (.bool false)], args := [d] }
  | _ => none }
def FnObjectsValidWrongFalsely : Prop := fnObjectsValidRow.holds Try.pinned (OpenSpec.ofChange fnObjectsValidWrong)

/-- 'laws.FnFindName': WHATEVER THE INPUT: true; the input reads as it did. -/
def fnFindNameSpec : ChangeSpec := { name := "fnFindName", fn := fun _ => fun
  | [d] => { results := [.lit (.bool true)], args := [d] }
  | _ => none }
def fnFindNameRow : OpenClaim := { program := "ytnompmdnonelhaa", sum := "f78da9e46bff311d9334ebfd9663e56d5a4270b79b517a82d14dc39215bd4912", func := "loop.example/objectlinker/laws.FnFindName", spec := "fnFindName", unfollowed := true, recurses := true, apart := false }
def FnFindNameSaid : Prop := fnFindNameRow.holds Try.pinned (OpenSpec.ofChange fnFindNameSpec)

/-- ITS FALSE NEIGHBOUR: 'it returns false'. Refute it at one input. -/
def fnFindNameWrong : ChangeSpec := { name := "fnFindName", fn := fun _ => fun
  | [d] => { results := [.lit (.bool false)], args := [d] }
  | _ => none }
def FnFindNameWrongFalsely : Prop := fnFindNameRow.holds Try.pinned (OpenSpec.ofChange fnFindNameWrong)

/-- 'laws.FnTableShort': WHATEVER THE INPUT: true; the input reads as it did. -/
def fnTableShortSpec : ChangeSpec := { name := "fnTableShort", fn := fun _ => fun
  | [d] => { results := [.lit (.bool true)], args := [d] }
  | _ => none }
def fnTableShortRow : OpenClaim := { program := "ytnompmdnonelhaa", sum := "f78da9e46bff311d9334ebfd9663e56d5a4270b79b517a82d14dc39215bd4912", func := "loop.example/objectlinker/laws.FnTableShort", spec := "fnTableShort", unfollowed := true, recurses := true, apart := false }
def FnTableShortSaid : Prop := fnTableShortRow.holds Try.pinned (OpenSpec.ofChange fnTableShortSpec)

/-- ITS FALSE NEIGHBOUR: 'it returns false'. Refute it at one input. -/
def fnTableShortWrong : ChangeSpec := { name := "fnTableShort", fn := fun _ => fun
  | [d] => { results := [.lit (.bool false)], args := [d] }
  | _ => none }
def FnTableShortWrongFalsely : Prop := fnTableShortRow.holds Try.pinned (OpenSpec.ofChange fnTableShortWrong)

/-- 'laws.FnExactNameTable': WHATEVER THE INPUT: true; the input reads as it did. -/
def fnExactNameTableSpec : ChangeSpec := { name := "fnExactNameTable", fn := fun _ => fun
  | [d] => { results := [.lit (.bool true)], args := [d] }
  | _ => none }
def fnExactNameTableRow : OpenClaim := { program := "ytnompmdnonelhaa", sum := "f78da9e46bff311d9334ebfd9663e56d5a4270b79b517a82d14dc39215bd4912", func := "loop.example/objectlinker/laws.FnExactNameTable", spec := "fnExactNameTable", unfollowed := true, recurses := true, apart := false }
def FnExactNameTableSaid : Prop := fnExactNameTableRow.holds Try.pinned (OpenSpec.ofChange fnExactNameTableSpec)

/-- ITS FALSE NEIGHBOUR: 'it returns false'. Refute it at one input. -/
def fnExactNameTableWrong : ChangeSpec := { name := "fnExactNameTable", fn := fun _ => fun
  | [d] => { results := [.lit (.bool false)], args := [d] }
  | _ => none }
def FnExactNameTableWrongFalsely : Prop := fnExactNameTableRow.holds Try.pinned (OpenSpec.ofChange fnExactNameTableWrong)

/-- 'laws.FnNameTable': WHATEVER THE INPUT: true; the input reads as it did. -/
def fnNameTableSpec : ChangeSpec := { name := "fnNameTable", fn := fun _ => fun
  | [d] => { results := [.lit (.bool true)], args := [d] }
  | _ => none }
def fnNameTableRow : OpenClaim := { program := "ytnompmdnonelhaa", sum := "f78da9e46bff311d9334ebfd9663e56d5a4270b79b517a82d14dc39215bd4912", func := "loop.example/objectlinker/laws.FnNameTable", spec := "fnNameTable", inPlace := ["internal/bytealg.IndexByte"], unfollowed := true, recurses := true, apart := false }
def FnNameTableSaid : Prop := fnNameTableRow.holds Try.pinned (OpenSpec.ofChange fnNameTableSpec)

/-- ITS FALSE NEIGHBOUR: 'it returns false'. Refute it at one input. -/
def fnNameTableWrong : ChangeSpec := { name := "fnNameTable", fn := fun _ => fun
  | [d] => { results := [.lit (.bool false)], args := [d] }
  | _ => none }
def FnNameTableWrongFalsely : Prop := fnNameTableRow.holds Try.pinned (OpenSpec.ofChange fnNameTableWrong)

/-- 'laws.FnExactObjectsValid': WHATEVER THE INPUT: true; the input reads as it did. -/
def fnExactObjectsValidSpec : ChangeSpec := { name := "fnExactObjectsValid", fn := fun _ => fun
  | [d] => { results := [.lit (.bool true)], args := [d] }
  | _ => none }
def fnExactObjectsValidRow : OpenClaim := { program := "ytnompmdnonelhaa", sum := "f78da9e46bff311d9334ebfd9663e56d5a4270b79b517a82d14dc39215bd4912", func := "loop.example/objectlinker/laws.FnExactObjectsValid", spec := "fnExactObjectsValid", unfollowed := true, recurses := true, apart := false }
def FnExactObjectsValidSaid : Prop := fnExactObjectsValidRow.holds Try.pinned (OpenSpec.ofChange fnExactObjectsValidSpec)

/-- ITS FALSE NEIGHBOUR: 'it returns false'. Refute it at one input. -/
def fnExactObjectsValidWrong : ChangeSpec := { name := "fnExactObjectsValid", fn := fun _ => fun
  | [d] => { results := [.lit (.bool false)], args := [d] }
  | _ => none }
def FnExactObjectsValidWrongFalsely : Prop := fnExactObjectsValidRow.holds Try.pinned (OpenSpec.ofChange fnExactObjectsValidWrong)

/-- 'laws.FnExactFindName': WHATEVER THE INPUT: true; the input reads as it did. -/
def fnExactFindNameSpec : ChangeSpec := { name := "fnExactFindName", fn := fun _ => fun
  | [d1, d2] => { results := [.lit (.bool true)], args := [d1, d2] }
  | _ => none }
def fnExactFindNameRow : OpenClaim := { program := "ytnompmdnonelhaa", sum := "f78da9e46bff311d9334ebfd9663e56d5a4270b79b517a82d14dc39215bd4912", func := "loop.example/objectlinker/laws.FnExactFindName", spec := "fnExactFindName", unfollowed := true, recurses := true, apart := false }
def FnExactFindNameSaid : Prop := fnExactFindNameRow.holds Try.pinned (OpenSpec.ofChange fnExactFindNameSpec)

/-- ITS FALSE NEIGHBOUR: 'it returns false'. Refute it at one input. -/
def fnExactFindNameWrong : ChangeSpec := { name := "fnExactFindName", fn := fun _ => fun
  | [d1, d2] => { results := [.lit (.bool false)], args := [d1, d2] }
  | _ => none }
def FnExactFindNameWrongFalsely : Prop := fnExactFindNameRow.holds Try.pinned (OpenSpec.ofChange fnExactFindNameWrong)

/-- 'laws.FnExactNamesWanted': WHATEVER THE INPUT: true; the input reads as it did. -/
def fnExactNamesWantedSpec : ChangeSpec := { name := "fnExactNamesWanted", fn := fun _ => fun
  | [d] => { results := [.lit (.bool true)], args := [d] }
  | _ => none }
def fnExactNamesWantedRow : OpenClaim := { program := "ytnompmdnonelhaa", sum := "f78da9e46bff311d9334ebfd9663e56d5a4270b79b517a82d14dc39215bd4912", func := "loop.example/objectlinker/laws.FnExactNamesWanted", spec := "fnExactNamesWanted", unfollowed := true, recurses := true, apart := false }
def FnExactNamesWantedSaid : Prop := fnExactNamesWantedRow.holds Try.pinned (OpenSpec.ofChange fnExactNamesWantedSpec)

/-- ITS FALSE NEIGHBOUR: 'it returns false'. Refute it at one input. -/
def fnExactNamesWantedWrong : ChangeSpec := { name := "fnExactNamesWanted", fn := fun _ => fun
  | [d] => { results := [.lit (.bool false)], args := [d] }
  | _ => none }
def FnExactNamesWantedWrongFalsely : Prop := fnExactNamesWantedRow.holds Try.pinned (OpenSpec.ofChange fnExactNamesWantedWrong)

/-- 'laws.FnExactNamesGiven': WHATEVER THE INPUT: true; the input reads as it did. -/
def fnExactNamesGivenSpec : ChangeSpec := { name := "fnExactNamesGiven", fn := fun _ => fun
  | [d] => { results := [.lit (.bool true)], args := [d] }
  | _ => none }
def fnExactNamesGivenRow : OpenClaim := { program := "ytnompmdnonelhaa", sum := "f78da9e46bff311d9334ebfd9663e56d5a4270b79b517a82d14dc39215bd4912", func := "loop.example/objectlinker/laws.FnExactNamesGiven", spec := "fnExactNamesGiven", unfollowed := true, recurses := true, apart := false }
def FnExactNamesGivenSaid : Prop := fnExactNamesGivenRow.holds Try.pinned (OpenSpec.ofChange fnExactNamesGivenSpec)

/-- ITS FALSE NEIGHBOUR: 'it returns false'. Refute it at one input. -/
def fnExactNamesGivenWrong : ChangeSpec := { name := "fnExactNamesGiven", fn := fun _ => fun
  | [d] => { results := [.lit (.bool false)], args := [d] }
  | _ => none }
def FnExactNamesGivenWrongFalsely : Prop := fnExactNamesGivenRow.holds Try.pinned (OpenSpec.ofChange fnExactNamesGivenWrong)

/-- 'laws.FnNamesWanted': WHATEVER THE INPUT: true; the input reads as it did. -/
def fnNamesWantedSpec : ChangeSpec := { name := "fnNamesWanted", fn := fun _ => fun
  | [d] => { results := [.lit (.bool true)], args := [d] }
  | _ => none }
def fnNamesWantedRow : OpenClaim := { program := "ytnompmdnonelhaa", sum := "f78da9e46bff311d9334ebfd9663e56d5a4270b79b517a82d14dc39215bd4912", func := "loop.example/objectlinker/laws.FnNamesWanted", spec := "fnNamesWanted", unfollowed := true, recurses := true, apart := false }
def FnNamesWantedSaid : Prop := fnNamesWantedRow.holds Try.pinned (OpenSpec.ofChange fnNamesWantedSpec)

/-- ITS FALSE NEIGHBOUR: 'it returns false'. Refute it at one input. -/
def fnNamesWantedWrong : ChangeSpec := { name := "fnNamesWanted", fn := fun _ => fun
  | [d] => { results := [.lit (.bool false)], args := [d] }
  | _ => none }
def FnNamesWantedWrongFalsely : Prop := fnNamesWantedRow.holds Try.pinned (OpenSpec.ofChange fnNamesWantedWrong)

/- THE SECOND FORM. 'bulk': how many values and letters a reading holds, each counted each time it is reached (what is shared counts as often as it is met; a slice's spare places count too). A statement '..UptoSaid' is the law's where the arguments, and the package variables that the reading takes, are together of bulk at most 1048576: NARROWER than '..Said'. Prove '..Said' where nothing that the law and all that it calls make is longer than what came in: it says more and counts as full. Else prove '..UptoSaid'. A law counts once. -/
mutual
def uptoBulk {H : Type} : DataW H → Nat
  | .lit (.string bytes) => bytes.length + 1
  | .lit _ => 1
  | .nil => 1
  | .ptr d => uptoBulk d + 1
  | .slice elems spare => uptoBulkAll elems + uptoBulkAll spare + 1
  | .agg parts => uptoBulkAll parts + 1
  | .iface _ d => uptoBulk d + 1
  | .map entries => uptoBulkEntries entries + 1
  | .held _ => 1
def uptoBulkAll {H : Type} : List (DataW H) → Nat
  | [] => 0
  | d :: r => uptoBulk d + uptoBulkAll r
def uptoBulkEntries {H : Type} : List (Lit × DataW H) → Nat
  | [] => 0
  | x :: r => uptoBulkEntry x + uptoBulkEntries r
def uptoBulkEntry {H : Type} : Lit × DataW H → Nat
  | (.string bytes, d) => bytes.length + uptoBulk d + 1
  | (_, d) => uptoBulk d + 1
 end
def uptoSmall : (H : Type) → List (DataW H) → Bool := fun _ ds => decide (uptoBulkAll ds ≤ 1048576)
def OpenSpec.upto (s : _root_.Go.ChangeSpec) : _root_.Go.OpenSpec := { _root_.Go.OpenSpec.ofChange s with cond := some uptoSmall }

/-- 'laws.FnSectionSize', WHERE WHAT IT READS IS OF BULK AT MOST 1048576: true; the input reads as it did. -/
def fnSectionSizeUptoRow : OpenClaim := { program := "ytnompmdnonelhaa", sum := "f78da9e46bff311d9334ebfd9663e56d5a4270b79b517a82d14dc39215bd4912", func := "loop.example/objectlinker/laws.FnSectionSize", spec := "fnSectionSize", apart := false, narrowed := true }
def FnSectionSizeUptoSaid : Prop := fnSectionSizeUptoRow.holds Try.pinned (OpenSpec.upto fnSectionSizeSpec)

/-- 'laws.FnSectionValid', WHERE WHAT IT READS IS OF BULK AT MOST 1048576: true; the input reads as it did. -/
def fnSectionValidUptoRow : OpenClaim := { program := "ytnompmdnonelhaa", sum := "f78da9e46bff311d9334ebfd9663e56d5a4270b79b517a82d14dc39215bd4912", func := "loop.example/objectlinker/laws.FnSectionValid", spec := "fnSectionValid", apart := false, narrowed := true }
def FnSectionValidUptoSaid : Prop := fnSectionValidUptoRow.holds Try.pinned (OpenSpec.upto fnSectionValidSpec)

/-- 'laws.FnSymbolValid', WHERE WHAT IT READS IS OF BULK AT MOST 1048576: true; the input reads as it did. -/
def fnSymbolValidUptoRow : OpenClaim := { program := "ytnompmdnonelhaa", sum := "f78da9e46bff311d9334ebfd9663e56d5a4270b79b517a82d14dc39215bd4912", func := "loop.example/objectlinker/laws.FnSymbolValid", spec := "fnSymbolValid", apart := false, narrowed := true }
def FnSymbolValidUptoSaid : Prop := fnSymbolValidUptoRow.holds Try.pinned (OpenSpec.upto fnSymbolValidSpec)

/-- 'laws.FnObjectValid', WHERE WHAT IT READS IS OF BULK AT MOST 1048576: true; the input reads as it did. -/
def fnObjectValidUptoRow : OpenClaim := { program := "ytnompmdnonelhaa", sum := "f78da9e46bff311d9334ebfd9663e56d5a4270b79b517a82d14dc39215bd4912", func := "loop.example/objectlinker/laws.FnObjectValid", spec := "fnObjectValid", unfollowed := true, recurses := true, apart := false, narrowed := true }
def FnObjectValidUptoSaid : Prop := fnObjectValidUptoRow.holds Try.pinned (OpenSpec.upto fnObjectValidSpec)

/-- 'laws.FnObjectsValid', WHERE WHAT IT READS IS OF BULK AT MOST 1048576: true; the input reads as it did. -/
def fnObjectsValidUptoRow : OpenClaim := { program := "ytnompmdnonelhaa", sum := "f78da9e46bff311d9334ebfd9663e56d5a4270b79b517a82d14dc39215bd4912", func := "loop.example/objectlinker/laws.FnObjectsValid", spec := "fnObjectsValid", unfollowed := true, recurses := true, apart := false, narrowed := true }
def FnObjectsValidUptoSaid : Prop := fnObjectsValidUptoRow.holds Try.pinned (OpenSpec.upto fnObjectsValidSpec)

/-- 'laws.FnFindName', WHERE WHAT IT READS IS OF BULK AT MOST 1048576: true; the input reads as it did. -/
def fnFindNameUptoRow : OpenClaim := { program := "ytnompmdnonelhaa", sum := "f78da9e46bff311d9334ebfd9663e56d5a4270b79b517a82d14dc39215bd4912", func := "loop.example/objectlinker/laws.FnFindName", spec := "fnFindName", unfollowed := true, recurses := true, apart := false, narrowed := true }
def FnFindNameUptoSaid : Prop := fnFindNameUptoRow.holds Try.pinned (OpenSpec.upto fnFindNameSpec)

/-- 'laws.FnTableShort', WHERE WHAT IT READS IS OF BULK AT MOST 1048576: true; the input reads as it did. -/
def fnTableShortUptoRow : OpenClaim := { program := "ytnompmdnonelhaa", sum := "f78da9e46bff311d9334ebfd9663e56d5a4270b79b517a82d14dc39215bd4912", func := "loop.example/objectlinker/laws.FnTableShort", spec := "fnTableShort", unfollowed := true, recurses := true, apart := false, narrowed := true }
def FnTableShortUptoSaid : Prop := fnTableShortUptoRow.holds Try.pinned (OpenSpec.upto fnTableShortSpec)

/-- 'laws.FnExactNameTable', WHERE WHAT IT READS IS OF BULK AT MOST 1048576: true; the input reads as it did. -/
def fnExactNameTableUptoRow : OpenClaim := { program := "ytnompmdnonelhaa", sum := "f78da9e46bff311d9334ebfd9663e56d5a4270b79b517a82d14dc39215bd4912", func := "loop.example/objectlinker/laws.FnExactNameTable", spec := "fnExactNameTable", unfollowed := true, recurses := true, apart := false, narrowed := true }
def FnExactNameTableUptoSaid : Prop := fnExactNameTableUptoRow.holds Try.pinned (OpenSpec.upto fnExactNameTableSpec)

/-- 'laws.FnNameTable', WHERE WHAT IT READS IS OF BULK AT MOST 1048576: true; the input reads as it did. -/
def fnNameTableUptoRow : OpenClaim := { program := "ytnompmdnonelhaa", sum := "f78da9e46bff311d9334ebfd9663e56d5a4270b79b517a82d14dc39215bd4912", func := "loop.example/objectlinker/laws.FnNameTable", spec := "fnNameTable", inPlace := ["internal/bytealg.IndexByte"], unfollowed := true, recurses := true, apart := false, narrowed := true }
def FnNameTableUptoSaid : Prop := fnNameTableUptoRow.holds Try.pinned (OpenSpec.upto fnNameTableSpec)

/-- 'laws.FnExactObjectsValid', WHERE WHAT IT READS IS OF BULK AT MOST 1048576: true; the input reads as it did. -/
def fnExactObjectsValidUptoRow : OpenClaim := { program := "ytnompmdnonelhaa", sum := "f78da9e46bff311d9334ebfd9663e56d5a4270b79b517a82d14dc39215bd4912", func := "loop.example/objectlinker/laws.FnExactObjectsValid", spec := "fnExactObjectsValid", unfollowed := true, recurses := true, apart := false, narrowed := true }
def FnExactObjectsValidUptoSaid : Prop := fnExactObjectsValidUptoRow.holds Try.pinned (OpenSpec.upto fnExactObjectsValidSpec)

/-- 'laws.FnExactFindName', WHERE WHAT IT READS IS OF BULK AT MOST 1048576: true; the input reads as it did. -/
def fnExactFindNameUptoRow : OpenClaim := { program := "ytnompmdnonelhaa", sum := "f78da9e46bff311d9334ebfd9663e56d5a4270b79b517a82d14dc39215bd4912", func := "loop.example/objectlinker/laws.FnExactFindName", spec := "fnExactFindName", unfollowed := true, recurses := true, apart := false, narrowed := true }
def FnExactFindNameUptoSaid : Prop := fnExactFindNameUptoRow.holds Try.pinned (OpenSpec.upto fnExactFindNameSpec)

/-- 'laws.FnExactNamesWanted', WHERE WHAT IT READS IS OF BULK AT MOST 1048576: true; the input reads as it did. -/
def fnExactNamesWantedUptoRow : OpenClaim := { program := "ytnompmdnonelhaa", sum := "f78da9e46bff311d9334ebfd9663e56d5a4270b79b517a82d14dc39215bd4912", func := "loop.example/objectlinker/laws.FnExactNamesWanted", spec := "fnExactNamesWanted", unfollowed := true, recurses := true, apart := false, narrowed := true }
def FnExactNamesWantedUptoSaid : Prop := fnExactNamesWantedUptoRow.holds Try.pinned (OpenSpec.upto fnExactNamesWantedSpec)

/-- 'laws.FnExactNamesGiven', WHERE WHAT IT READS IS OF BULK AT MOST 1048576: true; the input reads as it did. -/
def fnExactNamesGivenUptoRow : OpenClaim := { program := "ytnompmdnonelhaa", sum := "f78da9e46bff311d9334ebfd9663e56d5a4270b79b517a82d14dc39215bd4912", func := "loop.example/objectlinker/laws.FnExactNamesGiven", spec := "fnExactNamesGiven", unfollowed := true, recurses := true, apart := false, narrowed := true }
def FnExactNamesGivenUptoSaid : Prop := fnExactNamesGivenUptoRow.holds Try.pinned (OpenSpec.upto fnExactNamesGivenSpec)

/-- 'laws.FnNamesWanted', WHERE WHAT IT READS IS OF BULK AT MOST 1048576: true; the input reads as it did. -/
def fnNamesWantedUptoRow : OpenClaim := { program := "ytnompmdnonelhaa", sum := "f78da9e46bff311d9334ebfd9663e56d5a4270b79b517a82d14dc39215bd4912", func := "loop.example/objectlinker/laws.FnNamesWanted", spec := "fnNamesWanted", unfollowed := true, recurses := true, apart := false, narrowed := true }
def FnNamesWantedUptoSaid : Prop := fnNamesWantedUptoRow.holds Try.pinned (OpenSpec.upto fnNamesWantedSpec)

end Rows
end Go.Proofs.Ytnompmdnonelhaa
