/-
  No cell of these rows narrows 'for every input' (looked for: loops, veiled, ifaces, maps, wideKeys, modest, calm, conditions, laid).
  DERIVED. THE GIVEN ROWS OF THIS SEAT. 11 by the template 'for every input the law returns true; each argument reads behind the call as it read before'; 0 by the template 'total and deterministic' (their statements: YthccjimckjecjaaTotals.lean).
  GIVEN WITH THE SEED: the statements are not yours to turn. If you find one false, say at which input.
  Laid BY PROGRAM, IN A SANDBOX (cutbox-rows.mjs): the forced cells as the released guide's own fill.sh prints them over the translation c9f585d3a25fe654… (all of the seat's roots in one cut). By AI agents, Wed Nov 11 2026. No macro, syntax, notation, axiom, sorry.
-/
import Derived.Test.YthccjimckjecjaaChecked
import GoSem.Claim
import GoSem.ClaimJoined
import GoSem.ClaimMapViews
import Derived.JoinedTies
import Derived.KernelRfl
namespace Go.Proofs.Ythccjimckjecjaa
/- THE CELL 'sum', in the pinned program and in every row, IS THE sha256 OF THE DUMP (.gsa) THAT YthccjimckjecjaaProg.lean LOADS. Nothing in Lean hashes anything: it is a label: what it is worth is what the hold of that sum in a sandbox is worth. -/
noncomputable def Try.pinned : Pinned := { name := "ythccjimckjecjaa", sum := "c9f585d3a25fe6546a48b7b31800f23448bded8a04026b0098d96fcc6c8743c5", checked := Try.checked }
namespace Rows
def none {H : Type} : Left H := { results := [], args := [] }

/-- 'laws.FnObjectLength': WHATEVER THE INPUT: true; the input reads as it did. -/
def fnObjectLengthSpec : ChangeSpec := { name := "fnObjectLength", fn := fun _ => fun
  | [d] => { results := [.lit (.bool true)], args := [d] }
  | _ => none }
def fnObjectLengthRow : OpenClaim := { program := "ythccjimckjecjaa", sum := "c9f585d3a25fe6546a48b7b31800f23448bded8a04026b0098d96fcc6c8743c5", func := "loop.example/objectlinker/laws.FnObjectLength", spec := "fnObjectLength", inPlace := ["internal/bytealg.IndexByte"], unfollowed := true, recurses := true, apart := false }
def FnObjectLengthSaid : Prop := fnObjectLengthRow.holds Try.pinned (OpenSpec.ofChange fnObjectLengthSpec)

/-- ITS FALSE NEIGHBOUR: 'it returns false'. Refute it at one input. -/
def fnObjectLengthWrong : ChangeSpec := { name := "fnObjectLength", fn := fun _ => fun
  | [d] => { results := [.lit (.bool false)], args := [d] }
  | _ => none }
def FnObjectLengthWrongFalsely : Prop := fnObjectLengthRow.holds Try.pinned (OpenSpec.ofChange fnObjectLengthWrong)

/-- 'laws.FnExactObjectLength': WHATEVER THE INPUT: true; the input reads as it did. -/
def fnExactObjectLengthSpec : ChangeSpec := { name := "fnExactObjectLength", fn := fun _ => fun
  | [d] => { results := [.lit (.bool true)], args := [d] }
  | _ => none }
def fnExactObjectLengthRow : OpenClaim := { program := "ythccjimckjecjaa", sum := "c9f585d3a25fe6546a48b7b31800f23448bded8a04026b0098d96fcc6c8743c5", func := "loop.example/objectlinker/laws.FnExactObjectLength", spec := "fnExactObjectLength", unfollowed := true, recurses := true, apart := false }
def FnExactObjectLengthSaid : Prop := fnExactObjectLengthRow.holds Try.pinned (OpenSpec.ofChange fnExactObjectLengthSpec)

/-- ITS FALSE NEIGHBOUR: 'it returns false'. Refute it at one input. -/
def fnExactObjectLengthWrong : ChangeSpec := { name := "fnExactObjectLength", fn := fun _ => fun
  | [d] => { results := [.lit (.bool false)], args := [d] }
  | _ => none }
def FnExactObjectLengthWrongFalsely : Prop := fnExactObjectLengthRow.holds Try.pinned (OpenSpec.ofChange fnExactObjectLengthWrong)

/-- 'laws.FnHideNames': WHATEVER THE INPUT: true; the input reads as it did. -/
def fnHideNamesSpec : ChangeSpec := { name := "fnHideNames", fn := fun _ => fun
  | [d] => { results := [.lit (.bool true)], args := [d] }
  | _ => none }
def fnHideNamesRow : OpenClaim := { program := "ythccjimckjecjaa", sum := "c9f585d3a25fe6546a48b7b31800f23448bded8a04026b0098d96fcc6c8743c5", func := "loop.example/objectlinker/laws.FnHideNames", spec := "fnHideNames", unfollowed := true, recurses := true, apart := false }
def FnHideNamesSaid : Prop := fnHideNamesRow.holds Try.pinned (OpenSpec.ofChange fnHideNamesSpec)

/-- ITS FALSE NEIGHBOUR: 'it returns false'. Refute it at one input. -/
def fnHideNamesWrong : ChangeSpec := { name := "fnHideNames", fn := fun _ => fun
  | [d] => { results := [.lit (.bool false)], args := [d] }
  | _ => none }
def FnHideNamesWrongFalsely : Prop := fnHideNamesRow.holds Try.pinned (OpenSpec.ofChange fnHideNamesWrong)

/-- 'laws.FnExactHideNames': WHATEVER THE INPUT: true; the input reads as it did. -/
def fnExactHideNamesSpec : ChangeSpec := { name := "fnExactHideNames", fn := fun _ => fun
  | [d1, d2] => { results := [.lit (.bool true)], args := [d1, d2] }
  | _ => none }
def fnExactHideNamesRow : OpenClaim := { program := "ythccjimckjecjaa", sum := "c9f585d3a25fe6546a48b7b31800f23448bded8a04026b0098d96fcc6c8743c5", func := "loop.example/objectlinker/laws.FnExactHideNames", spec := "fnExactHideNames", unfollowed := true, recurses := true, apart := false }
def FnExactHideNamesSaid : Prop := fnExactHideNamesRow.holds Try.pinned (OpenSpec.ofChange fnExactHideNamesSpec)

/-- ITS FALSE NEIGHBOUR: 'it returns false'. Refute it at one input. -/
def fnExactHideNamesWrong : ChangeSpec := { name := "fnExactHideNames", fn := fun _ => fun
  | [d1, d2] => { results := [.lit (.bool false)], args := [d1, d2] }
  | _ => none }
def FnExactHideNamesWrongFalsely : Prop := fnExactHideNamesRow.holds Try.pinned (OpenSpec.ofChange fnExactHideNamesWrong)

/-- 'laws.FnExactStripLocals': WHATEVER THE INPUT: true; the input reads as it did. -/
def fnExactStripLocalsSpec : ChangeSpec := { name := "fnExactStripLocals", fn := fun _ => fun
  | [d] => { results := [.lit (.bool true)], args := [d] }
  | _ => none }
def fnExactStripLocalsRow : OpenClaim := { program := "ythccjimckjecjaa", sum := "c9f585d3a25fe6546a48b7b31800f23448bded8a04026b0098d96fcc6c8743c5", func := "loop.example/objectlinker/laws.FnExactStripLocals", spec := "fnExactStripLocals", unfollowed := true, recurses := true, apart := false }
def FnExactStripLocalsSaid : Prop := fnExactStripLocalsRow.holds Try.pinned (OpenSpec.ofChange fnExactStripLocalsSpec)

/-- ITS FALSE NEIGHBOUR: 'it returns false'. Refute it at one input. -/
def fnExactStripLocalsWrong : ChangeSpec := { name := "fnExactStripLocals", fn := fun _ => fun
  | [d] => { results := [.lit (.bool false)], args := [d] }
  | _ => none }
def FnExactStripLocalsWrongFalsely : Prop := fnExactStripLocalsRow.holds Try.pinned (OpenSpec.ofChange fnExactStripLocalsWrong)

/-- 'laws.FnExactStripWanted': WHATEVER THE INPUT: true; the input reads as it did. -/
def fnExactStripWantedSpec : ChangeSpec := { name := "fnExactStripWanted", fn := fun _ => fun
  | [d] => { results := [.lit (.bool true)], args := [d] }
  | _ => none }
def fnExactStripWantedRow : OpenClaim := { program := "ythccjimckjecjaa", sum := "c9f585d3a25fe6546a48b7b31800f23448bded8a04026b0098d96fcc6c8743c5", func := "loop.example/objectlinker/laws.FnExactStripWanted", spec := "fnExactStripWanted", unfollowed := true, recurses := true, apart := false }
def FnExactStripWantedSaid : Prop := fnExactStripWantedRow.holds Try.pinned (OpenSpec.ofChange fnExactStripWantedSpec)

/-- ITS FALSE NEIGHBOUR: 'it returns false'. Refute it at one input. -/
def fnExactStripWantedWrong : ChangeSpec := { name := "fnExactStripWanted", fn := fun _ => fun
  | [d] => { results := [.lit (.bool false)], args := [d] }
  | _ => none }
def FnExactStripWantedWrongFalsely : Prop := fnExactStripWantedRow.holds Try.pinned (OpenSpec.ofChange fnExactStripWantedWrong)

/-- 'laws.FnReachSections': WHATEVER THE INPUT: true; the input reads as it did. -/
def fnReachSectionsSpec : ChangeSpec := { name := "fnReachSections", fn := fun _ => fun
  | [d] => { results := [.lit (.bool true)], args := [d] }
  | _ => none }
def fnReachSectionsRow : OpenClaim := { program := "ythccjimckjecjaa", sum := "c9f585d3a25fe6546a48b7b31800f23448bded8a04026b0098d96fcc6c8743c5", func := "loop.example/objectlinker/laws.FnReachSections", spec := "fnReachSections", unfollowed := true, recurses := true, apart := false }
def FnReachSectionsSaid : Prop := fnReachSectionsRow.holds Try.pinned (OpenSpec.ofChange fnReachSectionsSpec)

/-- ITS FALSE NEIGHBOUR: 'it returns false'. Refute it at one input. -/
def fnReachSectionsWrong : ChangeSpec := { name := "fnReachSections", fn := fun _ => fun
  | [d] => { results := [.lit (.bool false)], args := [d] }
  | _ => none }
def FnReachSectionsWrongFalsely : Prop := fnReachSectionsRow.holds Try.pinned (OpenSpec.ofChange fnReachSectionsWrong)

/-- 'laws.FnExactReachSections': WHATEVER THE INPUT: true; the input reads as it did. -/
def fnExactReachSectionsSpec : ChangeSpec := { name := "fnExactReachSections", fn := fun _ => fun
  | [d1, d2] => { results := [.lit (.bool true)], args := [d1, d2] }
  | _ => none }
def fnExactReachSectionsRow : OpenClaim := { program := "ythccjimckjecjaa", sum := "c9f585d3a25fe6546a48b7b31800f23448bded8a04026b0098d96fcc6c8743c5", func := "loop.example/objectlinker/laws.FnExactReachSections", spec := "fnExactReachSections", unfollowed := true, recurses := true, apart := false }
def FnExactReachSectionsSaid : Prop := fnExactReachSectionsRow.holds Try.pinned (OpenSpec.ofChange fnExactReachSectionsSpec)

/-- ITS FALSE NEIGHBOUR: 'it returns false'. Refute it at one input. -/
def fnExactReachSectionsWrong : ChangeSpec := { name := "fnExactReachSections", fn := fun _ => fun
  | [d1, d2] => { results := [.lit (.bool false)], args := [d1, d2] }
  | _ => none }
def FnExactReachSectionsWrongFalsely : Prop := fnExactReachSectionsRow.holds Try.pinned (OpenSpec.ofChange fnExactReachSectionsWrong)

/-- 'laws.FnWriteObject': WHATEVER THE INPUT: true; the input reads as it did. -/
def fnWriteObjectSpec : ChangeSpec := { name := "fnWriteObject", fn := fun _ => fun
  | [d] => { results := [.lit (.bool true)], args := [d] }
  | _ => none }
def fnWriteObjectRow : OpenClaim := { program := "ythccjimckjecjaa", sum := "c9f585d3a25fe6546a48b7b31800f23448bded8a04026b0098d96fcc6c8743c5", func := "loop.example/objectlinker/laws.FnWriteObject", spec := "fnWriteObject", inPlace := ["internal/bytealg.IndexByte"], unfollowed := true, recurses := true, apart := false }
def FnWriteObjectSaid : Prop := fnWriteObjectRow.holds Try.pinned (OpenSpec.ofChange fnWriteObjectSpec)

/-- ITS FALSE NEIGHBOUR: 'it returns false'. Refute it at one input. -/
def fnWriteObjectWrong : ChangeSpec := { name := "fnWriteObject", fn := fun _ => fun
  | [d] => { results := [.lit (.bool false)], args := [d] }
  | _ => none }
def FnWriteObjectWrongFalsely : Prop := fnWriteObjectRow.holds Try.pinned (OpenSpec.ofChange fnWriteObjectWrong)

/-- 'laws.FnKeepSections': WHATEVER THE INPUT: true; the input reads as it did. -/
def fnKeepSectionsSpec : ChangeSpec := { name := "fnKeepSections", fn := fun _ => fun
  | [d] => { results := [.lit (.bool true)], args := [d] }
  | _ => none }
def fnKeepSectionsRow : OpenClaim := { program := "ythccjimckjecjaa", sum := "c9f585d3a25fe6546a48b7b31800f23448bded8a04026b0098d96fcc6c8743c5", func := "loop.example/objectlinker/laws.FnKeepSections", spec := "fnKeepSections", unfollowed := true, recurses := true, apart := false }
def FnKeepSectionsSaid : Prop := fnKeepSectionsRow.holds Try.pinned (OpenSpec.ofChange fnKeepSectionsSpec)

/-- ITS FALSE NEIGHBOUR: 'it returns false'. Refute it at one input. -/
def fnKeepSectionsWrong : ChangeSpec := { name := "fnKeepSections", fn := fun _ => fun
  | [d] => { results := [.lit (.bool false)], args := [d] }
  | _ => none }
def FnKeepSectionsWrongFalsely : Prop := fnKeepSectionsRow.holds Try.pinned (OpenSpec.ofChange fnKeepSectionsWrong)

/-- 'laws.FnExactKeepSections': WHATEVER THE INPUT: true; the input reads as it did. -/
def fnExactKeepSectionsSpec : ChangeSpec := { name := "fnExactKeepSections", fn := fun _ => fun
  | [d1, d2] => { results := [.lit (.bool true)], args := [d1, d2] }
  | _ => none }
def fnExactKeepSectionsRow : OpenClaim := { program := "ythccjimckjecjaa", sum := "c9f585d3a25fe6546a48b7b31800f23448bded8a04026b0098d96fcc6c8743c5", func := "loop.example/objectlinker/laws.FnExactKeepSections", spec := "fnExactKeepSections", unfollowed := true, recurses := true, apart := false }
def FnExactKeepSectionsSaid : Prop := fnExactKeepSectionsRow.holds Try.pinned (OpenSpec.ofChange fnExactKeepSectionsSpec)

/-- ITS FALSE NEIGHBOUR: 'it returns false'. Refute it at one input. -/
def fnExactKeepSectionsWrong : ChangeSpec := { name := "fnExactKeepSections", fn := fun _ => fun
  | [d1, d2] => { results := [.lit (.bool false)], args := [d1, d2] }
  | _ => none }
def FnExactKeepSectionsWrongFalsely : Prop := fnExactKeepSectionsRow.holds Try.pinned (OpenSpec.ofChange fnExactKeepSectionsWrong)

/- THE SECOND FORM. 'bulk': how many values and letters a reading holds, each counted each time it is reached (what is shared counts as often as it is met; a slice's spare places count too). A statement '..UptoSaid' is the law's where the arguments, and the package variables that the reading takes, are together of bulk at most 1048576: NARROWER than '..Said'. Prove '..Said' where nothing that the law and all that it calls make is longer than what came in: it says more and counts as full. Else prove '..UptoSaid'. A law counts once. -/
mutual
def uptoBulk {H : Type} : DataW H → Nat
  | .lit (.string bytes) => bytes.length + 1
  | .lit _ => 1
  | .nil => 1
  | .ptr d => uptoBulk d + 1
  | .slice elems spare => uptoBulkAll elems + uptoBulkAll spare + 1
  | .agg parts => uptoBulkAll parts + 1
  | .iface _ d => uptoBulk d + 1
  | .map entries => uptoBulkEntries entries + 1
  | .held _ => 1
def uptoBulkAll {H : Type} : List (DataW H) → Nat
  | [] => 0
  | d :: r => uptoBulk d + uptoBulkAll r
def uptoBulkEntries {H : Type} : List (Lit × DataW H) → Nat
  | [] => 0
  | x :: r => uptoBulkEntry x + uptoBulkEntries r
def uptoBulkEntry {H : Type} : Lit × DataW H → Nat
  | (.string bytes, d) => bytes.length + uptoBulk d + 1
  | (_, d) => uptoBulk d + 1
 end
def uptoSmall : (H : Type) → List (DataW H) → Bool := fun _ ds => decide (uptoBulkAll ds ≤ 1048576)
def OpenSpec.upto (s : _root_.Go.ChangeSpec) : _root_.Go.OpenSpec := { _root_.Go.OpenSpec.ofChange s with cond := some uptoSmall }

/-- 'laws.FnObjectLength', WHERE WHAT IT READS IS OF BULK AT MOST 1048576: true; the input reads as it did. -/
def fnObjectLengthUptoRow : OpenClaim := { program := "ythccjimckjecjaa", sum := "c9f585d3a25fe6546a48b7b31800f23448bded8a04026b0098d96fcc6c8743c5", func := "loop.example/objectlinker/laws.FnObjectLength", spec := "fnObjectLength", inPlace := ["internal/bytealg.IndexByte"], unfollowed := true, recurses := true, apart := false, narrowed := true }
def FnObjectLengthUptoSaid : Prop := fnObjectLengthUptoRow.holds Try.pinned (OpenSpec.upto fnObjectLengthSpec)

/-- 'laws.FnExactObjectLength', WHERE WHAT IT READS IS OF BULK AT MOST 1048576: true; the input reads as it did. -/
def fnExactObjectLengthUptoRow : OpenClaim := { program := "ythccjimckjecjaa", sum := "c9f585d3a25fe6546a48b7b31800f23448bded8a04026b0098d96fcc6c8743c5", func := "loop.example/objectlinker/laws.FnExactObjectLength", spec := "fnExactObjectLength", unfollowed := true, recurses := true, apart := false, narrowed := true }
def FnExactObjectLengthUptoSaid : Prop := fnExactObjectLengthUptoRow.holds Try.pinned (OpenSpec.upto fnExactObjectLengthSpec)

/-- 'laws.FnHideNames', WHERE WHAT IT READS IS OF BULK AT MOST 1048576: true; the input reads as it did. -/
def fnHideNamesUptoRow : OpenClaim := { program := "ythccjimckjecjaa", sum := "c9f585d3a25fe6546a48b7b31800f23448bded8a04026b0098d96fcc6c8743c5", func := "loop.example/objectlinker/laws.FnHideNames", spec := "fnHideNames", unfollowed := true, recurses := true, apart := false, narrowed := true }
def FnHideNamesUptoSaid : Prop := fnHideNamesUptoRow.holds Try.pinned (OpenSpec.upto fnHideNamesSpec)

/-- 'laws.FnExactHideNames', WHERE WHAT IT READS IS OF BULK AT MOST 1048576: true; the input reads as it did. -/
def fnExactHideNamesUptoRow : OpenClaim := { program := "ythccjimckjecjaa", sum := "c9f585d3a25fe6546a48b7b31800f23448bded8a04026b0098d96fcc6c8743c5", func := "loop.example/objectlinker/laws.FnExactHideNames", spec := "fnExactHideNames", unfollowed := true, recurses := true, apart := false, narrowed := true }
def FnExactHideNamesUptoSaid : Prop := fnExactHideNamesUptoRow.holds Try.pinned (OpenSpec.upto fnExactHideNamesSpec)

/-- 'laws.FnExactStripLocals', WHERE WHAT IT READS IS OF BULK AT MOST 1048576: true; the input reads as it did. -/
def fnExactStripLocalsUptoRow : OpenClaim := { program := "ythccjimckjecjaa", sum := "c9f585d3a25fe6546a48b7b31800f23448bded8a04026b0098d96fcc6c8743c5", func := "loop.example/objectlinker/laws.FnExactStripLocals", spec := "fnExactStripLocals", unfollowed := true, recurses := true, apart := false, narrowed := true }
def FnExactStripLocalsUptoSaid : Prop := fnExactStripLocalsUptoRow.holds Try.pinned (OpenSpec.upto fnExactStripLocalsSpec)

/-- 'laws.FnExactStripWanted', WHERE WHAT IT READS IS OF BULK AT MOST 1048576: true; the input reads as it did. -/
def fnExactStripWantedUptoRow : OpenClaim := { program := "ythccjimckjecjaa", sum := "c9f585d3a25fe6546a48b7b31800f23448bded8a04026b0098d96fcc6c8743c5", func := "loop.example/objectlinker/laws.FnExactStripWanted", spec := "fnExactStripWanted", unfollowed := true, recurses := true, apart := false, narrowed := true }
def FnExactStripWantedUptoSaid : Prop := fnExactStripWantedUptoRow.holds Try.pinned (OpenSpec.upto fnExactStripWantedSpec)

/-- 'laws.FnReachSections', WHERE WHAT IT READS IS OF BULK AT MOST 1048576: true; the input reads as it did. -/
def fnReachSectionsUptoRow : OpenClaim := { program := "ythccjimckjecjaa", sum := "c9f585d3a25fe6546a48b7b31800f23448bded8a04026b0098d96fcc6c8743c5", func := "loop.example/objectlinker/laws.FnReachSections", spec := "fnReachSections", unfollowed := true, recurses := true, apart := false, narrowed := true }
def FnReachSectionsUptoSaid : Prop := fnReachSectionsUptoRow.holds Try.pinned (OpenSpec.upto fnReachSectionsSpec)

/-- 'laws.FnExactReachSections', WHERE WHAT IT READS IS OF BULK AT MOST 1048576: true; the input reads as it did. -/
def fnExactReachSectionsUptoRow : OpenClaim := { program := "ythccjimckjecjaa", sum := "c9f585d3a25fe6546a48b7b31800f23448bded8a04026b0098d96fcc6c8743c5", func := "loop.example/objectlinker/laws.FnExactReachSections", spec := "fnExactReachSections", unfollowed := true, recurses := true, apart := false, narrowed := true }
def FnExactReachSectionsUptoSaid : Prop := fnExactReachSectionsUptoRow.holds Try.pinned (OpenSpec.upto fnExactReachSectionsSpec)

/-- 'laws.FnWriteObject', WHERE WHAT IT READS IS OF BULK AT MOST 1048576: true; the input reads as it did. -/
def fnWriteObjectUptoRow : OpenClaim := { program := "ythccjimckjecjaa", sum := "c9f585d3a25fe6546a48b7b31800f23448bded8a04026b0098d96fcc6c8743c5", func := "loop.example/objectlinker/laws.FnWriteObject", spec := "fnWriteObject", inPlace := ["internal/bytealg.IndexByte"], unfollowed := true, recurses := true, apart := false, narrowed := true }
def FnWriteObjectUptoSaid : Prop := fnWriteObjectUptoRow.holds Try.pinned (OpenSpec.upto fnWriteObjectSpec)

/-- 'laws.FnKeepSections', WHERE WHAT IT READS IS OF BULK AT MOST 1048576: true; the input reads as it did. -/
def fnKeepSectionsUptoRow : OpenClaim := { program := "ythccjimckjecjaa", sum := "c9f585d3a25fe6546a48b7b31800f23448bded8a04026b0098d96fcc6c8743c5", func := "loop.example/objectlinker/laws.FnKeepSections", spec := "fnKeepSections", unfollowed := true, recurses := true, apart := false, narrowed := true }
def FnKeepSectionsUptoSaid : Prop := fnKeepSectionsUptoRow.holds Try.pinned (OpenSpec.upto fnKeepSectionsSpec)

/-- 'laws.FnExactKeepSections', WHERE WHAT IT READS IS OF BULK AT MOST 1048576: true; the input reads as it did. -/
def fnExactKeepSectionsUptoRow : OpenClaim := { program := "ythccjimckjecjaa", sum := "c9f585d3a25fe6546a48b7b31800f23448bded8a04026b0098d96fcc6c8743c5", func := "loop.example/objectlinker/laws.FnExactKeepSections", spec := "fnExactKeepSections", unfollowed := true, recurses := true, apart := false, narrowed := true }
def FnExactKeepSectionsUptoSaid : Prop := fnExactKeepSectionsUptoRow.holds Try.pinned (OpenSpec.upto fnExactKeepSectionsSpec)

end Rows
end Go.Proofs.Ythccjimckjecjaa
