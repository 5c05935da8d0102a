/-
  No cell of these rows narrows 'for every input' (looked for: loops, veiled, ifaces, maps, wideKeys, modest, calm, conditions, laid).
  DERIVED. THE GIVEN ROWS OF THIS SEAT. 12 by the template 'for every input the law returns true; each argument reads behind the call as it read before'; 0 by the template 'total and deterministic' (their statements: YtiilfpdjajacmaaTotals.lean).
  GIVEN WITH THE SEED: the statements are not yours to turn. If you find one false, say at which input.
  Laid BY PROGRAM, IN A SANDBOX (cutbox-rows.mjs): the forced cells as the released guide's own fill.sh prints them over the translation 5b867a0334fd4e03… (all of the seat's roots in one cut). By AI agents, Wed Nov 11 2026. No macro, syntax, notation, axiom, sorry.
-/
import Derived.Test.YtiilfpdjajacmaaChecked
import GoSem.Claim
import GoSem.ClaimJoined
import GoSem.ClaimMapViews
import Derived.JoinedTies
import Derived.KernelRfl
namespace Go.Proofs.Ytiilfpdjajacmaa
/- THE CELL 'sum', in the pinned program and in every row, IS THE sha256 OF THE DUMP (.gsa) THAT YtiilfpdjajacmaaProg.lean LOADS. Nothing in Lean hashes anything: it is a label: what it is worth is what the hold of that sum in a sandbox is worth. -/
noncomputable def Try.pinned : Pinned := { name := "ytiilfpdjajacmaa", sum := "5b867a0334fd4e03a091c3cceecc9fde3a670946cb5cbab7233a2c25752266f7", checked := Try.checked }
namespace Rows
def none {H : Type} : Left H := { results := [], args := [] }

/-- 'laws.FnExactConstants': WHATEVER THE INPUT: true; the input reads as it did. -/
def fnExactConstantsSpec : ChangeSpec := { name := "fnExactConstants", fn := fun _ => fun
  | [] => { results := [.lit (.bool true)], args := [] }
  | _ => none }
def fnExactConstantsRow : OpenClaim := { program := "ytiilfpdjajacmaa", sum := "5b867a0334fd4e03a091c3cceecc9fde3a670946cb5cbab7233a2c25752266f7", func := "loop.example/objectlinker/laws.FnExactConstants", spec := "fnExactConstants", apart := false }
def FnExactConstantsSaid : Prop := fnExactConstantsRow.holds Try.pinned (OpenSpec.ofChange fnExactConstantsSpec)

/-- ITS FALSE NEIGHBOUR: 'it returns false'. Refute it at one input. -/
def fnExactConstantsWrong : ChangeSpec := { name := "fnExactConstants", fn := fun _ => fun
  | [] => { results := [.lit (.bool false)], args := [] }
  | _ => none }
def FnExactConstantsWrongFalsely : Prop := fnExactConstantsRow.holds Try.pinned (OpenSpec.ofChange fnExactConstantsWrong)

/-- 'laws.FnExactHeaderValid': WHATEVER THE INPUT: true; the input reads as it did. -/
def fnExactHeaderValidSpec : ChangeSpec := { name := "fnExactHeaderValid", fn := fun _ => fun
  | [d] => { results := [.lit (.bool true)], args := [d] }
  | _ => none }
def fnExactHeaderValidRow : OpenClaim := { program := "ytiilfpdjajacmaa", sum := "5b867a0334fd4e03a091c3cceecc9fde3a670946cb5cbab7233a2c25752266f7", func := "loop.example/objectlinker/laws.FnExactHeaderValid", spec := "fnExactHeaderValid", apart := false }
def FnExactHeaderValidSaid : Prop := fnExactHeaderValidRow.holds Try.pinned (OpenSpec.ofChange fnExactHeaderValidSpec)

/-- ITS FALSE NEIGHBOUR: 'it returns false'. Refute it at one input. -/
def fnExactHeaderValidWrong : ChangeSpec := { name := "fnExactHeaderValid", fn := fun _ => fun
  | [d] => { results := [.lit (.bool false)], args := [d] }
  | _ => none }
def FnExactHeaderValidWrongFalsely : Prop := fnExactHeaderValidRow.holds Try.pinned (OpenSpec.ofChange fnExactHeaderValidWrong)

/-- 'laws.FnExactAlignUp': WHATEVER THE INPUT: true; the input reads as it did. -/
def fnExactAlignUpSpec : ChangeSpec := { name := "fnExactAlignUp", fn := fun _ => fun
  | [d1, d2] => { results := [.lit (.bool true)], args := [d1, d2] }
  | _ => none }
def fnExactAlignUpRow : OpenClaim := { program := "ytiilfpdjajacmaa", sum := "5b867a0334fd4e03a091c3cceecc9fde3a670946cb5cbab7233a2c25752266f7", func := "loop.example/objectlinker/laws.FnExactAlignUp", spec := "fnExactAlignUp", apart := false }
def FnExactAlignUpSaid : Prop := fnExactAlignUpRow.holds Try.pinned (OpenSpec.ofChange fnExactAlignUpSpec)

/-- ITS FALSE NEIGHBOUR: 'it returns false'. Refute it at one input. -/
def fnExactAlignUpWrong : ChangeSpec := { name := "fnExactAlignUp", fn := fun _ => fun
  | [d1, d2] => { results := [.lit (.bool false)], args := [d1, d2] }
  | _ => none }
def FnExactAlignUpWrongFalsely : Prop := fnExactAlignUpRow.holds Try.pinned (OpenSpec.ofChange fnExactAlignUpWrong)

/-- 'laws.FnExactFixupWide': WHATEVER THE INPUT: true; the input reads as it did. -/
def fnExactFixupWideSpec : ChangeSpec := { name := "fnExactFixupWide", fn := fun _ => fun
  | [d] => { results := [.lit (.bool true)], args := [d] }
  | _ => none }
def fnExactFixupWideRow : OpenClaim := { program := "ytiilfpdjajacmaa", sum := "5b867a0334fd4e03a091c3cceecc9fde3a670946cb5cbab7233a2c25752266f7", func := "loop.example/objectlinker/laws.FnExactFixupWide", spec := "fnExactFixupWide", apart := false }
def FnExactFixupWideSaid : Prop := fnExactFixupWideRow.holds Try.pinned (OpenSpec.ofChange fnExactFixupWideSpec)

/-- ITS FALSE NEIGHBOUR: 'it returns false'. Refute it at one input. -/
def fnExactFixupWideWrong : ChangeSpec := { name := "fnExactFixupWide", fn := fun _ => fun
  | [d] => { results := [.lit (.bool false)], args := [d] }
  | _ => none }
def FnExactFixupWideWrongFalsely : Prop := fnExactFixupWideRow.holds Try.pinned (OpenSpec.ofChange fnExactFixupWideWrong)

/-- 'laws.FnExactNameValid': WHATEVER THE INPUT: true; the input reads as it did. -/
def fnExactNameValidSpec : ChangeSpec := { name := "fnExactNameValid", fn := fun _ => fun
  | [d] => { results := [.lit (.bool true)], args := [d] }
  | _ => none }
def fnExactNameValidRow : OpenClaim := { program := "ytiilfpdjajacmaa", sum := "5b867a0334fd4e03a091c3cceecc9fde3a670946cb5cbab7233a2c25752266f7", func := "loop.example/objectlinker/laws.FnExactNameValid", spec := "fnExactNameValid", apart := false }
def FnExactNameValidSaid : Prop := fnExactNameValidRow.holds Try.pinned (OpenSpec.ofChange fnExactNameValidSpec)

/-- ITS FALSE NEIGHBOUR: 'it returns false'. Refute it at one input. -/
def fnExactNameValidWrong : ChangeSpec := { name := "fnExactNameValid", fn := fun _ => fun
  | [d] => { results := [.lit (.bool false)], args := [d] }
  | _ => none }
def FnExactNameValidWrongFalsely : Prop := fnExactNameValidRow.holds Try.pinned (OpenSpec.ofChange fnExactNameValidWrong)

/-- 'laws.FnExactSignedOf': WHATEVER THE INPUT: true; the input reads as it did. -/
def fnExactSignedOfSpec : ChangeSpec := { name := "fnExactSignedOf", fn := fun _ => fun
  | [d1, d2] => { results := [.lit (.bool true)], args := [d1, d2] }
  | _ => none }
def fnExactSignedOfRow : OpenClaim := { program := "ytiilfpdjajacmaa", sum := "5b867a0334fd4e03a091c3cceecc9fde3a670946cb5cbab7233a2c25752266f7", func := "loop.example/objectlinker/laws.FnExactSignedOf", spec := "fnExactSignedOf", apart := false }
def FnExactSignedOfSaid : Prop := fnExactSignedOfRow.holds Try.pinned (OpenSpec.ofChange fnExactSignedOfSpec)

/-- ITS FALSE NEIGHBOUR: 'it returns false'. Refute it at one input. -/
def fnExactSignedOfWrong : ChangeSpec := { name := "fnExactSignedOf", fn := fun _ => fun
  | [d1, d2] => { results := [.lit (.bool false)], args := [d1, d2] }
  | _ => none }
def FnExactSignedOfWrongFalsely : Prop := fnExactSignedOfRow.holds Try.pinned (OpenSpec.ofChange fnExactSignedOfWrong)

/-- 'laws.FnExactHexText': WHATEVER THE INPUT: true; the input reads as it did. -/
def fnExactHexTextSpec : ChangeSpec := { name := "fnExactHexText", fn := fun _ => fun
  | [d] => { results := [.lit (.bool true)], args := [d] }
  | _ => none }
def fnExactHexTextRow : OpenClaim := { program := "ytiilfpdjajacmaa", sum := "5b867a0334fd4e03a091c3cceecc9fde3a670946cb5cbab7233a2c25752266f7", func := "loop.example/objectlinker/laws.FnExactHexText", spec := "fnExactHexText", apart := false }
def FnExactHexTextSaid : Prop := fnExactHexTextRow.holds Try.pinned (OpenSpec.ofChange fnExactHexTextSpec)

/-- ITS FALSE NEIGHBOUR: 'it returns false'. Refute it at one input. -/
def fnExactHexTextWrong : ChangeSpec := { name := "fnExactHexText", fn := fun _ => fun
  | [d] => { results := [.lit (.bool false)], args := [d] }
  | _ => none }
def FnExactHexTextWrongFalsely : Prop := fnExactHexTextRow.holds Try.pinned (OpenSpec.ofChange fnExactHexTextWrong)

/-- 'laws.FnExactGetNumber': WHATEVER THE INPUT: true; the input reads as it did. -/
def fnExactGetNumberSpec : ChangeSpec := { name := "fnExactGetNumber", fn := fun _ => fun
  | [d1, d2, d3] => { results := [.lit (.bool true)], args := [d1, d2, d3] }
  | _ => none }
def fnExactGetNumberRow : OpenClaim := { program := "ytiilfpdjajacmaa", sum := "5b867a0334fd4e03a091c3cceecc9fde3a670946cb5cbab7233a2c25752266f7", func := "loop.example/objectlinker/laws.FnExactGetNumber", spec := "fnExactGetNumber", apart := false }
def FnExactGetNumberSaid : Prop := fnExactGetNumberRow.holds Try.pinned (OpenSpec.ofChange fnExactGetNumberSpec)

/-- ITS FALSE NEIGHBOUR: 'it returns false'. Refute it at one input. -/
def fnExactGetNumberWrong : ChangeSpec := { name := "fnExactGetNumber", fn := fun _ => fun
  | [d1, d2, d3] => { results := [.lit (.bool false)], args := [d1, d2, d3] }
  | _ => none }
def FnExactGetNumberWrongFalsely : Prop := fnExactGetNumberRow.holds Try.pinned (OpenSpec.ofChange fnExactGetNumberWrong)

/-- 'laws.FnAlignUp': WHATEVER THE INPUT: true; the input reads as it did. -/
def fnAlignUpSpec : ChangeSpec := { name := "fnAlignUp", fn := fun _ => fun
  | [d] => { results := [.lit (.bool true)], args := [d] }
  | _ => none }
def fnAlignUpRow : OpenClaim := { program := "ytiilfpdjajacmaa", sum := "5b867a0334fd4e03a091c3cceecc9fde3a670946cb5cbab7233a2c25752266f7", func := "loop.example/objectlinker/laws.FnAlignUp", spec := "fnAlignUp", apart := false }
def FnAlignUpSaid : Prop := fnAlignUpRow.holds Try.pinned (OpenSpec.ofChange fnAlignUpSpec)

/-- ITS FALSE NEIGHBOUR: 'it returns false'. Refute it at one input. -/
def fnAlignUpWrong : ChangeSpec := { name := "fnAlignUp", fn := fun _ => fun
  | [d] => { results := [.lit (.bool false)], args := [d] }
  | _ => none }
def FnAlignUpWrongFalsely : Prop := fnAlignUpRow.holds Try.pinned (OpenSpec.ofChange fnAlignUpWrong)

/-- 'laws.FnExactNameAt': WHATEVER THE INPUT: true; the input reads as it did. -/
def fnExactNameAtSpec : ChangeSpec := { name := "fnExactNameAt", fn := fun _ => fun
  | [d1, d2] => { results := [.lit (.bool true)], args := [d1, d2] }
  | _ => none }
def fnExactNameAtRow : OpenClaim := { program := "ytiilfpdjajacmaa", sum := "5b867a0334fd4e03a091c3cceecc9fde3a670946cb5cbab7233a2c25752266f7", func := "loop.example/objectlinker/laws.FnExactNameAt", spec := "fnExactNameAt", inPlace := ["internal/bytealg.IndexByte"], apart := false }
def FnExactNameAtSaid : Prop := fnExactNameAtRow.holds Try.pinned (OpenSpec.ofChange fnExactNameAtSpec)

/-- ITS FALSE NEIGHBOUR: 'it returns false'. Refute it at one input. -/
def fnExactNameAtWrong : ChangeSpec := { name := "fnExactNameAt", fn := fun _ => fun
  | [d1, d2] => { results := [.lit (.bool false)], args := [d1, d2] }
  | _ => none }
def FnExactNameAtWrongFalsely : Prop := fnExactNameAtRow.holds Try.pinned (OpenSpec.ofChange fnExactNameAtWrong)

/-- 'laws.FnFixupWide': WHATEVER THE INPUT: true; the input reads as it did. -/
def fnFixupWideSpec : ChangeSpec := { name := "fnFixupWide", fn := fun _ => fun
  | [d] => { results := [.lit (.bool true)], args := [d] }
  | _ => none }
def fnFixupWideRow : OpenClaim := { program := "ytiilfpdjajacmaa", sum := "5b867a0334fd4e03a091c3cceecc9fde3a670946cb5cbab7233a2c25752266f7", func := "loop.example/objectlinker/laws.FnFixupWide", spec := "fnFixupWide", apart := false }
def FnFixupWideSaid : Prop := fnFixupWideRow.holds Try.pinned (OpenSpec.ofChange fnFixupWideSpec)

/-- ITS FALSE NEIGHBOUR: 'it returns false'. Refute it at one input. -/
def fnFixupWideWrong : ChangeSpec := { name := "fnFixupWide", fn := fun _ => fun
  | [d] => { results := [.lit (.bool false)], args := [d] }
  | _ => none }
def FnFixupWideWrongFalsely : Prop := fnFixupWideRow.holds Try.pinned (OpenSpec.ofChange fnFixupWideWrong)

/-- 'laws.FnExactPutNumber': WHATEVER THE INPUT: true; the input reads as it did. -/
def fnExactPutNumberSpec : ChangeSpec := { name := "fnExactPutNumber", fn := fun _ => fun
  | [d1, d2] => { results := [.lit (.bool true)], args := [d1, d2] }
  | _ => none }
def fnExactPutNumberRow : OpenClaim := { program := "ytiilfpdjajacmaa", sum := "5b867a0334fd4e03a091c3cceecc9fde3a670946cb5cbab7233a2c25752266f7", func := "loop.example/objectlinker/laws.FnExactPutNumber", spec := "fnExactPutNumber", apart := false }
def FnExactPutNumberSaid : Prop := fnExactPutNumberRow.holds Try.pinned (OpenSpec.ofChange fnExactPutNumberSpec)

/-- ITS FALSE NEIGHBOUR: 'it returns false'. Refute it at one input. -/
def fnExactPutNumberWrong : ChangeSpec := { name := "fnExactPutNumber", fn := fun _ => fun
  | [d1, d2] => { results := [.lit (.bool false)], args := [d1, d2] }
  | _ => none }
def FnExactPutNumberWrongFalsely : Prop := fnExactPutNumberRow.holds Try.pinned (OpenSpec.ofChange fnExactPutNumberWrong)

/- THE SECOND FORM. 'bulk': how many values and letters a reading holds, each counted each time it is reached (what is shared counts as often as it is met; a slice's spare places count too). A statement '..UptoSaid' is the law's where the arguments, and the package variables that the reading takes, are together of bulk at most 1048576: NARROWER than '..Said'. Prove '..Said' where nothing that the law and all that it calls make is longer than what came in: it says more and counts as full. Else prove '..UptoSaid'. A law counts once. -/
mutual
def uptoBulk {H : Type} : DataW H → Nat
  | .lit (.string bytes) => bytes.length + 1
  | .lit _ => 1
  | .nil => 1
  | .ptr d => uptoBulk d + 1
  | .slice elems spare => uptoBulkAll elems + uptoBulkAll spare + 1
  | .agg parts => uptoBulkAll parts + 1
  | .iface _ d => uptoBulk d + 1
  | .map entries => uptoBulkEntries entries + 1
  | .held _ => 1
def uptoBulkAll {H : Type} : List (DataW H) → Nat
  | [] => 0
  | d :: r => uptoBulk d + uptoBulkAll r
def uptoBulkEntries {H : Type} : List (Lit × DataW H) → Nat
  | [] => 0
  | x :: r => uptoBulkEntry x + uptoBulkEntries r
def uptoBulkEntry {H : Type} : Lit × DataW H → Nat
  | (.string bytes, d) => bytes.length + uptoBulk d + 1
  | (_, d) => uptoBulk d + 1
 end
def uptoSmall : (H : Type) → List (DataW H) → Bool := fun _ ds => decide (uptoBulkAll ds ≤ 1048576)
def OpenSpec.upto (s : _root_.Go.ChangeSpec) : _root_.Go.OpenSpec := { _root_.Go.OpenSpec.ofChange s with cond := some uptoSmall }

/-- 'laws.FnExactConstants', WHERE WHAT IT READS IS OF BULK AT MOST 1048576: true; the input reads as it did. -/
def fnExactConstantsUptoRow : OpenClaim := { program := "ytiilfpdjajacmaa", sum := "5b867a0334fd4e03a091c3cceecc9fde3a670946cb5cbab7233a2c25752266f7", func := "loop.example/objectlinker/laws.FnExactConstants", spec := "fnExactConstants", apart := false, narrowed := true }
def FnExactConstantsUptoSaid : Prop := fnExactConstantsUptoRow.holds Try.pinned (OpenSpec.upto fnExactConstantsSpec)

/-- 'laws.FnExactHeaderValid', WHERE WHAT IT READS IS OF BULK AT MOST 1048576: true; the input reads as it did. -/
def fnExactHeaderValidUptoRow : OpenClaim := { program := "ytiilfpdjajacmaa", sum := "5b867a0334fd4e03a091c3cceecc9fde3a670946cb5cbab7233a2c25752266f7", func := "loop.example/objectlinker/laws.FnExactHeaderValid", spec := "fnExactHeaderValid", apart := false, narrowed := true }
def FnExactHeaderValidUptoSaid : Prop := fnExactHeaderValidUptoRow.holds Try.pinned (OpenSpec.upto fnExactHeaderValidSpec)

/-- 'laws.FnExactAlignUp', WHERE WHAT IT READS IS OF BULK AT MOST 1048576: true; the input reads as it did. -/
def fnExactAlignUpUptoRow : OpenClaim := { program := "ytiilfpdjajacmaa", sum := "5b867a0334fd4e03a091c3cceecc9fde3a670946cb5cbab7233a2c25752266f7", func := "loop.example/objectlinker/laws.FnExactAlignUp", spec := "fnExactAlignUp", apart := false, narrowed := true }
def FnExactAlignUpUptoSaid : Prop := fnExactAlignUpUptoRow.holds Try.pinned (OpenSpec.upto fnExactAlignUpSpec)

/-- 'laws.FnExactFixupWide', WHERE WHAT IT READS IS OF BULK AT MOST 1048576: true; the input reads as it did. -/
def fnExactFixupWideUptoRow : OpenClaim := { program := "ytiilfpdjajacmaa", sum := "5b867a0334fd4e03a091c3cceecc9fde3a670946cb5cbab7233a2c25752266f7", func := "loop.example/objectlinker/laws.FnExactFixupWide", spec := "fnExactFixupWide", apart := false, narrowed := true }
def FnExactFixupWideUptoSaid : Prop := fnExactFixupWideUptoRow.holds Try.pinned (OpenSpec.upto fnExactFixupWideSpec)

/-- 'laws.FnExactNameValid', WHERE WHAT IT READS IS OF BULK AT MOST 1048576: true; the input reads as it did. -/
def fnExactNameValidUptoRow : OpenClaim := { program := "ytiilfpdjajacmaa", sum := "5b867a0334fd4e03a091c3cceecc9fde3a670946cb5cbab7233a2c25752266f7", func := "loop.example/objectlinker/laws.FnExactNameValid", spec := "fnExactNameValid", apart := false, narrowed := true }
def FnExactNameValidUptoSaid : Prop := fnExactNameValidUptoRow.holds Try.pinned (OpenSpec.upto fnExactNameValidSpec)

/-- 'laws.FnExactSignedOf', WHERE WHAT IT READS IS OF BULK AT MOST 1048576: true; the input reads as it did. -/
def fnExactSignedOfUptoRow : OpenClaim := { program := "ytiilfpdjajacmaa", sum := "5b867a0334fd4e03a091c3cceecc9fde3a670946cb5cbab7233a2c25752266f7", func := "loop.example/objectlinker/laws.FnExactSignedOf", spec := "fnExactSignedOf", apart := false, narrowed := true }
def FnExactSignedOfUptoSaid : Prop := fnExactSignedOfUptoRow.holds Try.pinned (OpenSpec.upto fnExactSignedOfSpec)

/-- 'laws.FnExactHexText', WHERE WHAT IT READS IS OF BULK AT MOST 1048576: true; the input reads as it did. -/
def fnExactHexTextUptoRow : OpenClaim := { program := "ytiilfpdjajacmaa", sum := "5b867a0334fd4e03a091c3cceecc9fde3a670946cb5cbab7233a2c25752266f7", func := "loop.example/objectlinker/laws.FnExactHexText", spec := "fnExactHexText", apart := false, narrowed := true }
def FnExactHexTextUptoSaid : Prop := fnExactHexTextUptoRow.holds Try.pinned (OpenSpec.upto fnExactHexTextSpec)

/-- 'laws.FnExactGetNumber', WHERE WHAT IT READS IS OF BULK AT MOST 1048576: true; the input reads as it did. -/
def fnExactGetNumberUptoRow : OpenClaim := { program := "ytiilfpdjajacmaa", sum := "5b867a0334fd4e03a091c3cceecc9fde3a670946cb5cbab7233a2c25752266f7", func := "loop.example/objectlinker/laws.FnExactGetNumber", spec := "fnExactGetNumber", apart := false, narrowed := true }
def FnExactGetNumberUptoSaid : Prop := fnExactGetNumberUptoRow.holds Try.pinned (OpenSpec.upto fnExactGetNumberSpec)

/-- 'laws.FnAlignUp', WHERE WHAT IT READS IS OF BULK AT MOST 1048576: true; the input reads as it did. -/
def fnAlignUpUptoRow : OpenClaim := { program := "ytiilfpdjajacmaa", sum := "5b867a0334fd4e03a091c3cceecc9fde3a670946cb5cbab7233a2c25752266f7", func := "loop.example/objectlinker/laws.FnAlignUp", spec := "fnAlignUp", apart := false, narrowed := true }
def FnAlignUpUptoSaid : Prop := fnAlignUpUptoRow.holds Try.pinned (OpenSpec.upto fnAlignUpSpec)

/-- 'laws.FnExactNameAt', WHERE WHAT IT READS IS OF BULK AT MOST 1048576: true; the input reads as it did. -/
def fnExactNameAtUptoRow : OpenClaim := { program := "ytiilfpdjajacmaa", sum := "5b867a0334fd4e03a091c3cceecc9fde3a670946cb5cbab7233a2c25752266f7", func := "loop.example/objectlinker/laws.FnExactNameAt", spec := "fnExactNameAt", inPlace := ["internal/bytealg.IndexByte"], apart := false, narrowed := true }
def FnExactNameAtUptoSaid : Prop := fnExactNameAtUptoRow.holds Try.pinned (OpenSpec.upto fnExactNameAtSpec)

/-- 'laws.FnFixupWide', WHERE WHAT IT READS IS OF BULK AT MOST 1048576: true; the input reads as it did. -/
def fnFixupWideUptoRow : OpenClaim := { program := "ytiilfpdjajacmaa", sum := "5b867a0334fd4e03a091c3cceecc9fde3a670946cb5cbab7233a2c25752266f7", func := "loop.example/objectlinker/laws.FnFixupWide", spec := "fnFixupWide", apart := false, narrowed := true }
def FnFixupWideUptoSaid : Prop := fnFixupWideUptoRow.holds Try.pinned (OpenSpec.upto fnFixupWideSpec)

/-- 'laws.FnExactPutNumber', WHERE WHAT IT READS IS OF BULK AT MOST 1048576: true; the input reads as it did. -/
def fnExactPutNumberUptoRow : OpenClaim := { program := "ytiilfpdjajacmaa", sum := "5b867a0334fd4e03a091c3cceecc9fde3a670946cb5cbab7233a2c25752266f7", func := "loop.example/objectlinker/laws.FnExactPutNumber", spec := "fnExactPutNumber", apart := false, narrowed := true }
def FnExactPutNumberUptoSaid : Prop := fnExactPutNumberUptoRow.holds Try.pinned (OpenSpec.upto fnExactPutNumberSpec)

end Rows
end Go.Proofs.Ytiilfpdjajacmaa
