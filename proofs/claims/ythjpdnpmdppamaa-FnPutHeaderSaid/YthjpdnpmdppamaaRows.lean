/-
  No cell of these rows narrows 'for every input' (looked for: loops, veiled, ifaces, maps, wideKeys, modest, calm, conditions, laid).
  DERIVED. THE GIVEN ROWS OF THIS SEAT. 22 by the template 'for every input the law returns true; each argument reads behind the call as it read before'; 0 by the template 'total and deterministic' (their statements: YthjpdnpmdppamaaTotals.lean).
  GIVEN WITH THE SEED: the statements are not yours to turn. If you find one false, say at which input.
  Laid BY PROGRAM, IN A SANDBOX (cutbox-rows.mjs): the forced cells as the released guide's own fill.sh prints them over the translation f00b19f6954b188d… (all of the seat's roots in one cut). By AI agents, Wed Nov 11 2026. No macro, syntax, notation, axiom, sorry.
-/
import Derived.Test.YthjpdnpmdppamaaChecked
import GoSem.Claim
import GoSem.ClaimJoined
import GoSem.ClaimMapViews
import Derived.JoinedTies
import Derived.KernelRfl
namespace Go.Proofs.Ythjpdnpmdppamaa
/- THE CELL 'sum', in the pinned program and in every row, IS THE sha256 OF THE DUMP (.gsa) THAT YthjpdnpmdppamaaProg.lean LOADS. Nothing in Lean hashes anything: it is a label: what it is worth is what the hold of that sum in a sandbox is worth. -/
noncomputable def Try.pinned : Pinned := { name := "ythjpdnpmdppamaa", sum := "f00b19f6954b188d8cd36626403858d85d2112875e8f40e2a6484929afb66aca", checked := Try.checked }
namespace Rows
def none {H : Type} : Left H := { results := [], args := [] }

/-- 'laws.FnExactPlaceOf': WHATEVER THE INPUT: true; the input reads as it did. -/
def fnExactPlaceOfSpec : ChangeSpec := { name := "fnExactPlaceOf", fn := fun _ => fun
  | [d1, d2] => { results := [.lit (.bool true)], args := [d1, d2] }
  | _ => none }
def fnExactPlaceOfRow : OpenClaim := { program := "ythjpdnpmdppamaa", sum := "f00b19f6954b188d8cd36626403858d85d2112875e8f40e2a6484929afb66aca", func := "loop.example/objectlinker/laws.FnExactPlaceOf", spec := "fnExactPlaceOf", inPlace := ["internal/bytealg.IndexByte"], apart := false }
def FnExactPlaceOfSaid : Prop := fnExactPlaceOfRow.holds Try.pinned (OpenSpec.ofChange fnExactPlaceOfSpec)

/-- ITS FALSE NEIGHBOUR: 'it returns false'. Refute it at one input. -/
def fnExactPlaceOfWrong : ChangeSpec := { name := "fnExactPlaceOf", fn := fun _ => fun
  | [d1, d2] => { results := [.lit (.bool false)], args := [d1, d2] }
  | _ => none }
def FnExactPlaceOfWrongFalsely : Prop := fnExactPlaceOfRow.holds Try.pinned (OpenSpec.ofChange fnExactPlaceOfWrong)

/-- 'laws.FnHeaderValid': WHATEVER THE INPUT: true; the input reads as it did. -/
def fnHeaderValidSpec : ChangeSpec := { name := "fnHeaderValid", fn := fun _ => fun
  | [d] => { results := [.lit (.bool true)], args := [d] }
  | _ => none }
def fnHeaderValidRow : OpenClaim := { program := "ythjpdnpmdppamaa", sum := "f00b19f6954b188d8cd36626403858d85d2112875e8f40e2a6484929afb66aca", func := "loop.example/objectlinker/laws.FnHeaderValid", spec := "fnHeaderValid", apart := false }
def FnHeaderValidSaid : Prop := fnHeaderValidRow.holds Try.pinned (OpenSpec.ofChange fnHeaderValidSpec)

/-- ITS FALSE NEIGHBOUR: 'it returns false'. Refute it at one input. -/
def fnHeaderValidWrong : ChangeSpec := { name := "fnHeaderValid", fn := fun _ => fun
  | [d] => { results := [.lit (.bool false)], args := [d] }
  | _ => none }
def FnHeaderValidWrongFalsely : Prop := fnHeaderValidRow.holds Try.pinned (OpenSpec.ofChange fnHeaderValidWrong)

/-- 'laws.FnNameValid': WHATEVER THE INPUT: true; the input reads as it did. -/
def fnNameValidSpec : ChangeSpec := { name := "fnNameValid", fn := fun _ => fun
  | [d] => { results := [.lit (.bool true)], args := [d] }
  | _ => none }
def fnNameValidRow : OpenClaim := { program := "ythjpdnpmdppamaa", sum := "f00b19f6954b188d8cd36626403858d85d2112875e8f40e2a6484929afb66aca", func := "loop.example/objectlinker/laws.FnNameValid", spec := "fnNameValid", apart := false }
def FnNameValidSaid : Prop := fnNameValidRow.holds Try.pinned (OpenSpec.ofChange fnNameValidSpec)

/-- ITS FALSE NEIGHBOUR: 'it returns false'. Refute it at one input. -/
def fnNameValidWrong : ChangeSpec := { name := "fnNameValid", fn := fun _ => fun
  | [d] => { results := [.lit (.bool false)], args := [d] }
  | _ => none }
def FnNameValidWrongFalsely : Prop := fnNameValidRow.holds Try.pinned (OpenSpec.ofChange fnNameValidWrong)

/-- 'laws.FnNumberJoin': WHATEVER THE INPUT: true; the input reads as it did. -/
def fnNumberJoinSpec : ChangeSpec := { name := "fnNumberJoin", fn := fun _ => fun
  | [d] => { results := [.lit (.bool true)], args := [d] }
  | _ => none }
def fnNumberJoinRow : OpenClaim := { program := "ythjpdnpmdppamaa", sum := "f00b19f6954b188d8cd36626403858d85d2112875e8f40e2a6484929afb66aca", func := "loop.example/objectlinker/laws.FnNumberJoin", spec := "fnNumberJoin", apart := false }
def FnNumberJoinSaid : Prop := fnNumberJoinRow.holds Try.pinned (OpenSpec.ofChange fnNumberJoinSpec)

/-- ITS FALSE NEIGHBOUR: 'it returns false'. Refute it at one input. -/
def fnNumberJoinWrong : ChangeSpec := { name := "fnNumberJoin", fn := fun _ => fun
  | [d] => { results := [.lit (.bool false)], args := [d] }
  | _ => none }
def FnNumberJoinWrongFalsely : Prop := fnNumberJoinRow.holds Try.pinned (OpenSpec.ofChange fnNumberJoinWrong)

/-- 'laws.FnExactReadHex': WHATEVER THE INPUT: true; the input reads as it did. -/
def fnExactReadHexSpec : ChangeSpec := { name := "fnExactReadHex", fn := fun _ => fun
  | [d] => { results := [.lit (.bool true)], args := [d] }
  | _ => none }
def fnExactReadHexRow : OpenClaim := { program := "ythjpdnpmdppamaa", sum := "f00b19f6954b188d8cd36626403858d85d2112875e8f40e2a6484929afb66aca", func := "loop.example/objectlinker/laws.FnExactReadHex", spec := "fnExactReadHex", inPlace := ["internal/bytealg.IndexByteString"], apart := false }
def FnExactReadHexSaid : Prop := fnExactReadHexRow.holds Try.pinned (OpenSpec.ofChange fnExactReadHexSpec)

/-- ITS FALSE NEIGHBOUR: 'it returns false'. Refute it at one input. -/
def fnExactReadHexWrong : ChangeSpec := { name := "fnExactReadHex", fn := fun _ => fun
  | [d] => { results := [.lit (.bool false)], args := [d] }
  | _ => none }
def FnExactReadHexWrongFalsely : Prop := fnExactReadHexRow.holds Try.pinned (OpenSpec.ofChange fnExactReadHexWrong)

/-- 'laws.FnSignedOf': WHATEVER THE INPUT: true; the input reads as it did. -/
def fnSignedOfSpec : ChangeSpec := { name := "fnSignedOf", fn := fun _ => fun
  | [d] => { results := [.lit (.bool true)], args := [d] }
  | _ => none }
def fnSignedOfRow : OpenClaim := { program := "ythjpdnpmdppamaa", sum := "f00b19f6954b188d8cd36626403858d85d2112875e8f40e2a6484929afb66aca", func := "loop.example/objectlinker/laws.FnSignedOf", spec := "fnSignedOf", apart := false }
def FnSignedOfSaid : Prop := fnSignedOfRow.holds Try.pinned (OpenSpec.ofChange fnSignedOfSpec)

/-- ITS FALSE NEIGHBOUR: 'it returns false'. Refute it at one input. -/
def fnSignedOfWrong : ChangeSpec := { name := "fnSignedOf", fn := fun _ => fun
  | [d] => { results := [.lit (.bool false)], args := [d] }
  | _ => none }
def FnSignedOfWrongFalsely : Prop := fnSignedOfRow.holds Try.pinned (OpenSpec.ofChange fnSignedOfWrong)

/-- 'laws.FnHexText': WHATEVER THE INPUT: true; the input reads as it did. -/
def fnHexTextSpec : ChangeSpec := { name := "fnHexText", fn := fun _ => fun
  | [d] => { results := [.lit (.bool true)], args := [d] }
  | _ => none }
def fnHexTextRow : OpenClaim := { program := "ythjpdnpmdppamaa", sum := "f00b19f6954b188d8cd36626403858d85d2112875e8f40e2a6484929afb66aca", func := "loop.example/objectlinker/laws.FnHexText", spec := "fnHexText", inPlace := ["internal/bytealg.IndexByteString"], apart := false }
def FnHexTextSaid : Prop := fnHexTextRow.holds Try.pinned (OpenSpec.ofChange fnHexTextSpec)

/-- ITS FALSE NEIGHBOUR: 'it returns false'. Refute it at one input. -/
def fnHexTextWrong : ChangeSpec := { name := "fnHexText", fn := fun _ => fun
  | [d] => { results := [.lit (.bool false)], args := [d] }
  | _ => none }
def FnHexTextWrongFalsely : Prop := fnHexTextRow.holds Try.pinned (OpenSpec.ofChange fnHexTextWrong)

/-- 'laws.FnGetNumber': WHATEVER THE INPUT: true; the input reads as it did. -/
def fnGetNumberSpec : ChangeSpec := { name := "fnGetNumber", fn := fun _ => fun
  | [d] => { results := [.lit (.bool true)], args := [d] }
  | _ => none }
def fnGetNumberRow : OpenClaim := { program := "ythjpdnpmdppamaa", sum := "f00b19f6954b188d8cd36626403858d85d2112875e8f40e2a6484929afb66aca", func := "loop.example/objectlinker/laws.FnGetNumber", spec := "fnGetNumber", apart := false }
def FnGetNumberSaid : Prop := fnGetNumberRow.holds Try.pinned (OpenSpec.ofChange fnGetNumberSpec)

/-- ITS FALSE NEIGHBOUR: 'it returns false'. Refute it at one input. -/
def fnGetNumberWrong : ChangeSpec := { name := "fnGetNumber", fn := fun _ => fun
  | [d] => { results := [.lit (.bool false)], args := [d] }
  | _ => none }
def FnGetNumberWrongFalsely : Prop := fnGetNumberRow.holds Try.pinned (OpenSpec.ofChange fnGetNumberWrong)

/-- 'laws.FnExactPutHeader': WHATEVER THE INPUT: true; the input reads as it did. -/
def fnExactPutHeaderSpec : ChangeSpec := { name := "fnExactPutHeader", fn := fun _ => fun
  | [d] => { results := [.lit (.bool true)], args := [d] }
  | _ => none }
def fnExactPutHeaderRow : OpenClaim := { program := "ythjpdnpmdppamaa", sum := "f00b19f6954b188d8cd36626403858d85d2112875e8f40e2a6484929afb66aca", func := "loop.example/objectlinker/laws.FnExactPutHeader", spec := "fnExactPutHeader", apart := false }
def FnExactPutHeaderSaid : Prop := fnExactPutHeaderRow.holds Try.pinned (OpenSpec.ofChange fnExactPutHeaderSpec)

/-- ITS FALSE NEIGHBOUR: 'it returns false'. Refute it at one input. -/
def fnExactPutHeaderWrong : ChangeSpec := { name := "fnExactPutHeader", fn := fun _ => fun
  | [d] => { results := [.lit (.bool false)], args := [d] }
  | _ => none }
def FnExactPutHeaderWrongFalsely : Prop := fnExactPutHeaderRow.holds Try.pinned (OpenSpec.ofChange fnExactPutHeaderWrong)

/-- 'laws.FnPutNumber': WHATEVER THE INPUT: true; the input reads as it did. -/
def fnPutNumberSpec : ChangeSpec := { name := "fnPutNumber", fn := fun _ => fun
  | [d] => { results := [.lit (.bool true)], args := [d] }
  | _ => none }
def fnPutNumberRow : OpenClaim := { program := "ythjpdnpmdppamaa", sum := "f00b19f6954b188d8cd36626403858d85d2112875e8f40e2a6484929afb66aca", func := "loop.example/objectlinker/laws.FnPutNumber", spec := "fnPutNumber", apart := false }
def FnPutNumberSaid : Prop := fnPutNumberRow.holds Try.pinned (OpenSpec.ofChange fnPutNumberSpec)

/-- ITS FALSE NEIGHBOUR: 'it returns false'. Refute it at one input. -/
def fnPutNumberWrong : ChangeSpec := { name := "fnPutNumber", fn := fun _ => fun
  | [d] => { results := [.lit (.bool false)], args := [d] }
  | _ => none }
def FnPutNumberWrongFalsely : Prop := fnPutNumberRow.holds Try.pinned (OpenSpec.ofChange fnPutNumberWrong)

/-- 'laws.FnSectionSize': WHATEVER THE INPUT: true; the input reads as it did. -/
def fnSectionSizeSpec : ChangeSpec := { name := "fnSectionSize", fn := fun _ => fun
  | [d] => { results := [.lit (.bool true)], args := [d] }
  | _ => none }
def fnSectionSizeRow : OpenClaim := { program := "ythjpdnpmdppamaa", sum := "f00b19f6954b188d8cd36626403858d85d2112875e8f40e2a6484929afb66aca", func := "loop.example/objectlinker/laws.FnSectionSize", spec := "fnSectionSize", apart := false }
def FnSectionSizeSaid : Prop := fnSectionSizeRow.holds Try.pinned (OpenSpec.ofChange fnSectionSizeSpec)

/-- ITS FALSE NEIGHBOUR: 'it returns false'. Refute it at one input. -/
def fnSectionSizeWrong : ChangeSpec := { name := "fnSectionSize", fn := fun _ => fun
  | [d] => { results := [.lit (.bool false)], args := [d] }
  | _ => none }
def FnSectionSizeWrongFalsely : Prop := fnSectionSizeRow.holds Try.pinned (OpenSpec.ofChange fnSectionSizeWrong)

/-- 'laws.FnReadHex': WHATEVER THE INPUT: true; the input reads as it did. -/
def fnReadHexSpec : ChangeSpec := { name := "fnReadHex", fn := fun _ => fun
  | [d] => { results := [.lit (.bool true)], args := [d] }
  | _ => none }
def fnReadHexRow : OpenClaim := { program := "ythjpdnpmdppamaa", sum := "f00b19f6954b188d8cd36626403858d85d2112875e8f40e2a6484929afb66aca", func := "loop.example/objectlinker/laws.FnReadHex", spec := "fnReadHex", inPlace := ["internal/bytealg.IndexByteString"], apart := false }
def FnReadHexSaid : Prop := fnReadHexRow.holds Try.pinned (OpenSpec.ofChange fnReadHexSpec)

/-- ITS FALSE NEIGHBOUR: 'it returns false'. Refute it at one input. -/
def fnReadHexWrong : ChangeSpec := { name := "fnReadHex", fn := fun _ => fun
  | [d] => { results := [.lit (.bool false)], args := [d] }
  | _ => none }
def FnReadHexWrongFalsely : Prop := fnReadHexRow.holds Try.pinned (OpenSpec.ofChange fnReadHexWrong)

/-- 'laws.FnNameAt': WHATEVER THE INPUT: true; the input reads as it did. -/
def fnNameAtSpec : ChangeSpec := { name := "fnNameAt", fn := fun _ => fun
  | [d] => { results := [.lit (.bool true)], args := [d] }
  | _ => none }
def fnNameAtRow : OpenClaim := { program := "ythjpdnpmdppamaa", sum := "f00b19f6954b188d8cd36626403858d85d2112875e8f40e2a6484929afb66aca", func := "loop.example/objectlinker/laws.FnNameAt", spec := "fnNameAt", inPlace := ["internal/bytealg.IndexByte"], apart := false }
def FnNameAtSaid : Prop := fnNameAtRow.holds Try.pinned (OpenSpec.ofChange fnNameAtSpec)

/-- ITS FALSE NEIGHBOUR: 'it returns false'. Refute it at one input. -/
def fnNameAtWrong : ChangeSpec := { name := "fnNameAt", fn := fun _ => fun
  | [d] => { results := [.lit (.bool false)], args := [d] }
  | _ => none }
def FnNameAtWrongFalsely : Prop := fnNameAtRow.holds Try.pinned (OpenSpec.ofChange fnNameAtWrong)

/-- 'laws.FnExactSectionSize': WHATEVER THE INPUT: true; the input reads as it did. -/
def fnExactSectionSizeSpec : ChangeSpec := { name := "fnExactSectionSize", fn := fun _ => fun
  | [d] => { results := [.lit (.bool true)], args := [d] }
  | _ => none }
def fnExactSectionSizeRow : OpenClaim := { program := "ythjpdnpmdppamaa", sum := "f00b19f6954b188d8cd36626403858d85d2112875e8f40e2a6484929afb66aca", func := "loop.example/objectlinker/laws.FnExactSectionSize", spec := "fnExactSectionSize", apart := false }
def FnExactSectionSizeSaid : Prop := fnExactSectionSizeRow.holds Try.pinned (OpenSpec.ofChange fnExactSectionSizeSpec)

/-- ITS FALSE NEIGHBOUR: 'it returns false'. Refute it at one input. -/
def fnExactSectionSizeWrong : ChangeSpec := { name := "fnExactSectionSize", fn := fun _ => fun
  | [d] => { results := [.lit (.bool false)], args := [d] }
  | _ => none }
def FnExactSectionSizeWrongFalsely : Prop := fnExactSectionSizeRow.holds Try.pinned (OpenSpec.ofChange fnExactSectionSizeWrong)

/-- 'laws.FnExactGetHeader': WHATEVER THE INPUT: true; the input reads as it did. -/
def fnExactGetHeaderSpec : ChangeSpec := { name := "fnExactGetHeader", fn := fun _ => fun
  | [d] => { results := [.lit (.bool true)], args := [d] }
  | _ => none }
def fnExactGetHeaderRow : OpenClaim := { program := "ythjpdnpmdppamaa", sum := "f00b19f6954b188d8cd36626403858d85d2112875e8f40e2a6484929afb66aca", func := "loop.example/objectlinker/laws.FnExactGetHeader", spec := "fnExactGetHeader", apart := false }
def FnExactGetHeaderSaid : Prop := fnExactGetHeaderRow.holds Try.pinned (OpenSpec.ofChange fnExactGetHeaderSpec)

/-- ITS FALSE NEIGHBOUR: 'it returns false'. Refute it at one input. -/
def fnExactGetHeaderWrong : ChangeSpec := { name := "fnExactGetHeader", fn := fun _ => fun
  | [d] => { results := [.lit (.bool false)], args := [d] }
  | _ => none }
def FnExactGetHeaderWrongFalsely : Prop := fnExactGetHeaderRow.holds Try.pinned (OpenSpec.ofChange fnExactGetHeaderWrong)

/-- 'laws.FnPlaceOf': WHATEVER THE INPUT: true; the input reads as it did. -/
def fnPlaceOfSpec : ChangeSpec := { name := "fnPlaceOf", fn := fun _ => fun
  | [d] => { results := [.lit (.bool true)], args := [d] }
  | _ => none }
def fnPlaceOfRow : OpenClaim := { program := "ythjpdnpmdppamaa", sum := "f00b19f6954b188d8cd36626403858d85d2112875e8f40e2a6484929afb66aca", func := "loop.example/objectlinker/laws.FnPlaceOf", spec := "fnPlaceOf", inPlace := ["internal/bytealg.IndexByte"], apart := false }
def FnPlaceOfSaid : Prop := fnPlaceOfRow.holds Try.pinned (OpenSpec.ofChange fnPlaceOfSpec)

/-- ITS FALSE NEIGHBOUR: 'it returns false'. Refute it at one input. -/
def fnPlaceOfWrong : ChangeSpec := { name := "fnPlaceOf", fn := fun _ => fun
  | [d] => { results := [.lit (.bool false)], args := [d] }
  | _ => none }
def FnPlaceOfWrongFalsely : Prop := fnPlaceOfRow.holds Try.pinned (OpenSpec.ofChange fnPlaceOfWrong)

/-- 'laws.FnPutHeader': WHATEVER THE INPUT: true; the input reads as it did. -/
def fnPutHeaderSpec : ChangeSpec := { name := "fnPutHeader", fn := fun _ => fun
  | [d] => { results := [.lit (.bool true)], args := [d] }
  | _ => none }
def fnPutHeaderRow : OpenClaim := { program := "ythjpdnpmdppamaa", sum := "f00b19f6954b188d8cd36626403858d85d2112875e8f40e2a6484929afb66aca", func := "loop.example/objectlinker/laws.FnPutHeader", spec := "fnPutHeader", apart := false }
def FnPutHeaderSaid : Prop := fnPutHeaderRow.holds Try.pinned (OpenSpec.ofChange fnPutHeaderSpec)

/-- ITS FALSE NEIGHBOUR: 'it returns false'. Refute it at one input. -/
def fnPutHeaderWrong : ChangeSpec := { name := "fnPutHeader", fn := fun _ => fun
  | [d] => { results := [.lit (.bool false)], args := [d] }
  | _ => none }
def FnPutHeaderWrongFalsely : Prop := fnPutHeaderRow.holds Try.pinned (OpenSpec.ofChange fnPutHeaderWrong)

/-- 'laws.FnSectionValid': WHATEVER THE INPUT: true; the input reads as it did. -/
def fnSectionValidSpec : ChangeSpec := { name := "fnSectionValid", fn := fun _ => fun
  | [d] => { results := [.lit (.bool true)], args := [d] }
  | _ => none }
def fnSectionValidRow : OpenClaim := { program := "ythjpdnpmdppamaa", sum := "f00b19f6954b188d8cd36626403858d85d2112875e8f40e2a6484929afb66aca", func := "loop.example/objectlinker/laws.FnSectionValid", spec := "fnSectionValid", apart := false }
def FnSectionValidSaid : Prop := fnSectionValidRow.holds Try.pinned (OpenSpec.ofChange fnSectionValidSpec)

/-- ITS FALSE NEIGHBOUR: 'it returns false'. Refute it at one input. -/
def fnSectionValidWrong : ChangeSpec := { name := "fnSectionValid", fn := fun _ => fun
  | [d] => { results := [.lit (.bool false)], args := [d] }
  | _ => none }
def FnSectionValidWrongFalsely : Prop := fnSectionValidRow.holds Try.pinned (OpenSpec.ofChange fnSectionValidWrong)

/-- 'laws.FnSymbolValid': WHATEVER THE INPUT: true; the input reads as it did. -/
def fnSymbolValidSpec : ChangeSpec := { name := "fnSymbolValid", fn := fun _ => fun
  | [d] => { results := [.lit (.bool true)], args := [d] }
  | _ => none }
def fnSymbolValidRow : OpenClaim := { program := "ythjpdnpmdppamaa", sum := "f00b19f6954b188d8cd36626403858d85d2112875e8f40e2a6484929afb66aca", func := "loop.example/objectlinker/laws.FnSymbolValid", spec := "fnSymbolValid", apart := false }
def FnSymbolValidSaid : Prop := fnSymbolValidRow.holds Try.pinned (OpenSpec.ofChange fnSymbolValidSpec)

/-- ITS FALSE NEIGHBOUR: 'it returns false'. Refute it at one input. -/
def fnSymbolValidWrong : ChangeSpec := { name := "fnSymbolValid", fn := fun _ => fun
  | [d] => { results := [.lit (.bool false)], args := [d] }
  | _ => none }
def FnSymbolValidWrongFalsely : Prop := fnSymbolValidRow.holds Try.pinned (OpenSpec.ofChange fnSymbolValidWrong)

/-- 'laws.FnGetHeader': WHATEVER THE INPUT: true; the input reads as it did. -/
def fnGetHeaderSpec : ChangeSpec := { name := "fnGetHeader", fn := fun _ => fun
  | [d] => { results := [.lit (.bool true)], args := [d] }
  | _ => none }
def fnGetHeaderRow : OpenClaim := { program := "ythjpdnpmdppamaa", sum := "f00b19f6954b188d8cd36626403858d85d2112875e8f40e2a6484929afb66aca", func := "loop.example/objectlinker/laws.FnGetHeader", spec := "fnGetHeader", apart := false }
def FnGetHeaderSaid : Prop := fnGetHeaderRow.holds Try.pinned (OpenSpec.ofChange fnGetHeaderSpec)

/-- ITS FALSE NEIGHBOUR: 'it returns false'. Refute it at one input. -/
def fnGetHeaderWrong : ChangeSpec := { name := "fnGetHeader", fn := fun _ => fun
  | [d] => { results := [.lit (.bool false)], args := [d] }
  | _ => none }
def FnGetHeaderWrongFalsely : Prop := fnGetHeaderRow.holds Try.pinned (OpenSpec.ofChange fnGetHeaderWrong)

/-- 'laws.FnExactSectionValid': WHATEVER THE INPUT: true; the input reads as it did. -/
def fnExactSectionValidSpec : ChangeSpec := { name := "fnExactSectionValid", fn := fun _ => fun
  | [d1, d2] => { results := [.lit (.bool true)], args := [d1, d2] }
  | _ => none }
def fnExactSectionValidRow : OpenClaim := { program := "ythjpdnpmdppamaa", sum := "f00b19f6954b188d8cd36626403858d85d2112875e8f40e2a6484929afb66aca", func := "loop.example/objectlinker/laws.FnExactSectionValid", spec := "fnExactSectionValid", apart := false }
def FnExactSectionValidSaid : Prop := fnExactSectionValidRow.holds Try.pinned (OpenSpec.ofChange fnExactSectionValidSpec)

/-- ITS FALSE NEIGHBOUR: 'it returns false'. Refute it at one input. -/
def fnExactSectionValidWrong : ChangeSpec := { name := "fnExactSectionValid", fn := fun _ => fun
  | [d1, d2] => { results := [.lit (.bool false)], args := [d1, d2] }
  | _ => none }
def FnExactSectionValidWrongFalsely : Prop := fnExactSectionValidRow.holds Try.pinned (OpenSpec.ofChange fnExactSectionValidWrong)

/-- 'laws.FnExactSymbolValid': WHATEVER THE INPUT: true; the input reads as it did. -/
def fnExactSymbolValidSpec : ChangeSpec := { name := "fnExactSymbolValid", fn := fun _ => fun
  | [d1, d2] => { results := [.lit (.bool true)], args := [d1, d2] }
  | _ => none }
def fnExactSymbolValidRow : OpenClaim := { program := "ythjpdnpmdppamaa", sum := "f00b19f6954b188d8cd36626403858d85d2112875e8f40e2a6484929afb66aca", func := "loop.example/objectlinker/laws.FnExactSymbolValid", spec := "fnExactSymbolValid", apart := false }
def FnExactSymbolValidSaid : Prop := fnExactSymbolValidRow.holds Try.pinned (OpenSpec.ofChange fnExactSymbolValidSpec)

/-- ITS FALSE NEIGHBOUR: 'it returns false'. Refute it at one input. -/
def fnExactSymbolValidWrong : ChangeSpec := { name := "fnExactSymbolValid", fn := fun _ => fun
  | [d1, d2] => { results := [.lit (.bool false)], args := [d1, d2] }
  | _ => none }
def FnExactSymbolValidWrongFalsely : Prop := fnExactSymbolValidRow.holds Try.pinned (OpenSpec.ofChange fnExactSymbolValidWrong)

/- THE SECOND FORM. 'bulk': how many values and letters a reading holds, each counted each time it is reached (what is shared counts as often as it is met; a slice's spare places count too). A statement '..UptoSaid' is the law's where the arguments, and the package variables that the reading takes, are together of bulk at most 1048576: NARROWER than '..Said'. Prove '..Said' where nothing that the law and all that it calls make is longer than what came in: it says more and counts as full. Else prove '..UptoSaid'. A law counts once. -/
mutual
def uptoBulk {H : Type} : DataW H → Nat
  | .lit (.string bytes) => bytes.length + 1
  | .lit _ => 1
  | .nil => 1
  | .ptr d => uptoBulk d + 1
  | .slice elems spare => uptoBulkAll elems + uptoBulkAll spare + 1
  | .agg parts => uptoBulkAll parts + 1
  | .iface _ d => uptoBulk d + 1
  | .map entries => uptoBulkEntries entries + 1
  | .held _ => 1
def uptoBulkAll {H : Type} : List (DataW H) → Nat
  | [] => 0
  | d :: r => uptoBulk d + uptoBulkAll r
def uptoBulkEntries {H : Type} : List (Lit × DataW H) → Nat
  | [] => 0
  | x :: r => uptoBulkEntry x + uptoBulkEntries r
def uptoBulkEntry {H : Type} : Lit × DataW H → Nat
  | (.string bytes, d) => bytes.length + uptoBulk d + 1
  | (_, d) => uptoBulk d + 1
 end
def uptoSmall : (H : Type) → List (DataW H) → Bool := fun _ ds => decide (uptoBulkAll ds ≤ 1048576)
def OpenSpec.upto (s : _root_.Go.ChangeSpec) : _root_.Go.OpenSpec := { _root_.Go.OpenSpec.ofChange s with cond := some uptoSmall }

/-- 'laws.FnExactPlaceOf', WHERE WHAT IT READS IS OF BULK AT MOST 1048576: true; the input reads as it did. -/
def fnExactPlaceOfUptoRow : OpenClaim := { program := "ythjpdnpmdppamaa", sum := "f00b19f6954b188d8cd36626403858d85d2112875e8f40e2a6484929afb66aca", func := "loop.example/objectlinker/laws.FnExactPlaceOf", spec := "fnExactPlaceOf", inPlace := ["internal/bytealg.IndexByte"], apart := false, narrowed := true }
def FnExactPlaceOfUptoSaid : Prop := fnExactPlaceOfUptoRow.holds Try.pinned (OpenSpec.upto fnExactPlaceOfSpec)

/-- 'laws.FnHeaderValid', WHERE WHAT IT READS IS OF BULK AT MOST 1048576: true; the input reads as it did. -/
def fnHeaderValidUptoRow : OpenClaim := { program := "ythjpdnpmdppamaa", sum := "f00b19f6954b188d8cd36626403858d85d2112875e8f40e2a6484929afb66aca", func := "loop.example/objectlinker/laws.FnHeaderValid", spec := "fnHeaderValid", apart := false, narrowed := true }
def FnHeaderValidUptoSaid : Prop := fnHeaderValidUptoRow.holds Try.pinned (OpenSpec.upto fnHeaderValidSpec)

/-- 'laws.FnNameValid', WHERE WHAT IT READS IS OF BULK AT MOST 1048576: true; the input reads as it did. -/
def fnNameValidUptoRow : OpenClaim := { program := "ythjpdnpmdppamaa", sum := "f00b19f6954b188d8cd36626403858d85d2112875e8f40e2a6484929afb66aca", func := "loop.example/objectlinker/laws.FnNameValid", spec := "fnNameValid", apart := false, narrowed := true }
def FnNameValidUptoSaid : Prop := fnNameValidUptoRow.holds Try.pinned (OpenSpec.upto fnNameValidSpec)

/-- 'laws.FnNumberJoin', WHERE WHAT IT READS IS OF BULK AT MOST 1048576: true; the input reads as it did. -/
def fnNumberJoinUptoRow : OpenClaim := { program := "ythjpdnpmdppamaa", sum := "f00b19f6954b188d8cd36626403858d85d2112875e8f40e2a6484929afb66aca", func := "loop.example/objectlinker/laws.FnNumberJoin", spec := "fnNumberJoin", apart := false, narrowed := true }
def FnNumberJoinUptoSaid : Prop := fnNumberJoinUptoRow.holds Try.pinned (OpenSpec.upto fnNumberJoinSpec)

/-- 'laws.FnExactReadHex', WHERE WHAT IT READS IS OF BULK AT MOST 1048576: true; the input reads as it did. -/
def fnExactReadHexUptoRow : OpenClaim := { program := "ythjpdnpmdppamaa", sum := "f00b19f6954b188d8cd36626403858d85d2112875e8f40e2a6484929afb66aca", func := "loop.example/objectlinker/laws.FnExactReadHex", spec := "fnExactReadHex", inPlace := ["internal/bytealg.IndexByteString"], apart := false, narrowed := true }
def FnExactReadHexUptoSaid : Prop := fnExactReadHexUptoRow.holds Try.pinned (OpenSpec.upto fnExactReadHexSpec)

/-- 'laws.FnSignedOf', WHERE WHAT IT READS IS OF BULK AT MOST 1048576: true; the input reads as it did. -/
def fnSignedOfUptoRow : OpenClaim := { program := "ythjpdnpmdppamaa", sum := "f00b19f6954b188d8cd36626403858d85d2112875e8f40e2a6484929afb66aca", func := "loop.example/objectlinker/laws.FnSignedOf", spec := "fnSignedOf", apart := false, narrowed := true }
def FnSignedOfUptoSaid : Prop := fnSignedOfUptoRow.holds Try.pinned (OpenSpec.upto fnSignedOfSpec)

/-- 'laws.FnHexText', WHERE WHAT IT READS IS OF BULK AT MOST 1048576: true; the input reads as it did. -/
def fnHexTextUptoRow : OpenClaim := { program := "ythjpdnpmdppamaa", sum := "f00b19f6954b188d8cd36626403858d85d2112875e8f40e2a6484929afb66aca", func := "loop.example/objectlinker/laws.FnHexText", spec := "fnHexText", inPlace := ["internal/bytealg.IndexByteString"], apart := false, narrowed := true }
def FnHexTextUptoSaid : Prop := fnHexTextUptoRow.holds Try.pinned (OpenSpec.upto fnHexTextSpec)

/-- 'laws.FnGetNumber', WHERE WHAT IT READS IS OF BULK AT MOST 1048576: true; the input reads as it did. -/
def fnGetNumberUptoRow : OpenClaim := { program := "ythjpdnpmdppamaa", sum := "f00b19f6954b188d8cd36626403858d85d2112875e8f40e2a6484929afb66aca", func := "loop.example/objectlinker/laws.FnGetNumber", spec := "fnGetNumber", apart := false, narrowed := true }
def FnGetNumberUptoSaid : Prop := fnGetNumberUptoRow.holds Try.pinned (OpenSpec.upto fnGetNumberSpec)

/-- 'laws.FnExactPutHeader', WHERE WHAT IT READS IS OF BULK AT MOST 1048576: true; the input reads as it did. -/
def fnExactPutHeaderUptoRow : OpenClaim := { program := "ythjpdnpmdppamaa", sum := "f00b19f6954b188d8cd36626403858d85d2112875e8f40e2a6484929afb66aca", func := "loop.example/objectlinker/laws.FnExactPutHeader", spec := "fnExactPutHeader", apart := false, narrowed := true }
def FnExactPutHeaderUptoSaid : Prop := fnExactPutHeaderUptoRow.holds Try.pinned (OpenSpec.upto fnExactPutHeaderSpec)

/-- 'laws.FnPutNumber', WHERE WHAT IT READS IS OF BULK AT MOST 1048576: true; the input reads as it did. -/
def fnPutNumberUptoRow : OpenClaim := { program := "ythjpdnpmdppamaa", sum := "f00b19f6954b188d8cd36626403858d85d2112875e8f40e2a6484929afb66aca", func := "loop.example/objectlinker/laws.FnPutNumber", spec := "fnPutNumber", apart := false, narrowed := true }
def FnPutNumberUptoSaid : Prop := fnPutNumberUptoRow.holds Try.pinned (OpenSpec.upto fnPutNumberSpec)

/-- 'laws.FnSectionSize', WHERE WHAT IT READS IS OF BULK AT MOST 1048576: true; the input reads as it did. -/
def fnSectionSizeUptoRow : OpenClaim := { program := "ythjpdnpmdppamaa", sum := "f00b19f6954b188d8cd36626403858d85d2112875e8f40e2a6484929afb66aca", func := "loop.example/objectlinker/laws.FnSectionSize", spec := "fnSectionSize", apart := false, narrowed := true }
def FnSectionSizeUptoSaid : Prop := fnSectionSizeUptoRow.holds Try.pinned (OpenSpec.upto fnSectionSizeSpec)

/-- 'laws.FnReadHex', WHERE WHAT IT READS IS OF BULK AT MOST 1048576: true; the input reads as it did. -/
def fnReadHexUptoRow : OpenClaim := { program := "ythjpdnpmdppamaa", sum := "f00b19f6954b188d8cd36626403858d85d2112875e8f40e2a6484929afb66aca", func := "loop.example/objectlinker/laws.FnReadHex", spec := "fnReadHex", inPlace := ["internal/bytealg.IndexByteString"], apart := false, narrowed := true }
def FnReadHexUptoSaid : Prop := fnReadHexUptoRow.holds Try.pinned (OpenSpec.upto fnReadHexSpec)

/-- 'laws.FnNameAt', WHERE WHAT IT READS IS OF BULK AT MOST 1048576: true; the input reads as it did. -/
def fnNameAtUptoRow : OpenClaim := { program := "ythjpdnpmdppamaa", sum := "f00b19f6954b188d8cd36626403858d85d2112875e8f40e2a6484929afb66aca", func := "loop.example/objectlinker/laws.FnNameAt", spec := "fnNameAt", inPlace := ["internal/bytealg.IndexByte"], apart := false, narrowed := true }
def FnNameAtUptoSaid : Prop := fnNameAtUptoRow.holds Try.pinned (OpenSpec.upto fnNameAtSpec)

/-- 'laws.FnExactSectionSize', WHERE WHAT IT READS IS OF BULK AT MOST 1048576: true; the input reads as it did. -/
def fnExactSectionSizeUptoRow : OpenClaim := { program := "ythjpdnpmdppamaa", sum := "f00b19f6954b188d8cd36626403858d85d2112875e8f40e2a6484929afb66aca", func := "loop.example/objectlinker/laws.FnExactSectionSize", spec := "fnExactSectionSize", apart := false, narrowed := true }
def FnExactSectionSizeUptoSaid : Prop := fnExactSectionSizeUptoRow.holds Try.pinned (OpenSpec.upto fnExactSectionSizeSpec)

/-- 'laws.FnExactGetHeader', WHERE WHAT IT READS IS OF BULK AT MOST 1048576: true; the input reads as it did. -/
def fnExactGetHeaderUptoRow : OpenClaim := { program := "ythjpdnpmdppamaa", sum := "f00b19f6954b188d8cd36626403858d85d2112875e8f40e2a6484929afb66aca", func := "loop.example/objectlinker/laws.FnExactGetHeader", spec := "fnExactGetHeader", apart := false, narrowed := true }
def FnExactGetHeaderUptoSaid : Prop := fnExactGetHeaderUptoRow.holds Try.pinned (OpenSpec.upto fnExactGetHeaderSpec)

/-- 'laws.FnPlaceOf', WHERE WHAT IT READS IS OF BULK AT MOST 1048576: true; the input reads as it did. -/
def fnPlaceOfUptoRow : OpenClaim := { program := "ythjpdnpmdppamaa", sum := "f00b19f6954b188d8cd36626403858d85d2112875e8f40e2a6484929afb66aca", func := "loop.example/objectlinker/laws.FnPlaceOf", spec := "fnPlaceOf", inPlace := ["internal/bytealg.IndexByte"], apart := false, narrowed := true }
def FnPlaceOfUptoSaid : Prop := fnPlaceOfUptoRow.holds Try.pinned (OpenSpec.upto fnPlaceOfSpec)

/-- 'laws.FnPutHeader', WHERE WHAT IT READS IS OF BULK AT MOST 1048576: true; the input reads as it did. -/
def fnPutHeaderUptoRow : OpenClaim := { program := "ythjpdnpmdppamaa", sum := "f00b19f6954b188d8cd36626403858d85d2112875e8f40e2a6484929afb66aca", func := "loop.example/objectlinker/laws.FnPutHeader", spec := "fnPutHeader", apart := false, narrowed := true }
def FnPutHeaderUptoSaid : Prop := fnPutHeaderUptoRow.holds Try.pinned (OpenSpec.upto fnPutHeaderSpec)

/-- 'laws.FnSectionValid', WHERE WHAT IT READS IS OF BULK AT MOST 1048576: true; the input reads as it did. -/
def fnSectionValidUptoRow : OpenClaim := { program := "ythjpdnpmdppamaa", sum := "f00b19f6954b188d8cd36626403858d85d2112875e8f40e2a6484929afb66aca", func := "loop.example/objectlinker/laws.FnSectionValid", spec := "fnSectionValid", apart := false, narrowed := true }
def FnSectionValidUptoSaid : Prop := fnSectionValidUptoRow.holds Try.pinned (OpenSpec.upto fnSectionValidSpec)

/-- 'laws.FnSymbolValid', WHERE WHAT IT READS IS OF BULK AT MOST 1048576: true; the input reads as it did. -/
def fnSymbolValidUptoRow : OpenClaim := { program := "ythjpdnpmdppamaa", sum := "f00b19f6954b188d8cd36626403858d85d2112875e8f40e2a6484929afb66aca", func := "loop.example/objectlinker/laws.FnSymbolValid", spec := "fnSymbolValid", apart := false, narrowed := true }
def FnSymbolValidUptoSaid : Prop := fnSymbolValidUptoRow.holds Try.pinned (OpenSpec.upto fnSymbolValidSpec)

/-- 'laws.FnGetHeader', WHERE WHAT IT READS IS OF BULK AT MOST 1048576: true; the input reads as it did. -/
def fnGetHeaderUptoRow : OpenClaim := { program := "ythjpdnpmdppamaa", sum := "f00b19f6954b188d8cd36626403858d85d2112875e8f40e2a6484929afb66aca", func := "loop.example/objectlinker/laws.FnGetHeader", spec := "fnGetHeader", apart := false, narrowed := true }
def FnGetHeaderUptoSaid : Prop := fnGetHeaderUptoRow.holds Try.pinned (OpenSpec.upto fnGetHeaderSpec)

/-- 'laws.FnExactSectionValid', WHERE WHAT IT READS IS OF BULK AT MOST 1048576: true; the input reads as it did. -/
def fnExactSectionValidUptoRow : OpenClaim := { program := "ythjpdnpmdppamaa", sum := "f00b19f6954b188d8cd36626403858d85d2112875e8f40e2a6484929afb66aca", func := "loop.example/objectlinker/laws.FnExactSectionValid", spec := "fnExactSectionValid", apart := false, narrowed := true }
def FnExactSectionValidUptoSaid : Prop := fnExactSectionValidUptoRow.holds Try.pinned (OpenSpec.upto fnExactSectionValidSpec)

/-- 'laws.FnExactSymbolValid', WHERE WHAT IT READS IS OF BULK AT MOST 1048576: true; the input reads as it did. -/
def fnExactSymbolValidUptoRow : OpenClaim := { program := "ythjpdnpmdppamaa", sum := "f00b19f6954b188d8cd36626403858d85d2112875e8f40e2a6484929afb66aca", func := "loop.example/objectlinker/laws.FnExactSymbolValid", spec := "fnExactSymbolValid", apart := false, narrowed := true }
def FnExactSymbolValidUptoSaid : Prop := fnExactSymbolValidUptoRow.holds Try.pinned (OpenSpec.upto fnExactSymbolValidSpec)

end Rows
end Go.Proofs.Ythjpdnpmdppamaa
