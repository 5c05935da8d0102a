/-
  No cell of these rows narrows 'for every input' (looked for: loops, veiled, ifaces, maps, wideKeys, modest, calm, conditions, laid).
  DERIVED. THE GIVEN ROWS OF THIS SEAT. 10 by the template 'for every input the law returns true; each argument reads behind the call as it read before'; 0 by the template 'total and deterministic' (their statements: YtadbafjmmhfeaaaTotals.lean).
  GIVEN WITH THE SEED: the statements are not yours to turn. If you find one false, say at which input.
  Laid BY PROGRAM, IN A SANDBOX (cutbox-rows.mjs): the forced cells as the released guide's own fill.sh prints them over the translation ea147c2eb8511b0b… (all of the seat's roots in one cut). By AI agents, Wed Nov 11 2026. No macro, syntax, notation, axiom, sorry.
-/
import Derived.Test.YtadbafjmmhfeaaaChecked
import GoSem.Claim
import GoSem.ClaimJoined
import GoSem.ClaimMapViews
import Derived.JoinedTies
import Derived.KernelRfl
namespace Go.Proofs.Ytadbafjmmhfeaaa
/- THE CELL 'sum', in the pinned program and in every row, IS THE sha256 OF THE DUMP (.gsa) THAT YtadbafjmmhfeaaaProg.lean LOADS. Nothing in Lean hashes anything: it is a label: what it is worth is what the hold of that sum in a sandbox is worth. -/
noncomputable def Try.pinned : Pinned := { name := "ytadbafjmmhfeaaa", sum := "ea147c2eb8511b0baa959f27525585104bd5bb37a83a45bb9dd6938dc08accbd", checked := Try.checked }
namespace Rows
def none {H : Type} : Left H := { results := [], args := [] }

/-- 'laws.FnNameAt': WHATEVER THE INPUT: true; the input reads as it did. -/
def fnNameAtSpec : ChangeSpec := { name := "fnNameAt", fn := fun _ => fun
  | [d] => { results := [.lit (.bool true)], args := [d] }
  | _ => none }
def fnNameAtRow : OpenClaim := { program := "ytadbafjmmhfeaaa", sum := "ea147c2eb8511b0baa959f27525585104bd5bb37a83a45bb9dd6938dc08accbd", func := "loop.example/objectlinker/laws.FnNameAt", spec := "fnNameAt", inPlace := ["internal/bytealg.IndexByte"], apart := false }
def FnNameAtSaid : Prop := fnNameAtRow.holds Try.pinned (OpenSpec.ofChange fnNameAtSpec)

/-- ITS FALSE NEIGHBOUR: 'it returns false'. Refute it at one input. -/
def fnNameAtWrong : ChangeSpec := { name := "fnNameAt", fn := fun _ => fun
  | [d] => { results := [.lit (.bool false)], args := [d] }
  | _ => none }
def FnNameAtWrongFalsely : Prop := fnNameAtRow.holds Try.pinned (OpenSpec.ofChange fnNameAtWrong)

/-- 'laws.FnPlaceOf': WHATEVER THE INPUT: true; the input reads as it did. -/
def fnPlaceOfSpec : ChangeSpec := { name := "fnPlaceOf", fn := fun _ => fun
  | [d] => { results := [.lit (.bool true)], args := [d] }
  | _ => none }
def fnPlaceOfRow : OpenClaim := { program := "ytadbafjmmhfeaaa", sum := "ea147c2eb8511b0baa959f27525585104bd5bb37a83a45bb9dd6938dc08accbd", func := "loop.example/objectlinker/laws.FnPlaceOf", spec := "fnPlaceOf", inPlace := ["internal/bytealg.IndexByte"], apart := false }
def FnPlaceOfSaid : Prop := fnPlaceOfRow.holds Try.pinned (OpenSpec.ofChange fnPlaceOfSpec)

/-- ITS FALSE NEIGHBOUR: 'it returns false'. Refute it at one input. -/
def fnPlaceOfWrong : ChangeSpec := { name := "fnPlaceOf", fn := fun _ => fun
  | [d] => { results := [.lit (.bool false)], args := [d] }
  | _ => none }
def FnPlaceOfWrongFalsely : Prop := fnPlaceOfRow.holds Try.pinned (OpenSpec.ofChange fnPlaceOfWrong)

/-- 'laws.FnSectionSize': WHATEVER THE INPUT: true; the input reads as it did. -/
def fnSectionSizeSpec : ChangeSpec := { name := "fnSectionSize", fn := fun _ => fun
  | [d] => { results := [.lit (.bool true)], args := [d] }
  | _ => none }
def fnSectionSizeRow : OpenClaim := { program := "ytadbafjmmhfeaaa", sum := "ea147c2eb8511b0baa959f27525585104bd5bb37a83a45bb9dd6938dc08accbd", func := "loop.example/objectlinker/laws.FnSectionSize", spec := "fnSectionSize", apart := false }
def FnSectionSizeSaid : Prop := fnSectionSizeRow.holds Try.pinned (OpenSpec.ofChange fnSectionSizeSpec)

/-- ITS FALSE NEIGHBOUR: 'it returns false'. Refute it at one input. -/
def fnSectionSizeWrong : ChangeSpec := { name := "fnSectionSize", fn := fun _ => fun
  | [d] => { results := [.lit (.bool false)], args := [d] }
  | _ => none }
def FnSectionSizeWrongFalsely : Prop := fnSectionSizeRow.holds Try.pinned (OpenSpec.ofChange fnSectionSizeWrong)

/-- 'laws.FnSectionValid': WHATEVER THE INPUT: true; the input reads as it did. -/
def fnSectionValidSpec : ChangeSpec := { name := "fnSectionValid", fn := fun _ => fun
  | [d] => { results := [.lit (.bool true)], args := [d] }
  | _ => none }
def fnSectionValidRow : OpenClaim := { program := "ytadbafjmmhfeaaa", sum := "ea147c2eb8511b0baa959f27525585104bd5bb37a83a45bb9dd6938dc08accbd", func := "loop.example/objectlinker/laws.FnSectionValid", spec := "fnSectionValid", apart := false }
def FnSectionValidSaid : Prop := fnSectionValidRow.holds Try.pinned (OpenSpec.ofChange fnSectionValidSpec)

/-- ITS FALSE NEIGHBOUR: 'it returns false'. Refute it at one input. -/
def fnSectionValidWrong : ChangeSpec := { name := "fnSectionValid", fn := fun _ => fun
  | [d] => { results := [.lit (.bool false)], args := [d] }
  | _ => none }
def FnSectionValidWrongFalsely : Prop := fnSectionValidRow.holds Try.pinned (OpenSpec.ofChange fnSectionValidWrong)

/-- 'laws.FnSymbolValid': WHATEVER THE INPUT: true; the input reads as it did. -/
def fnSymbolValidSpec : ChangeSpec := { name := "fnSymbolValid", fn := fun _ => fun
  | [d] => { results := [.lit (.bool true)], args := [d] }
  | _ => none }
def fnSymbolValidRow : OpenClaim := { program := "ytadbafjmmhfeaaa", sum := "ea147c2eb8511b0baa959f27525585104bd5bb37a83a45bb9dd6938dc08accbd", func := "loop.example/objectlinker/laws.FnSymbolValid", spec := "fnSymbolValid", apart := false }
def FnSymbolValidSaid : Prop := fnSymbolValidRow.holds Try.pinned (OpenSpec.ofChange fnSymbolValidSpec)

/-- ITS FALSE NEIGHBOUR: 'it returns false'. Refute it at one input. -/
def fnSymbolValidWrong : ChangeSpec := { name := "fnSymbolValid", fn := fun _ => fun
  | [d] => { results := [.lit (.bool false)], args := [d] }
  | _ => none }
def FnSymbolValidWrongFalsely : Prop := fnSymbolValidRow.holds Try.pinned (OpenSpec.ofChange fnSymbolValidWrong)

/-- 'laws.FnExactSymbolValid': WHATEVER THE INPUT: true; the input reads as it did. -/
def fnExactSymbolValidSpec : ChangeSpec := { name := "fnExactSymbolValid", fn := fun _ => fun
  | [d1, d2] => { results := [.lit (.bool true)], args := [d1, d2] }
  | _ => none }
def fnExactSymbolValidRow : OpenClaim := { program := "ytadbafjmmhfeaaa", sum := "ea147c2eb8511b0baa959f27525585104bd5bb37a83a45bb9dd6938dc08accbd", func := "loop.example/objectlinker/laws.FnExactSymbolValid", spec := "fnExactSymbolValid", apart := false }
def FnExactSymbolValidSaid : Prop := fnExactSymbolValidRow.holds Try.pinned (OpenSpec.ofChange fnExactSymbolValidSpec)

/-- ITS FALSE NEIGHBOUR: 'it returns false'. Refute it at one input. -/
def fnExactSymbolValidWrong : ChangeSpec := { name := "fnExactSymbolValid", fn := fun _ => fun
  | [d1, d2] => { results := [.lit (.bool false)], args := [d1, d2] }
  | _ => none }
def FnExactSymbolValidWrongFalsely : Prop := fnExactSymbolValidRow.holds Try.pinned (OpenSpec.ofChange fnExactSymbolValidWrong)

/-- 'laws.FnObjectValid': WHATEVER THE INPUT: true; the input reads as it did. -/
def fnObjectValidSpec : ChangeSpec := { name := "fnObjectValid", fn := fun _ => fun
  | [d] => { results := [.lit (.bool true)], args := [d] }
  | _ => none }
def fnObjectValidRow : OpenClaim := { program := "ytadbafjmmhfeaaa", sum := "ea147c2eb8511b0baa959f27525585104bd5bb37a83a45bb9dd6938dc08accbd", func := "loop.example/objectlinker/laws.FnObjectValid", spec := "fnObjectValid", unfollowed := true, recurses := true, apart := false }
def FnObjectValidSaid : Prop := fnObjectValidRow.holds Try.pinned (OpenSpec.ofChange fnObjectValidSpec)

/-- ITS FALSE NEIGHBOUR: 'it returns false'. Refute it at one input. -/
def fnObjectValidWrong : ChangeSpec := { name := "fnObjectValid", fn := fun _ => fun
  | [d] => { results := [.lit (.bool false)], args := [d] }
  | _ => none }
def FnObjectValidWrongFalsely : Prop := fnObjectValidRow.holds Try.pinned (OpenSpec.ofChange fnObjectValidWrong)

/-- 'laws.FnObjectsValid': WHATEVER THE INPUT: true; the input reads as it did. -/
def fnObjectsValidSpec : ChangeSpec := { name := "fnObjectsValid", fn := fun _ => fun
  | [d] => { results := [.lit (.bool true)], args := [d] }
  | _ => none }
def fnObjectsValidRow : OpenClaim := { program := "ytadbafjmmhfeaaa", sum := "ea147c2eb8511b0baa959f27525585104bd5bb37a83a45bb9dd6938dc08accbd", func := "loop.example/objectlinker/laws.FnObjectsValid", spec := "fnObjectsValid", unfollowed := true, recurses := true, apart := false }
def FnObjectsValidSaid : Prop := fnObjectsValidRow.holds Try.pinned (OpenSpec.ofChange fnObjectsValidSpec)

/-- ITS FALSE NEIGHBOUR: 'it returns false'. Refute it at one input. -/
def fnObjectsValidWrong : ChangeSpec := { name := "fnObjectsValid", fn := fun _ => fun
  | [d] => { results := [.lit (.bool false)], args := [d] }
  | _ => none }
def FnObjectsValidWrongFalsely : Prop := fnObjectsValidRow.holds Try.pinned (OpenSpec.ofChange fnObjectsValidWrong)

/-- 'laws.FnExactObjectValid': WHATEVER THE INPUT: true; the input reads as it did. -/
def fnExactObjectValidSpec : ChangeSpec := { name := "fnExactObjectValid", fn := fun _ => fun
  | [d] => { results := [.lit (.bool true)], args := [d] }
  | _ => none }
def fnExactObjectValidRow : OpenClaim := { program := "ytadbafjmmhfeaaa", sum := "ea147c2eb8511b0baa959f27525585104bd5bb37a83a45bb9dd6938dc08accbd", func := "loop.example/objectlinker/laws.FnExactObjectValid", spec := "fnExactObjectValid", unfollowed := true, recurses := true, apart := false }
def FnExactObjectValidSaid : Prop := fnExactObjectValidRow.holds Try.pinned (OpenSpec.ofChange fnExactObjectValidSpec)

/-- ITS FALSE NEIGHBOUR: 'it returns false'. Refute it at one input. -/
def fnExactObjectValidWrong : ChangeSpec := { name := "fnExactObjectValid", fn := fun _ => fun
  | [d] => { results := [.lit (.bool false)], args := [d] }
  | _ => none }
def FnExactObjectValidWrongFalsely : Prop := fnExactObjectValidRow.holds Try.pinned (OpenSpec.ofChange fnExactObjectValidWrong)

/-- 'laws.FnFindName': WHATEVER THE INPUT: true; the input reads as it did. -/
def fnFindNameSpec : ChangeSpec := { name := "fnFindName", fn := fun _ => fun
  | [d] => { results := [.lit (.bool true)], args := [d] }
  | _ => none }
def fnFindNameRow : OpenClaim := { program := "ytadbafjmmhfeaaa", sum := "ea147c2eb8511b0baa959f27525585104bd5bb37a83a45bb9dd6938dc08accbd", func := "loop.example/objectlinker/laws.FnFindName", spec := "fnFindName", unfollowed := true, recurses := true, apart := false }
def FnFindNameSaid : Prop := fnFindNameRow.holds Try.pinned (OpenSpec.ofChange fnFindNameSpec)

/-- ITS FALSE NEIGHBOUR: 'it returns false'. Refute it at one input. -/
def fnFindNameWrong : ChangeSpec := { name := "fnFindName", fn := fun _ => fun
  | [d] => { results := [.lit (.bool false)], args := [d] }
  | _ => none }
def FnFindNameWrongFalsely : Prop := fnFindNameRow.holds Try.pinned (OpenSpec.ofChange fnFindNameWrong)

/- THE SECOND FORM. 'bulk': how many values and letters a reading holds, each counted each time it is reached (what is shared counts as often as it is met; a slice's spare places count too). A statement '..UptoSaid' is the law's where the arguments, and the package variables that the reading takes, are together of bulk at most 1048576: NARROWER than '..Said'. Prove '..Said' where nothing that the law and all that it calls make is longer than what came in: it says more and counts as full. Else prove '..UptoSaid'. A law counts once. -/
mutual
def uptoBulk {H : Type} : DataW H → Nat
  | .lit (.string bytes) => bytes.length + 1
  | .lit _ => 1
  | .nil => 1
  | .ptr d => uptoBulk d + 1
  | .slice elems spare => uptoBulkAll elems + uptoBulkAll spare + 1
  | .agg parts => uptoBulkAll parts + 1
  | .iface _ d => uptoBulk d + 1
  | .map entries => uptoBulkEntries entries + 1
  | .held _ => 1
def uptoBulkAll {H : Type} : List (DataW H) → Nat
  | [] => 0
  | d :: r => uptoBulk d + uptoBulkAll r
def uptoBulkEntries {H : Type} : List (Lit × DataW H) → Nat
  | [] => 0
  | x :: r => uptoBulkEntry x + uptoBulkEntries r
def uptoBulkEntry {H : Type} : Lit × DataW H → Nat
  | (.string bytes, d) => bytes.length + uptoBulk d + 1
  | (_, d) => uptoBulk d + 1
 end
def uptoSmall : (H : Type) → List (DataW H) → Bool := fun _ ds => decide (uptoBulkAll ds ≤ 1048576)
def OpenSpec.upto (s : _root_.Go.ChangeSpec) : _root_.Go.OpenSpec := { _root_.Go.OpenSpec.ofChange s with cond := some uptoSmall }

/-- 'laws.FnNameAt', WHERE WHAT IT READS IS OF BULK AT MOST 1048576: true; the input reads as it did. -/
def fnNameAtUptoRow : OpenClaim := { program := "ytadbafjmmhfeaaa", sum := "ea147c2eb8511b0baa959f27525585104bd5bb37a83a45bb9dd6938dc08accbd", func := "loop.example/objectlinker/laws.FnNameAt", spec := "fnNameAt", inPlace := ["internal/bytealg.IndexByte"], apart := false, narrowed := true }
def FnNameAtUptoSaid : Prop := fnNameAtUptoRow.holds Try.pinned (OpenSpec.upto fnNameAtSpec)

/-- 'laws.FnPlaceOf', WHERE WHAT IT READS IS OF BULK AT MOST 1048576: true; the input reads as it did. -/
def fnPlaceOfUptoRow : OpenClaim := { program := "ytadbafjmmhfeaaa", sum := "ea147c2eb8511b0baa959f27525585104bd5bb37a83a45bb9dd6938dc08accbd", func := "loop.example/objectlinker/laws.FnPlaceOf", spec := "fnPlaceOf", inPlace := ["internal/bytealg.IndexByte"], apart := false, narrowed := true }
def FnPlaceOfUptoSaid : Prop := fnPlaceOfUptoRow.holds Try.pinned (OpenSpec.upto fnPlaceOfSpec)

/-- 'laws.FnSectionSize', WHERE WHAT IT READS IS OF BULK AT MOST 1048576: true; the input reads as it did. -/
def fnSectionSizeUptoRow : OpenClaim := { program := "ytadbafjmmhfeaaa", sum := "ea147c2eb8511b0baa959f27525585104bd5bb37a83a45bb9dd6938dc08accbd", func := "loop.example/objectlinker/laws.FnSectionSize", spec := "fnSectionSize", apart := false, narrowed := true }
def FnSectionSizeUptoSaid : Prop := fnSectionSizeUptoRow.holds Try.pinned (OpenSpec.upto fnSectionSizeSpec)

/-- 'laws.FnSectionValid', WHERE WHAT IT READS IS OF BULK AT MOST 1048576: true; the input reads as it did. -/
def fnSectionValidUptoRow : OpenClaim := { program := "ytadbafjmmhfeaaa", sum := "ea147c2eb8511b0baa959f27525585104bd5bb37a83a45bb9dd6938dc08accbd", func := "loop.example/objectlinker/laws.FnSectionValid", spec := "fnSectionValid", apart := false, narrowed := true }
def FnSectionValidUptoSaid : Prop := fnSectionValidUptoRow.holds Try.pinned (OpenSpec.upto fnSectionValidSpec)

/-- 'laws.FnSymbolValid', WHERE WHAT IT READS IS OF BULK AT MOST 1048576: true; the input reads as it did. -/
def fnSymbolValidUptoRow : OpenClaim := { program := "ytadbafjmmhfeaaa", sum := "ea147c2eb8511b0baa959f27525585104bd5bb37a83a45bb9dd6938dc08accbd", func := "loop.example/objectlinker/laws.FnSymbolValid", spec := "fnSymbolValid", apart := false, narrowed := true }
def FnSymbolValidUptoSaid : Prop := fnSymbolValidUptoRow.holds Try.pinned (OpenSpec.upto fnSymbolValidSpec)

/-- 'laws.FnExactSymbolValid', WHERE WHAT IT READS IS OF BULK AT MOST 1048576: true; the input reads as it did. -/
def fnExactSymbolValidUptoRow : OpenClaim := { program := "ytadbafjmmhfeaaa", sum := "ea147c2eb8511b0baa959f27525585104bd5bb37a83a45bb9dd6938dc08accbd", func := "loop.example/objectlinker/laws.FnExactSymbolValid", spec := "fnExactSymbolValid", apart := false, narrowed := true }
def FnExactSymbolValidUptoSaid : Prop := fnExactSymbolValidUptoRow.holds Try.pinned (OpenSpec.upto fnExactSymbolValidSpec)

/-- 'laws.FnObjectValid', WHERE WHAT IT READS IS OF BULK AT MOST 1048576: true; the input reads as it did. -/
def fnObjectValidUptoRow : OpenClaim := { program := "ytadbafjmmhfeaaa", sum := "ea147c2eb8511b0baa959f27525585104bd5bb37a83a45bb9dd6938dc08accbd", func := "loop.example/objectlinker/laws.FnObjectValid", spec := "fnObjectValid", unfollowed := true, recurses := true, apart := false, narrowed := true }
def FnObjectValidUptoSaid : Prop := fnObjectValidUptoRow.holds Try.pinned (OpenSpec.upto fnObjectValidSpec)

/-- 'laws.FnObjectsValid', WHERE WHAT IT READS IS OF BULK AT MOST 1048576: true; the input reads as it did. -/
def fnObjectsValidUptoRow : OpenClaim := { program := "ytadbafjmmhfeaaa", sum := "ea147c2eb8511b0baa959f27525585104bd5bb37a83a45bb9dd6938dc08accbd", func := "loop.example/objectlinker/laws.FnObjectsValid", spec := "fnObjectsValid", unfollowed := true, recurses := true, apart := false, narrowed := true }
def FnObjectsValidUptoSaid : Prop := fnObjectsValidUptoRow.holds Try.pinned (OpenSpec.upto fnObjectsValidSpec)

/-- 'laws.FnExactObjectValid', WHERE WHAT IT READS IS OF BULK AT MOST 1048576: true; the input reads as it did. -/
def fnExactObjectValidUptoRow : OpenClaim := { program := "ytadbafjmmhfeaaa", sum := "ea147c2eb8511b0baa959f27525585104bd5bb37a83a45bb9dd6938dc08accbd", func := "loop.example/objectlinker/laws.FnExactObjectValid", spec := "fnExactObjectValid", unfollowed := true, recurses := true, apart := false, narrowed := true }
def FnExactObjectValidUptoSaid : Prop := fnExactObjectValidUptoRow.holds Try.pinned (OpenSpec.upto fnExactObjectValidSpec)

/-- 'laws.FnFindName', WHERE WHAT IT READS IS OF BULK AT MOST 1048576: true; the input reads as it did. -/
def fnFindNameUptoRow : OpenClaim := { program := "ytadbafjmmhfeaaa", sum := "ea147c2eb8511b0baa959f27525585104bd5bb37a83a45bb9dd6938dc08accbd", func := "loop.example/objectlinker/laws.FnFindName", spec := "fnFindName", unfollowed := true, recurses := true, apart := false, narrowed := true }
def FnFindNameUptoSaid : Prop := fnFindNameUptoRow.holds Try.pinned (OpenSpec.upto fnFindNameSpec)

end Rows
end Go.Proofs.Ytadbafjmmhfeaaa
