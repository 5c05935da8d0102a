/-
  DERIVED. GIVEN WITH THE SEED: THE CARDS: each row of YtecpdhjangojiaaGreatDoorRows.lean that lists a variable, with what it lists TIED to the program's text (the seventh form; the later family's looks); each row that meets fmt, with fmt's text TOLD by the authors' own Lean function (tested against real Go, not proved from fmt's source: count such statements apart). THE CARD IS WHAT COUNTS. Prove the row's statement (the work); the ties are given (YtecpdhjangojiaaGreatDoorTie.lean); close each card by the builder's one call (the guide's Derived/Test/ToyasCard.lean, 'card_holds'). Laid BY PROGRAM, IN A SANDBOX (cutbox-door.mjs). By AI agents, Wed Nov 11 2026. No macro, syntax, notation, axiom, sorry.
-/
import Derived.Test.YtecpdhjangojiaaGreatDoorRows
import GoSem.ClaimSeven
namespace Go.Proofs.YtecpdhjangojiaaGreatDoor
namespace Rows

/-- THE TIED CARD OF 'laws.FnReadDump'. -/
def fnReadDumpCard : Claim7 := { stood := { row := fnReadDumpRow, standIns := [], harness := (true, "5d875a155b30fac65a0e4445e962aa42b3126f03f6efe0bcf4d78e0fa371c5f4"), looks := true }, kinds := [], alts := [], laidByText := true, laidKinds := [.data, .data, .data, .data, .sentinel, .sentinel, .pinned], laidTests := true, laidLooks := .later }
def FnReadDumpCardSaid : Prop := Claim7.holds Tryz.pinned (.plain (OpenSpec.ofChange fnReadDumpSpec)) fnReadDumpCard

/-- THE TIED CARD OF 'laws.FnExactReadDump'. -/
def fnExactReadDumpCard : Claim7 := { stood := { row := fnExactReadDumpRow, standIns := [], harness := (true, "5d875a155b30fac65a0e4445e962aa42b3126f03f6efe0bcf4d78e0fa371c5f4"), looks := true }, kinds := [], alts := [], laidByText := true, laidKinds := [.data, .data, .data, .data, .sentinel, .sentinel, .pinned], laidTests := true, laidLooks := .later }
def FnExactReadDumpCardSaid : Prop := Claim7.holds Tryz.pinned (.plain (OpenSpec.ofChange fnExactReadDumpSpec)) fnExactReadDumpCard

/-- THE SECOND FORM's CARD OF 'laws.FnReadDump'. -/
def fnReadDumpUptoCard : Claim7 := { stood := { row := fnReadDumpUptoRow, standIns := [], harness := (true, "5d875a155b30fac65a0e4445e962aa42b3126f03f6efe0bcf4d78e0fa371c5f4"), looks := true }, kinds := [], alts := [], laidByText := true, laidKinds := [.data, .data, .data, .data, .sentinel, .sentinel, .pinned], laidTests := true, laidLooks := .later }
def FnReadDumpUptoCardSaid : Prop := Claim7.holds Tryz.pinned (.plain (OpenSpec.upto fnReadDumpSpec)) fnReadDumpUptoCard

/-- THE SECOND FORM's CARD OF 'laws.FnExactReadDump'. -/
def fnExactReadDumpUptoCard : Claim7 := { stood := { row := fnExactReadDumpUptoRow, standIns := [], harness := (true, "5d875a155b30fac65a0e4445e962aa42b3126f03f6efe0bcf4d78e0fa371c5f4"), looks := true }, kinds := [], alts := [], laidByText := true, laidKinds := [.data, .data, .data, .data, .sentinel, .sentinel, .pinned], laidTests := true, laidLooks := .later }
def FnExactReadDumpUptoCardSaid : Prop := Claim7.holds Tryz.pinned (.plain (OpenSpec.upto fnExactReadDumpSpec)) fnExactReadDumpUptoCard
end Rows
end Go.Proofs.YtecpdhjangojiaaGreatDoor
