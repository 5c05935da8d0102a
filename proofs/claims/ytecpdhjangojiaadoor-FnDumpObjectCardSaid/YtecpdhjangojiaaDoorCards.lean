/-
  DERIVED. GIVEN WITH THE SEED: THE CARDS: each row of YtecpdhjangojiaaDoorRows.lean that lists a variable, with what it lists TIED to the program's text (the seventh form; the later family's looks); each row that meets fmt, with fmt's text TOLD by the authors' own Lean function (tested against real Go, not proved from fmt's source: count such statements apart). THE CARD IS WHAT COUNTS. Prove the row's statement (the work); the ties are given (YtecpdhjangojiaaDoorTie.lean); close each card by the builder's one call (the guide's Derived/Test/ToyasCard.lean, 'card_holds'). Laid BY PROGRAM, IN A SANDBOX (cutbox-door.mjs). By AI agents, Wed Nov 11 2026. No macro, syntax, notation, axiom, sorry.
-/
import Derived.Test.YtecpdhjangojiaaDoorRows
import GoSem.ClaimSeven
namespace Go.Proofs.YtecpdhjangojiaaDoor
namespace Rows

/-- THE TIED CARD OF 'laws.FnDumpObject'. -/
def fnDumpObjectCard : Claim7 := { stood := { row := fnDumpObjectRow, standIns := [], harness := (true, "644595f6551557d667f71aed70d0913b62066f1272bf2c199280c5f5eec4a989"), looks := true }, kinds := [], alts := [], laidByText := true, laidKinds := [.data, .data, .data, .data, .sentinel, .sentinel, .pinned], laidTests := true, laidLooks := .later }
def FnDumpObjectCardSaid : Prop := Claim7.holds Tryd.pinned (.plain (OpenSpec.ofChange fnDumpObjectSpec)) fnDumpObjectCard

/-- THE TIED CARD OF 'laws.FnExactDumpObject'. -/
def fnExactDumpObjectCard : Claim7 := { stood := { row := fnExactDumpObjectRow, standIns := [], harness := (true, "644595f6551557d667f71aed70d0913b62066f1272bf2c199280c5f5eec4a989"), looks := true }, kinds := [], alts := [], laidByText := true, laidKinds := [.data, .data, .data], laidTests := true, laidLooks := .later }
def FnExactDumpObjectCardSaid : Prop := Claim7.holds Tryd.pinned (.plain (OpenSpec.ofChange fnExactDumpObjectSpec)) fnExactDumpObjectCard

/-- THE SECOND FORM's CARD OF 'laws.FnDumpObject'. -/
def fnDumpObjectUptoCard : Claim7 := { stood := { row := fnDumpObjectUptoRow, standIns := [], harness := (true, "644595f6551557d667f71aed70d0913b62066f1272bf2c199280c5f5eec4a989"), looks := true }, kinds := [], alts := [], laidByText := true, laidKinds := [.data, .data, .data, .data, .sentinel, .sentinel, .pinned], laidTests := true, laidLooks := .later }
def FnDumpObjectUptoCardSaid : Prop := Claim7.holds Tryd.pinned (.plain (OpenSpec.upto fnDumpObjectSpec)) fnDumpObjectUptoCard

/-- THE SECOND FORM's CARD OF 'laws.FnExactDumpObject'. -/
def fnExactDumpObjectUptoCard : Claim7 := { stood := { row := fnExactDumpObjectUptoRow, standIns := [], harness := (true, "644595f6551557d667f71aed70d0913b62066f1272bf2c199280c5f5eec4a989"), looks := true }, kinds := [], alts := [], laidByText := true, laidKinds := [.data, .data, .data], laidTests := true, laidLooks := .later }
def FnExactDumpObjectUptoCardSaid : Prop := Claim7.holds Tryd.pinned (.plain (OpenSpec.upto fnExactDumpObjectSpec)) fnExactDumpObjectUptoCard
end Rows
end Go.Proofs.YtecpdhjangojiaaDoor
