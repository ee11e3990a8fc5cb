/-
  DERIVED. GIVEN WITH THE SEED: THE CARDS: each row of YtdendllginlidaaGreatDoorRows.lean that lists a variable, with what it lists TIED to the program's text (the seventh form; the later family's looks); each row that meets fmt, with fmt's text TOLD by the authors' own Lean function (tested against real Go, not proved from fmt's source: count such statements apart). THE CARD IS WHAT COUNTS. Prove the row's statement (the work); the ties are given (YtdendllginlidaaGreatDoorTie.lean); close each card by the builder's one call (the guide's Derived/Test/ToyasCard.lean, 'card_holds'). Laid BY PROGRAM, IN A SANDBOX (cutbox-door.mjs). By AI agents, Wed Nov 11 2026. No macro, syntax, notation, axiom, sorry.
-/
import Derived.Test.YtdendllginlidaaGreatDoorRows
import GoSem.ClaimSeven
namespace Go.Proofs.YtdendllginlidaaGreatDoor
namespace Rows

/-- THE TIED CARD OF 'laws.FnExactReadPartial'. -/
def fnExactReadPartialCard : Claim7 := { stood := { row := fnExactReadPartialRow, standIns := [], harness := (true, "5fcdeb8654bf31e45654cc927fb08b7d967c9d056cfde0d780e6c46b571fb17b"), looks := true }, kinds := [], alts := [], laidByText := true, laidKinds := [.data, .data, .data, .sentinel, .sentinel], laidTests := true, laidLooks := .later }
def FnExactReadPartialCardSaid : Prop := Claim7.holds Tryz.pinned (.plain (OpenSpec.ofChange fnExactReadPartialSpec)) fnExactReadPartialCard

/-- THE TIED CARD OF 'laws.FnExactReadProof'. -/
def fnExactReadProofCard : Claim7 := { stood := { row := fnExactReadProofRow, standIns := [], harness := (true, "5fcdeb8654bf31e45654cc927fb08b7d967c9d056cfde0d780e6c46b571fb17b"), looks := true }, kinds := [], alts := [], laidByText := true, laidKinds := [.data, .data, .data, .data, .sentinel, .sentinel, .pinned], laidTests := true, laidLooks := .later }
def FnExactReadProofCardSaid : Prop := Claim7.holds Tryz.pinned (.plain (OpenSpec.ofChange fnExactReadProofSpec)) fnExactReadProofCard

/-- THE SECOND FORM's CARD OF 'laws.FnExactReadPartial'. -/
def fnExactReadPartialUptoCard : Claim7 := { stood := { row := fnExactReadPartialUptoRow, standIns := [], harness := (true, "5fcdeb8654bf31e45654cc927fb08b7d967c9d056cfde0d780e6c46b571fb17b"), looks := true }, kinds := [], alts := [], laidByText := true, laidKinds := [.data, .data, .data, .sentinel, .sentinel], laidTests := true, laidLooks := .later }
def FnExactReadPartialUptoCardSaid : Prop := Claim7.holds Tryz.pinned (.plain (OpenSpec.upto fnExactReadPartialSpec)) fnExactReadPartialUptoCard

/-- THE SECOND FORM's CARD OF 'laws.FnExactReadProof'. -/
def fnExactReadProofUptoCard : Claim7 := { stood := { row := fnExactReadProofUptoRow, standIns := [], harness := (true, "5fcdeb8654bf31e45654cc927fb08b7d967c9d056cfde0d780e6c46b571fb17b"), looks := true }, kinds := [], alts := [], laidByText := true, laidKinds := [.data, .data, .data, .data, .sentinel, .sentinel, .pinned], laidTests := true, laidLooks := .later }
def FnExactReadProofUptoCardSaid : Prop := Claim7.holds Tryz.pinned (.plain (OpenSpec.upto fnExactReadProofSpec)) fnExactReadProofUptoCard
end Rows
end Go.Proofs.YtdendllginlidaaGreatDoor
