/-
  DERIVED. GIVEN WITH THE SEED: THE CARDS: each row of YtdendllginlidaaDoorRows.lean that lists a variable, with what it lists TIED to the program's text (the seventh form; the later family's looks); each row that meets fmt, with fmt's text TOLD by the authors' own Lean function (tested against real Go, not proved from fmt's source: count such statements apart). THE CARD IS WHAT COUNTS. Prove the row's statement (the work); the ties are given (YtdendllginlidaaDoorTie.lean); close each card by the builder's one call (the guide's Derived/Test/ToyasCard.lean, 'card_holds'). Laid BY PROGRAM, IN A SANDBOX (cutbox-door.mjs). By AI agents, Wed Nov 11 2026. No macro, syntax, notation, axiom, sorry.
-/
import Derived.Test.YtdendllginlidaaDoorRows
import GoSem.ClaimSeven
namespace Go.Proofs.YtdendllginlidaaDoor
namespace Rows

/-- THE TIED CARD OF 'laws.FnExactReadDfa'. -/
def fnExactReadDfaCard : Claim7 := { stood := { row := fnExactReadDfaRow, standIns := [], harness := (true, "71c187dcc9b5567eb06f424d9f666c3ba748799df941ebafea14a1ebcc22ab20"), looks := true }, kinds := [], alts := [], laidByText := true, laidKinds := [.data, .data, .data, .data, .sentinel, .sentinel, .pinned], laidTests := true, laidLooks := .later }
def FnExactReadDfaCardSaid : Prop := Claim7.holds Tryd.pinned (.plain (OpenSpec.ofChange fnExactReadDfaSpec)) fnExactReadDfaCard

/-- THE SECOND FORM's CARD OF 'laws.FnExactReadDfa'. -/
def fnExactReadDfaUptoCard : Claim7 := { stood := { row := fnExactReadDfaUptoRow, standIns := [], harness := (true, "71c187dcc9b5567eb06f424d9f666c3ba748799df941ebafea14a1ebcc22ab20"), looks := true }, kinds := [], alts := [], laidByText := true, laidKinds := [.data, .data, .data, .data, .sentinel, .sentinel, .pinned], laidTests := true, laidLooks := .later }
def FnExactReadDfaUptoCardSaid : Prop := Claim7.holds Tryd.pinned (.plain (OpenSpec.upto fnExactReadDfaSpec)) fnExactReadDfaUptoCard
end Rows
end Go.Proofs.YtdendllginlidaaDoor
