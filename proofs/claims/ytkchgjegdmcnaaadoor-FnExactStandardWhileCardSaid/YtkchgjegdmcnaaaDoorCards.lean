/-
  DERIVED. GIVEN WITH THE SEED: THE CARDS: each row of YtkchgjegdmcnaaaDoorRows.lean that lists a variable, with what it lists TIED to the program's text (the seventh form; the later family's looks); each row that meets fmt, with fmt's text TOLD by the authors' own Lean function (tested against real Go, not proved from fmt's source: count such statements apart). THE CARD IS WHAT COUNTS. Prove the row's statement (the work); the ties are given (YtkchgjegdmcnaaaDoorTie.lean); close each card by the builder's one call (the guide's Derived/Test/ToyasCard.lean, 'card_holds'). Laid BY PROGRAM, IN A SANDBOX (cutbox-door.mjs). By AI agents, Wed Nov 11 2026. No macro, syntax, notation, axiom, sorry.
-/
import Derived.Test.YtkchgjegdmcnaaaDoorRows
import GoSem.ClaimSeven
namespace Go.Proofs.YtkchgjegdmcnaaaDoor
namespace Rows

/-- THE TIED CARD OF 'laws.FnExactWhileText'. -/
def fnExactWhileTextCard : Claim7 := { stood := { row := fnExactWhileTextRow, standIns := [], harness := (true, "3b8ec1cad26b27bbc82e23b7f9d231c2ff905af7ab05a66038bd211de77db36d"), looks := false }, kinds := [], alts := [], laidByText := true, laidKinds := [.data, .data, .data], laidTests := true, laidLooks := .later }
def FnExactWhileTextCardSaid : Prop := Claim7.holds Tryd.pinned (.plain (OpenSpec.ofChange fnExactWhileTextSpec)) fnExactWhileTextCard

/-- THE TIED CARD OF 'laws.FnExactReadWhile'. -/
def fnExactReadWhileCard : Claim7 := { stood := { row := fnExactReadWhileRow, standIns := [], harness := (true, "3b8ec1cad26b27bbc82e23b7f9d231c2ff905af7ab05a66038bd211de77db36d"), looks := false }, kinds := [], alts := [], laidByText := true, laidKinds := [.data, .data, .data], laidTests := true, laidLooks := .later }
def FnExactReadWhileCardSaid : Prop := Claim7.holds Tryd.pinned (.plain (OpenSpec.ofChange fnExactReadWhileSpec)) fnExactReadWhileCard

/-- THE TIED CARD OF 'laws.FnExactStandardWhile'. -/
def fnExactStandardWhileCard : Claim7 := { stood := { row := fnExactStandardWhileRow, standIns := [], harness := (true, "3b8ec1cad26b27bbc82e23b7f9d231c2ff905af7ab05a66038bd211de77db36d"), looks := false }, kinds := [], alts := [], laidByText := true, laidKinds := [.data, .data, .data], laidTests := true, laidLooks := .later }
def FnExactStandardWhileCardSaid : Prop := Claim7.holds Tryd.pinned (.plain (OpenSpec.ofChange fnExactStandardWhileSpec)) fnExactStandardWhileCard

/-- THE SECOND FORM's CARD OF 'laws.FnExactWhileText'. -/
def fnExactWhileTextUptoCard : Claim7 := { stood := { row := fnExactWhileTextUptoRow, standIns := [], harness := (true, "3b8ec1cad26b27bbc82e23b7f9d231c2ff905af7ab05a66038bd211de77db36d"), looks := false }, kinds := [], alts := [], laidByText := true, laidKinds := [.data, .data, .data], laidTests := true, laidLooks := .later }
def FnExactWhileTextUptoCardSaid : Prop := Claim7.holds Tryd.pinned (.plain (OpenSpec.upto fnExactWhileTextSpec)) fnExactWhileTextUptoCard

/-- THE SECOND FORM's CARD OF 'laws.FnExactReadWhile'. -/
def fnExactReadWhileUptoCard : Claim7 := { stood := { row := fnExactReadWhileUptoRow, standIns := [], harness := (true, "3b8ec1cad26b27bbc82e23b7f9d231c2ff905af7ab05a66038bd211de77db36d"), looks := false }, kinds := [], alts := [], laidByText := true, laidKinds := [.data, .data, .data], laidTests := true, laidLooks := .later }
def FnExactReadWhileUptoCardSaid : Prop := Claim7.holds Tryd.pinned (.plain (OpenSpec.upto fnExactReadWhileSpec)) fnExactReadWhileUptoCard

/-- THE SECOND FORM's CARD OF 'laws.FnExactStandardWhile'. -/
def fnExactStandardWhileUptoCard : Claim7 := { stood := { row := fnExactStandardWhileUptoRow, standIns := [], harness := (true, "3b8ec1cad26b27bbc82e23b7f9d231c2ff905af7ab05a66038bd211de77db36d"), looks := false }, kinds := [], alts := [], laidByText := true, laidKinds := [.data, .data, .data], laidTests := true, laidLooks := .later }
def FnExactStandardWhileUptoCardSaid : Prop := Claim7.holds Tryd.pinned (.plain (OpenSpec.upto fnExactStandardWhileSpec)) fnExactStandardWhileUptoCard
end Rows
end Go.Proofs.YtkchgjegdmcnaaaDoor
