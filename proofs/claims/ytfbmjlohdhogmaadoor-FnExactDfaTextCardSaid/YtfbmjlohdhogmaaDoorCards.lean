/-
  DERIVED. GIVEN WITH THE SEED: THE CARDS: each row of YtfbmjlohdhogmaaDoorRows.lean that lists a variable, with what it lists TIED to the program's text (the seventh form; the later family's looks); each row that meets fmt, with fmt's text TOLD by the authors' own Lean function (tested against real Go, not proved from fmt's source: count such statements apart). THE CARD IS WHAT COUNTS. Prove the row's statement (the work); the ties are given (YtfbmjlohdhogmaaDoorTie.lean); close each card by the builder's one call (the guide's Derived/Test/ToyasCard.lean, 'card_holds'). Laid BY PROGRAM, IN A SANDBOX (cutbox-door.mjs). By AI agents, Wed Nov 11 2026. No macro, syntax, notation, axiom, sorry.
-/
import Derived.Test.YtfbmjlohdhogmaaDoorRows
import GoSem.ClaimSeven
namespace Go.Proofs.YtfbmjlohdhogmaaDoor
namespace Rows

/-- THE TIED CARD OF 'laws.FnExactDfaText'. -/
def fnExactDfaTextCard : Claim7 := { stood := { row := fnExactDfaTextRow, standIns := [], harness := (true, "f767d362b5c153e1de87f66dc623b8a7cdc84536d26aa1386bcb5e4ddbdc610d"), looks := false }, kinds := [], alts := [], laidByText := true, laidKinds := [.data, .data, .data], laidTests := true, laidLooks := .later }
def FnExactDfaTextCardSaid : Prop := Claim7.holds Tryd.pinned (.plain (OpenSpec.ofChange fnExactDfaTextSpec)) fnExactDfaTextCard

/-- THE TIED CARD OF 'laws.FnExactPartialText'. -/
def fnExactPartialTextCard : Claim7 := { stood := { row := fnExactPartialTextRow, standIns := [], harness := (true, "f767d362b5c153e1de87f66dc623b8a7cdc84536d26aa1386bcb5e4ddbdc610d"), looks := false }, kinds := [], alts := [], laidByText := true, laidKinds := [.data, .data, .data], laidTests := true, laidLooks := .later }
def FnExactPartialTextCardSaid : Prop := Claim7.holds Tryd.pinned (.plain (OpenSpec.ofChange fnExactPartialTextSpec)) fnExactPartialTextCard

/-- THE TIED CARD OF 'laws.FnExactProofText'. -/
def fnExactProofTextCard : Claim7 := { stood := { row := fnExactProofTextRow, standIns := [], harness := (true, "f767d362b5c153e1de87f66dc623b8a7cdc84536d26aa1386bcb5e4ddbdc610d"), looks := false }, kinds := [], alts := [], laidByText := true, laidKinds := [.data, .data, .data], laidTests := true, laidLooks := .later }
def FnExactProofTextCardSaid : Prop := Claim7.holds Tryd.pinned (.plain (OpenSpec.ofChange fnExactProofTextSpec)) fnExactProofTextCard

/-- THE TIED CARD OF 'laws.FnExactFormulaText'. -/
def fnExactFormulaTextCard : Claim7 := { stood := { row := fnExactFormulaTextRow, standIns := [], harness := (true, "f767d362b5c153e1de87f66dc623b8a7cdc84536d26aa1386bcb5e4ddbdc610d"), looks := false }, kinds := [], alts := [], laidByText := true, laidKinds := [.data, .data, .data], laidTests := true, laidLooks := .later }
def FnExactFormulaTextCardSaid : Prop := Claim7.holds Tryd.pinned (.plain (OpenSpec.ofChange fnExactFormulaTextSpec)) fnExactFormulaTextCard

/-- THE TIED CARD OF 'laws.FnExactWhileText'. -/
def fnExactWhileTextCard : Claim7 := { stood := { row := fnExactWhileTextRow, standIns := [], harness := (true, "f767d362b5c153e1de87f66dc623b8a7cdc84536d26aa1386bcb5e4ddbdc610d"), looks := false }, kinds := [], alts := [], laidByText := true, laidKinds := [.data, .data, .data], laidTests := true, laidLooks := .later }
def FnExactWhileTextCardSaid : Prop := Claim7.holds Tryd.pinned (.plain (OpenSpec.ofChange fnExactWhileTextSpec)) fnExactWhileTextCard

/-- THE SECOND FORM's CARD OF 'laws.FnExactDfaText'. -/
def fnExactDfaTextUptoCard : Claim7 := { stood := { row := fnExactDfaTextUptoRow, standIns := [], harness := (true, "f767d362b5c153e1de87f66dc623b8a7cdc84536d26aa1386bcb5e4ddbdc610d"), looks := false }, kinds := [], alts := [], laidByText := true, laidKinds := [.data, .data, .data], laidTests := true, laidLooks := .later }
def FnExactDfaTextUptoCardSaid : Prop := Claim7.holds Tryd.pinned (.plain (OpenSpec.upto fnExactDfaTextSpec)) fnExactDfaTextUptoCard

/-- THE SECOND FORM's CARD OF 'laws.FnExactPartialText'. -/
def fnExactPartialTextUptoCard : Claim7 := { stood := { row := fnExactPartialTextUptoRow, standIns := [], harness := (true, "f767d362b5c153e1de87f66dc623b8a7cdc84536d26aa1386bcb5e4ddbdc610d"), looks := false }, kinds := [], alts := [], laidByText := true, laidKinds := [.data, .data, .data], laidTests := true, laidLooks := .later }
def FnExactPartialTextUptoCardSaid : Prop := Claim7.holds Tryd.pinned (.plain (OpenSpec.upto fnExactPartialTextSpec)) fnExactPartialTextUptoCard

/-- THE SECOND FORM's CARD OF 'laws.FnExactProofText'. -/
def fnExactProofTextUptoCard : Claim7 := { stood := { row := fnExactProofTextUptoRow, standIns := [], harness := (true, "f767d362b5c153e1de87f66dc623b8a7cdc84536d26aa1386bcb5e4ddbdc610d"), looks := false }, kinds := [], alts := [], laidByText := true, laidKinds := [.data, .data, .data], laidTests := true, laidLooks := .later }
def FnExactProofTextUptoCardSaid : Prop := Claim7.holds Tryd.pinned (.plain (OpenSpec.upto fnExactProofTextSpec)) fnExactProofTextUptoCard

/-- THE SECOND FORM's CARD OF 'laws.FnExactFormulaText'. -/
def fnExactFormulaTextUptoCard : Claim7 := { stood := { row := fnExactFormulaTextUptoRow, standIns := [], harness := (true, "f767d362b5c153e1de87f66dc623b8a7cdc84536d26aa1386bcb5e4ddbdc610d"), looks := false }, kinds := [], alts := [], laidByText := true, laidKinds := [.data, .data, .data], laidTests := true, laidLooks := .later }
def FnExactFormulaTextUptoCardSaid : Prop := Claim7.holds Tryd.pinned (.plain (OpenSpec.upto fnExactFormulaTextSpec)) fnExactFormulaTextUptoCard

/-- THE SECOND FORM's CARD OF 'laws.FnExactWhileText'. -/
def fnExactWhileTextUptoCard : Claim7 := { stood := { row := fnExactWhileTextUptoRow, standIns := [], harness := (true, "f767d362b5c153e1de87f66dc623b8a7cdc84536d26aa1386bcb5e4ddbdc610d"), looks := false }, kinds := [], alts := [], laidByText := true, laidKinds := [.data, .data, .data], laidTests := true, laidLooks := .later }
def FnExactWhileTextUptoCardSaid : Prop := Claim7.holds Tryd.pinned (.plain (OpenSpec.upto fnExactWhileTextSpec)) fnExactWhileTextUptoCard
end Rows
end Go.Proofs.YtfbmjlohdhogmaaDoor
