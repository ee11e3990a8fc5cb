/-
  DERIVED. GIVEN WITH THE SEED: THE CARDS: each row of YtebjpmmgdkepjaaGreatDoorRows.lean that lists a variable, with what it lists TIED to the program's text (the seventh form; the later family's looks); each row that meets fmt, with fmt's text TOLD by the authors' own Lean function (tested against real Go, not proved from fmt's source: count such statements apart). THE CARD IS WHAT COUNTS. Prove the row's statement (the work); the ties are given (YtebjpmmgdkepjaaGreatDoorTie.lean); close each card by the builder's one call (the guide's Derived/Test/ToyasCard.lean, 'card_holds'). Laid BY PROGRAM, IN A SANDBOX (cutbox-door.mjs). By AI agents, Wed Nov 11 2026. No macro, syntax, notation, axiom, sorry.
-/
import Derived.Test.YtebjpmmgdkepjaaGreatDoorRows
import GoSem.ClaimSeven
namespace Go.Proofs.YtebjpmmgdkepjaaGreatDoor
namespace Rows

/-- THE TIED CARD OF 'laws.FnNumerals'. -/
def fnNumeralsCard : Claim7 := { stood := { row := fnNumeralsRow, standIns := [], harness := (true, "29612014882f0be6437bfd28712dd942f57e6edb95a04f0d4049b47e12611372"), looks := true }, kinds := [], alts := [], laidByText := true, laidKinds := [.data, .data, .data, .data, .sentinel, .sentinel, .pinned], laidTests := true, laidLooks := .later }
def FnNumeralsCardSaid : Prop := Claim7.holds Tryz.pinned (.plain (OpenSpec.ofChange fnNumeralsSpec)) fnNumeralsCard

/-- THE TIED CARD OF 'laws.FnExactEvalByLam'. -/
def fnExactEvalByLamCard : Claim7 := { stood := { row := fnExactEvalByLamRow, standIns := [], harness := (true, "29612014882f0be6437bfd28712dd942f57e6edb95a04f0d4049b47e12611372"), looks := true }, kinds := [], alts := [], laidByText := true, laidKinds := [.data, .data, .data, .data, .sentinel, .sentinel, .pinned], laidTests := true, laidLooks := .later }
def FnExactEvalByLamCardSaid : Prop := Claim7.holds Tryz.pinned (.plain (OpenSpec.ofChange fnExactEvalByLamSpec)) fnExactEvalByLamCard

/-- THE TIED CARD OF 'laws.FnExactEvalByComb'. -/
def fnExactEvalByCombCard : Claim7 := { stood := { row := fnExactEvalByCombRow, standIns := [], harness := (true, "29612014882f0be6437bfd28712dd942f57e6edb95a04f0d4049b47e12611372"), looks := true }, kinds := [], alts := [], laidByText := true, laidKinds := [.data, .data, .data, .data, .sentinel, .sentinel, .pinned], laidTests := true, laidLooks := .later }
def FnExactEvalByCombCardSaid : Prop := Claim7.holds Tryz.pinned (.plain (OpenSpec.ofChange fnExactEvalByCombSpec)) fnExactEvalByCombCard

/-- THE SECOND FORM's CARD OF 'laws.FnNumerals'. -/
def fnNumeralsUptoCard : Claim7 := { stood := { row := fnNumeralsUptoRow, standIns := [], harness := (true, "29612014882f0be6437bfd28712dd942f57e6edb95a04f0d4049b47e12611372"), looks := true }, kinds := [], alts := [], laidByText := true, laidKinds := [.data, .data, .data, .data, .sentinel, .sentinel, .pinned], laidTests := true, laidLooks := .later }
def FnNumeralsUptoCardSaid : Prop := Claim7.holds Tryz.pinned (.plain (OpenSpec.upto fnNumeralsSpec)) fnNumeralsUptoCard

/-- THE SECOND FORM's CARD OF 'laws.FnExactEvalByLam'. -/
def fnExactEvalByLamUptoCard : Claim7 := { stood := { row := fnExactEvalByLamUptoRow, standIns := [], harness := (true, "29612014882f0be6437bfd28712dd942f57e6edb95a04f0d4049b47e12611372"), looks := true }, kinds := [], alts := [], laidByText := true, laidKinds := [.data, .data, .data, .data, .sentinel, .sentinel, .pinned], laidTests := true, laidLooks := .later }
def FnExactEvalByLamUptoCardSaid : Prop := Claim7.holds Tryz.pinned (.plain (OpenSpec.upto fnExactEvalByLamSpec)) fnExactEvalByLamUptoCard

/-- THE SECOND FORM's CARD OF 'laws.FnExactEvalByComb'. -/
def fnExactEvalByCombUptoCard : Claim7 := { stood := { row := fnExactEvalByCombUptoRow, standIns := [], harness := (true, "29612014882f0be6437bfd28712dd942f57e6edb95a04f0d4049b47e12611372"), looks := true }, kinds := [], alts := [], laidByText := true, laidKinds := [.data, .data, .data, .data, .sentinel, .sentinel, .pinned], laidTests := true, laidLooks := .later }
def FnExactEvalByCombUptoCardSaid : Prop := Claim7.holds Tryz.pinned (.plain (OpenSpec.upto fnExactEvalByCombSpec)) fnExactEvalByCombUptoCard
end Rows
end Go.Proofs.YtebjpmmgdkepjaaGreatDoor
