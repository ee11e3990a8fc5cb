/-
  DERIVED. GIVEN WITH THE SEED: THE CARDS: each row of YtnoapoaajidncaaDoorRows.lean that lists a variable, with what it lists TIED to the program's text (the seventh form; the later family's looks); each row that meets fmt, with fmt's text TOLD by the authors' own Lean function (tested against real Go, not proved from fmt's source: count such statements apart). THE CARD IS WHAT COUNTS. Prove the row's statement (the work); the ties are given (YtnoapoaajidncaaDoorTie.lean); close each card by the builder's one call (the guide's Derived/Test/ToyasCard.lean, 'card_holds'). Laid BY PROGRAM, IN A SANDBOX (cutbox-door.mjs). By AI agents, Wed Nov 11 2026. No macro, syntax, notation, axiom, sorry.
-/
import Derived.Test.YtnoapoaajidncaaDoorRows
import GoSem.ClaimSeven
namespace Go.Proofs.YtnoapoaajidncaaDoor
namespace Rows

/-- THE TIED CARD OF 'laws.FnExactReadFunc'. -/
def fnExactReadFuncCard : Claim7 := { stood := { row := fnExactReadFuncRow, standIns := [], harness := (true, "bb6069fe4fb6f161e0c1e778ffc7999240acc1023db44b3e51f1a71ada3ef8ec"), looks := false }, kinds := [], alts := [], laidByText := true, laidKinds := [.data, .data, .data], laidTests := true, laidLooks := .later }
def FnExactReadFuncCardSaid : Prop := Claim7.holds Tryd.pinned (.plain (OpenSpec.ofChange fnExactReadFuncSpec)) fnExactReadFuncCard

/-- THE TIED CARD OF 'laws.FnExactStandardFunc'. -/
def fnExactStandardFuncCard : Claim7 := { stood := { row := fnExactStandardFuncRow, standIns := [], harness := (true, "bb6069fe4fb6f161e0c1e778ffc7999240acc1023db44b3e51f1a71ada3ef8ec"), looks := false }, kinds := [], alts := [], laidByText := true, laidKinds := [.data, .data, .data], laidTests := true, laidLooks := .later }
def FnExactStandardFuncCardSaid : Prop := Claim7.holds Tryd.pinned (.plain (OpenSpec.ofChange fnExactStandardFuncSpec)) fnExactStandardFuncCard

/-- THE SECOND FORM's CARD OF 'laws.FnExactReadFunc'. -/
def fnExactReadFuncUptoCard : Claim7 := { stood := { row := fnExactReadFuncUptoRow, standIns := [], harness := (true, "bb6069fe4fb6f161e0c1e778ffc7999240acc1023db44b3e51f1a71ada3ef8ec"), looks := false }, kinds := [], alts := [], laidByText := true, laidKinds := [.data, .data, .data], laidTests := true, laidLooks := .later }
def FnExactReadFuncUptoCardSaid : Prop := Claim7.holds Tryd.pinned (.plain (OpenSpec.upto fnExactReadFuncSpec)) fnExactReadFuncUptoCard

/-- THE SECOND FORM's CARD OF 'laws.FnExactStandardFunc'. -/
def fnExactStandardFuncUptoCard : Claim7 := { stood := { row := fnExactStandardFuncUptoRow, standIns := [], harness := (true, "bb6069fe4fb6f161e0c1e778ffc7999240acc1023db44b3e51f1a71ada3ef8ec"), looks := false }, kinds := [], alts := [], laidByText := true, laidKinds := [.data, .data, .data], laidTests := true, laidLooks := .later }
def FnExactStandardFuncUptoCardSaid : Prop := Claim7.holds Tryd.pinned (.plain (OpenSpec.upto fnExactStandardFuncSpec)) fnExactStandardFuncUptoCard
end Rows
end Go.Proofs.YtnoapoaajidncaaDoor
