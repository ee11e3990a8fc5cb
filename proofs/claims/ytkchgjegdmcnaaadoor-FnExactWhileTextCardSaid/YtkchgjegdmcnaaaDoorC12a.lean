/-
  Contracts of chapter 12: combinator terms of the reference: valid ones, ends, forms.
-/
import Derived.Test.YtkchgjegdmcnaaaDoorP12c
import Derived.Test.YtkchgjegdmcnaaaDoorLawComb
namespace Go.Proofs.YtkchgjegdmcnaaaDoor
open Go.RowKit

end Go.Proofs.YtkchgjegdmcnaaaDoor
