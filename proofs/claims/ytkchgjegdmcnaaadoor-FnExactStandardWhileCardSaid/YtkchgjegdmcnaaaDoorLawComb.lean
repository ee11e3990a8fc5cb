/-
  The helpers of the laws at []Comb: sizes, copies, comparisons, marks.
-/
import Derived.Test.YtkchgjegdmcnaaaDoorSegX
namespace Go.Proofs.YtkchgjegdmcnaaaDoor
open Go.RowKit

end Go.Proofs.YtkchgjegdmcnaaaDoor
