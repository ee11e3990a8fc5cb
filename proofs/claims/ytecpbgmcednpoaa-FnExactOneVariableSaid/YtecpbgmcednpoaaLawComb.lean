/-
  The helpers of the laws at []Comb: sizes, copies, comparisons, marks.
-/
import Derived.Test.YtecpbgmcednpoaaSegX
namespace Go.Proofs.Ytecpbgmcednpoaa
open Go.RowKit

end Go.Proofs.Ytecpbgmcednpoaa
