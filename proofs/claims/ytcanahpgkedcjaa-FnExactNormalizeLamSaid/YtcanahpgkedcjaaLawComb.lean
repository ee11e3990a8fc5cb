/-
  The helpers of the laws at []Comb: sizes, copies, comparisons, marks.
-/
import Derived.Test.YtcanahpgkedcjaaSegX
namespace Go.Proofs.Ytcanahpgkedcjaa
open Go.RowKit

end Go.Proofs.Ytcanahpgkedcjaa
