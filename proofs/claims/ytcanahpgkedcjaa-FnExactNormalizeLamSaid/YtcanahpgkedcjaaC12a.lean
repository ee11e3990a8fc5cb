/-
  Contracts of chapter 12: combinator terms of the reference: valid ones, ends, forms.
-/
import Derived.Test.YtcanahpgkedcjaaP12c
import Derived.Test.YtcanahpgkedcjaaLawComb
namespace Go.Proofs.Ytcanahpgkedcjaa
open Go.RowKit

end Go.Proofs.Ytcanahpgkedcjaa
