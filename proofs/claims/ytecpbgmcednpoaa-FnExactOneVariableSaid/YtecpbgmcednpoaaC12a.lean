/-
  Contracts of chapter 12: combinator terms of the reference: valid ones, ends, forms.
-/
import Derived.Test.YtecpbgmcednpoaaP12c
import Derived.Test.YtecpbgmcednpoaaLawComb
namespace Go.Proofs.Ytecpbgmcednpoaa
open Go.RowKit

end Go.Proofs.Ytecpbgmcednpoaa
