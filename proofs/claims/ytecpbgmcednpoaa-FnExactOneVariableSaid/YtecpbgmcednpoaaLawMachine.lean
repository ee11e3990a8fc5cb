/-
  The helpers of the laws at Machine: sizes, copies, comparisons, marks.
-/
import Derived.Test.YtecpbgmcednpoaaSegI
import Derived.Test.YtecpbgmcednpoaaLawRule
namespace Go.Proofs.Ytecpbgmcednpoaa
open Go.RowKit

/-- the rows of a Machine -/
def sgMachine (A0 : Option Addr) (n0 : Nat) (xs0 : List (Int × Int × Int)) : List Seg := [sgX enc3 3 A0 n0 xs0]
/-- .. and marked from k0 on -/
def mgMachine (A0 : Option Addr) (n0 : Nat) (_xs0 : List (Int × Int × Int)) (k0 : Int) : List Seg := [⟨A0, n0 * 3, (marks (k0) (n0 * 3)).map i64⟩]
end Go.Proofs.Ytecpbgmcednpoaa
