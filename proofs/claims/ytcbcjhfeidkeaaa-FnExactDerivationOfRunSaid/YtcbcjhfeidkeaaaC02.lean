/-
  Contracts of chapter 2 (naturals), first part: which lists are naturals.
-/
import Derived.Test.YtcbcjhfeidkeaaaC01
import Derived.Test.YtcbcjhfeidkeaaaApp
namespace Go.Proofs.Ytcbcjhfeidkeaaa
open Go.RowKit

def lastN (xs : List Int) : Bool := match xs.getLast? with | none => true | some x => x != 0
def natB (xs : List Int) : Bool := decide (xs.length ≤ 40) && (allB 0 999999 xs && lastN xs)
theorem lastN_at {xs : List Int} {x : Int} {n : Nat} (hn : xs.length = n) (_hn0 : 0 < n) (h : xs[n - 1]? = some x) : lastN xs = (x != 0) := by
  have : xs.getLast? = some x := by rw [List.getLast?_eq_getElem?, hn, h]
  simp [lastN, this]
theorem lastN_nil : lastN [] = true := rfl

end Go.Proofs.Ytcbcjhfeidkeaaa
