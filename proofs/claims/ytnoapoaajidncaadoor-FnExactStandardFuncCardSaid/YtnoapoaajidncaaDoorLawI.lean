/-
  The helpers of the laws at []int64: copy, compare, mark, look at the marks, count. For every slice within 2^40 elements.
-/
import Derived.Test.YtnoapoaajidncaaDoorProg
import Derived.Test.YtnoapoaajidncaaDoorC01
import Derived.WalkKit
import Derived.WalkLawsBesides
import Derived.WalkSpells
import Derived.Deep.QuietTactic
import Derived.BigQuiet
namespace Go.Proofs.YtnoapoaajidncaaDoor
open Go.RowKit



def szOf (left : Int) (n : Nat) : Int := if left - n < 0 then -1 else left - n
theorem szOf_neg' {left : Int} {n : Nat} (h : left < (n : Int)) : szOf left n = -1 := by unfold szOf; rw [if_pos (by omega)]
theorem szOf_pos' {left : Int} {n : Nat} (h : (n : Int) ≤ left) : szOf left n = left - n := by unfold szOf; rw [if_neg (by omega)]
def eqL (xs ys : List Int) : Bool := decide (xs = ys)

end Go.Proofs.YtnoapoaajidncaaDoor
