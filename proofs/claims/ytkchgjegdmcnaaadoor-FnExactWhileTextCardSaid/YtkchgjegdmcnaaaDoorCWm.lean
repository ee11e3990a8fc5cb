/-
  Contracts of chapter 22: a simplified expression of the reference.
-/
import Derived.Test.YtkchgjegdmcnaaaDoorCWl
import Derived.Test.YtkchgjegdmcnaaaDoorRdx
import Derived.Test.YtkchgjegdmcnaaaDoorCWb
namespace Go.Proofs.YtkchgjegdmcnaaaDoor
open Go.RowKit

/-- an expression that a call hands back to be read -/
def SimOut (F : List (Int × Int)) (w : World) (e : Ending) (w' : World) : Prop := ∃ A m c, e = .returned (.slice A m c) ∧ Rd2 w' A m F ∧ m ≤ c ∧ Below w.heap.size w w'
theorem pickE_head (v vy : Int) (b : List (Int × Int)) : pickE (3, v) ((2, vy) :: b) = b.take (endM b) := by simp [pickE]
theorem pickE_tail (v vy : Int) (b : List (Int × Int)) : pickE (4, v) ((2, vy) :: b) = b.drop (endM b) := by simp [pickE]
end Go.Proofs.YtkchgjegdmcnaaaDoor
