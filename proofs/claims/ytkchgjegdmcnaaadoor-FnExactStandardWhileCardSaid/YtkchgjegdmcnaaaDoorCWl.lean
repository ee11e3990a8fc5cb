/-
  Contracts of chapter 22: the end of an expression, equal expressions.
-/
import Derived.Test.YtkchgjegdmcnaaaDoorPWf
import Derived.Test.YtkchgjegdmcnaaaDoorCWa
import Derived.Test.YtkchgjegdmcnaaaDoorCWf
import Derived.Test.YtkchgjegdmcnaaaDoorRdx
import Derived.Test.YtkchgjegdmcnaaaDoorCWb
namespace Go.Proofs.YtkchgjegdmcnaaaDoor
open Go.RowKit

theorem pair_casesE (a b x y : Int) : ((a, b) = (x, y) ∧ a = x ∧ b = y) ∨ ((a, b) ≠ (x, y) ∧ ((a == x) = false ∨ (a = x ∧ (b == y) = false))) := by
  by_cases ha : a = x
  · by_cases hb : b = y
    · subst ha; subst hb; exact .inl ⟨rfl, rfl, rfl⟩
    · exact .inr ⟨fun e => by injection e with _ e; exact hb e, .inr ⟨ha, by simpa using hb⟩⟩
  · exact .inr ⟨fun e => by injection e with e _; exact ha e, .inl (by simpa using ha)⟩
/-- an expression that a call hands back to be read -/
def SimOut (F : List (Int × Int)) (w : World) (e : Ending) (w' : World) : Prop := ∃ A m c, e = .returned (.slice A m c) ∧ Rd2 w' A m F ∧ m ≤ c ∧ Below w.heap.size w w'
theorem pickE_head (v vy : Int) (b : List (Int × Int)) : pickE (3, v) ((2, vy) :: b) = b.take (endM b) := by simp [pickE]
theorem pickE_tail (v vy : Int) (b : List (Int × Int)) : pickE (4, v) ((2, vy) :: b) = b.drop (endM b) := by simp [pickE]
end Go.Proofs.YtkchgjegdmcnaaaDoor
