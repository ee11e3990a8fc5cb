/-
  Contracts of chapter 22: the end of an expression, equal expressions.
-/
import Derived.Test.YtkchgjegdmcnaaaDoorPWf
import Derived.Test.YtkchgjegdmcnaaaDoorCWa
import Derived.Test.YtkchgjegdmcnaaaDoorCWf
namespace Go.Proofs.YtkchgjegdmcnaaaDoor
open Go.RowKit

theorem pair_casesE (a b x y : Int) : ((a, b) = (x, y) ∧ a = x ∧ b = y) ∨ ((a, b) ≠ (x, y) ∧ ((a == x) = false ∨ (a = x ∧ (b == y) = false))) := by
  by_cases ha : a = x
  · by_cases hb : b = y
    · subst ha; subst hb; exact .inl ⟨rfl, rfl, rfl⟩
    · exact .inr ⟨fun e => by injection e with _ e; exact hb e, .inr ⟨ha, by simpa using hb⟩⟩
  · exact .inr ⟨fun e => by injection e with e _; exact ha e, .inl (by simpa using ha)⟩
end Go.Proofs.YtkchgjegdmcnaaaDoor
