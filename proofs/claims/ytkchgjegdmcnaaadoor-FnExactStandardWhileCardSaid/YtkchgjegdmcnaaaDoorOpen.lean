/-
  How the laws' arguments read: each type's value and what its memory holds.
-/
import Derived.Test.YtkchgjegdmcnaaaDoorProg
import Derived.Test.YtkchgjegdmcnaaaDoorBase
import Derived.ProofKit
import Derived.OpenShut
import Derived.Lib.SmallJoins
namespace Go.Proofs.YtkchgjegdmcnaaaDoor
open Go.ChangeShapes Go.WideShapes Go.ChangeAt Go.RowKit Go.Joins

def i64ok (x : Int) : Prop := -9223372036854775808 ≤ x ∧ x ≤ 9223372036854775807
theorem i64ok_of {x : Int} (h : (Lit.int .i64 x).wf = true) : i64ok x := by
  have := bounds_i64 h
  unfold i64ok; omega

section
variable {H : Type} {enc : TypeId × Value → H} {W : World} {fuel : Nat} {y : DataW H × List MemPlace}

theorem trod_I64 {c : Value} (h : DataW.trod enc Tryd.prog W 0 (fun _ => true) true fuel 2 [c] = some y) : ∃ x, c = .int .i64 x ∧ i64ok x := by
  obtain ⟨x, e, _, hw⟩ := DataW.trod_int Tryd.underlying2 h
  injection e with e
  exact ⟨x, e, i64ok_of hw⟩

end

section
variable {H : Type} {enc : TypeId × Value → H} {W : World} {base : Nat} {v : Value} {d : DataW H} {p : List MemPlace}


end
end Go.Proofs.YtkchgjegdmcnaaaDoor
