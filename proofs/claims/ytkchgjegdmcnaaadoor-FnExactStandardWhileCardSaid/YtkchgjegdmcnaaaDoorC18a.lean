/-
  Contracts of chapter 18: numbers put in their places; names and applications of the reference.
-/
import Derived.Test.YtkchgjegdmcnaaaDoorP18c
import Derived.Test.YtkchgjegdmcnaaaDoorC12d
import Derived.Test.YtkchgjegdmcnaaaDoorConcat
import Derived.Test.YtkchgjegdmcnaaaDoorOwnC
namespace Go.Proofs.YtkchgjegdmcnaaaDoor
open Go.RowKit

/-- numbers of the call's own, that may grow -/
def OwnOut (xs : List Int) (w : World) (e : Ending) (w' : World) : Prop := ∃ A c, e = .returned (.slice A xs.length c) ∧ Own w' w.heap.size 2 1 A xs.length c (xs.map i64) ∧ Below w.heap.size w w'
end Go.Proofs.YtkchgjegdmcnaaaDoor
