/-
  The helpers of the laws at slices, in the form of rows.
-/
import Derived.Test.YtkchgjegdmcnaaaDoorSegX
import Derived.Test.YtkchgjegdmcnaaaDoorLawI
namespace Go.Proofs.YtkchgjegdmcnaaaDoor
open Go.RowKit

theorem RdSU.belowB {w w' : World} {B : Nat} {ss : List Seg} (h : RdSU w B ss) (hb : Below B w w') : RdSU w' B ss := fun s hs => ⟨(h s hs).1.belowB (h s hs).2 hb, (h s hs).2⟩
end Go.Proofs.YtkchgjegdmcnaaaDoor
