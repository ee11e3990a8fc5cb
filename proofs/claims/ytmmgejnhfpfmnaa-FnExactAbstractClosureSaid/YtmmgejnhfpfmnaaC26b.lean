/-
  Contracts of chapter 26: MatchesPartial.
-/
import Derived.Test.YtmmgejnhfpfmnaaC26
import Derived.Test.YtmmgejnhfpfmnaaC05c
namespace Go.Proofs.Ytmmgejnhfpfmnaa
open Go.RowKit

/-- the symbol at a distance from the head -/
def cellD (xs ys : List Int) (d : Int) : Int := if d < 0 then xs.getD (-1 - d).toNat 0 else ys.getD d.toNat 0
def mfrom (xs ys : List Int) (a : Int) : Nat → List Int → Bool
  | _, [] => true
  | k, x :: l => (cellD xs ys ((k : Int) - a) == x) && mfrom xs ys a (k + 1) l
def mpB (sy st : Int) (rs : List Rule3) (s a : Int) (cs : List Int) (t : Int) (xs ys : List Int) : Bool := vpartB sy st rs s a cs && confB sy st t xs ys && (t == s) && mfrom xs ys a 0 cs

end Go.Proofs.Ytmmgejnhfpfmnaa
