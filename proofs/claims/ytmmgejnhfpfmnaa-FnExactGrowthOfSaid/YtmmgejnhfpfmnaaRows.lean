/-
  No cell of these rows narrows 'for every input' (looked for: loops, veiled, ifaces, maps, wideKeys, modest, calm, conditions, laid).
  DERIVED. THE GIVEN ROWS OF THIS SEAT. 5 by the template 'for every input the law returns true; each argument reads behind the call as it read before'; 0 by the template 'total and deterministic' (their statements: YtmmgejnhfpfmnaaTotals.lean).
  GIVEN WITH THE SEED: the statements are not yours to turn. If you find one false, say at which input.
  Laid BY PROGRAM, IN A SANDBOX (cutbox-rows.mjs): the forced cells as the released guide's own fill.sh prints them over the translation a435e0c71b11a124… (all of the seat's roots in one cut). By AI agents, Wed Nov 11 2026. No macro, syntax, notation, axiom, sorry.
-/
import Derived.Test.YtmmgejnhfpfmnaaChecked
import GoSem.Claim
import GoSem.ClaimJoined
import GoSem.ClaimMapViews
import Derived.JoinedTies
import Derived.KernelRfl
namespace Go.Proofs.Ytmmgejnhfpfmnaa
/- THE CELL 'sum', in the pinned program and in every row, IS THE sha256 OF THE DUMP (.gsa) THAT YtmmgejnhfpfmnaaProg.lean LOADS. Nothing in Lean hashes anything: it is a label: what it is worth is what the hold of that sum in a sandbox is worth. -/
noncomputable def Try.pinned : Pinned := { name := "ytmmgejnhfpfmnaa", sum := "a435e0c71b11a1245c689a01e90e5550790fae3eec28bf5a47f7106425fffa00", checked := Try.checked }
namespace Rows
def none {H : Type} : Left H := { results := [], args := [] }

/-- 'laws.FnExactRepeatsIn': WHATEVER THE INPUT: true; the input reads as it did. -/
def fnExactRepeatsInSpec : ChangeSpec := { name := "fnExactRepeatsIn", fn := fun _ => fun
  | [d1, d2, d3, d4, d5] => { results := [.lit (.bool true)], args := [d1, d2, d3, d4, d5] }
  | _ => none }
def fnExactRepeatsInRow : OpenClaim := { program := "ytmmgejnhfpfmnaa", sum := "a435e0c71b11a1245c689a01e90e5550790fae3eec28bf5a47f7106425fffa00", func := "loop.example/g01079/laws.FnExactRepeatsIn", spec := "fnExactRepeatsIn", unfollowed := true, recurses := true, plainKeys := false, apart := false }
def FnExactRepeatsInSaid : Prop := fnExactRepeatsInRow.holds Try.pinned (OpenSpec.ofChange fnExactRepeatsInSpec)

/-- ITS FALSE NEIGHBOUR: 'it returns false'. Refute it at one input. -/
def fnExactRepeatsInWrong : ChangeSpec := { name := "fnExactRepeatsIn", fn := fun _ => fun
  | [d1, d2, d3, d4, d5] => { results := [.lit (.bool false)], args := [d1, d2, d3, d4, d5] }
  | _ => none }
def FnExactRepeatsInWrongFalsely : Prop := fnExactRepeatsInRow.holds Try.pinned (OpenSpec.ofChange fnExactRepeatsInWrong)

/-- 'laws.FnExactAbstractClosure': WHATEVER THE INPUT: true; the input reads as it did. -/
def fnExactAbstractClosureSpec : ChangeSpec := { name := "fnExactAbstractClosure", fn := fun _ => fun
  | [d1, d2, d3] => { results := [.lit (.bool true)], args := [d1, d2, d3] }
  | _ => none }
def fnExactAbstractClosureRow : OpenClaim := { program := "ytmmgejnhfpfmnaa", sum := "a435e0c71b11a1245c689a01e90e5550790fae3eec28bf5a47f7106425fffa00", func := "loop.example/g01079/laws.FnExactAbstractClosure", spec := "fnExactAbstractClosure", unfollowed := true, recurses := true, plainKeys := false, apart := false }
def FnExactAbstractClosureSaid : Prop := fnExactAbstractClosureRow.holds Try.pinned (OpenSpec.ofChange fnExactAbstractClosureSpec)

/-- ITS FALSE NEIGHBOUR: 'it returns false'. Refute it at one input. -/
def fnExactAbstractClosureWrong : ChangeSpec := { name := "fnExactAbstractClosure", fn := fun _ => fun
  | [d1, d2, d3] => { results := [.lit (.bool false)], args := [d1, d2, d3] }
  | _ => none }
def FnExactAbstractClosureWrongFalsely : Prop := fnExactAbstractClosureRow.holds Try.pinned (OpenSpec.ofChange fnExactAbstractClosureWrong)

/-- 'laws.FnExactFormulaAt': WHATEVER THE INPUT: true; the input reads as it did. -/
def fnExactFormulaAtSpec : ChangeSpec := { name := "fnExactFormulaAt", fn := fun _ => fun
  | [d1, d2, d3] => { results := [.lit (.bool true)], args := [d1, d2, d3] }
  | _ => none }
def fnExactFormulaAtRow : OpenClaim := { program := "ytmmgejnhfpfmnaa", sum := "a435e0c71b11a1245c689a01e90e5550790fae3eec28bf5a47f7106425fffa00", func := "loop.example/g01079/laws.FnExactFormulaAt", spec := "fnExactFormulaAt", unfollowed := true, recurses := true, plainKeys := false, apart := false }
def FnExactFormulaAtSaid : Prop := fnExactFormulaAtRow.holds Try.pinned (OpenSpec.ofChange fnExactFormulaAtSpec)

/-- ITS FALSE NEIGHBOUR: 'it returns false'. Refute it at one input. -/
def fnExactFormulaAtWrong : ChangeSpec := { name := "fnExactFormulaAt", fn := fun _ => fun
  | [d1, d2, d3] => { results := [.lit (.bool false)], args := [d1, d2, d3] }
  | _ => none }
def FnExactFormulaAtWrongFalsely : Prop := fnExactFormulaAtRow.holds Try.pinned (OpenSpec.ofChange fnExactFormulaAtWrong)

/-- 'laws.FnExactNormalFormula': WHATEVER THE INPUT: true; the input reads as it did. -/
def fnExactNormalFormulaSpec : ChangeSpec := { name := "fnExactNormalFormula", fn := fun _ => fun
  | [d1, d2] => { results := [.lit (.bool true)], args := [d1, d2] }
  | _ => none }
def fnExactNormalFormulaRow : OpenClaim := { program := "ytmmgejnhfpfmnaa", sum := "a435e0c71b11a1245c689a01e90e5550790fae3eec28bf5a47f7106425fffa00", func := "loop.example/g01079/laws.FnExactNormalFormula", spec := "fnExactNormalFormula", unfollowed := true, recurses := true, plainKeys := false, apart := false }
def FnExactNormalFormulaSaid : Prop := fnExactNormalFormulaRow.holds Try.pinned (OpenSpec.ofChange fnExactNormalFormulaSpec)

/-- ITS FALSE NEIGHBOUR: 'it returns false'. Refute it at one input. -/
def fnExactNormalFormulaWrong : ChangeSpec := { name := "fnExactNormalFormula", fn := fun _ => fun
  | [d1, d2] => { results := [.lit (.bool false)], args := [d1, d2] }
  | _ => none }
def FnExactNormalFormulaWrongFalsely : Prop := fnExactNormalFormulaRow.holds Try.pinned (OpenSpec.ofChange fnExactNormalFormulaWrong)

/-- 'laws.FnExactGrowthOf': WHATEVER THE INPUT: true; the input reads as it did. -/
def fnExactGrowthOfSpec : ChangeSpec := { name := "fnExactGrowthOf", fn := fun _ => fun
  | [d1, d2, d3] => { results := [.lit (.bool true)], args := [d1, d2, d3] }
  | _ => none }
def fnExactGrowthOfRow : OpenClaim := { program := "ytmmgejnhfpfmnaa", sum := "a435e0c71b11a1245c689a01e90e5550790fae3eec28bf5a47f7106425fffa00", func := "loop.example/g01079/laws.FnExactGrowthOf", spec := "fnExactGrowthOf", unfollowed := true, recurses := true, plainKeys := false, apart := false }
def FnExactGrowthOfSaid : Prop := fnExactGrowthOfRow.holds Try.pinned (OpenSpec.ofChange fnExactGrowthOfSpec)

/-- ITS FALSE NEIGHBOUR: 'it returns false'. Refute it at one input. -/
def fnExactGrowthOfWrong : ChangeSpec := { name := "fnExactGrowthOf", fn := fun _ => fun
  | [d1, d2, d3] => { results := [.lit (.bool false)], args := [d1, d2, d3] }
  | _ => none }
def FnExactGrowthOfWrongFalsely : Prop := fnExactGrowthOfRow.holds Try.pinned (OpenSpec.ofChange fnExactGrowthOfWrong)

/- THE SECOND FORM. 'bulk': how many values and letters a reading holds, each counted each time it is reached (what is shared counts as often as it is met; a slice's spare places count too). A statement '..UptoSaid' is the law's where the arguments, and the package variables that the reading takes, are together of bulk at most 1048576: NARROWER than '..Said'. Prove '..Said' where nothing that the law and all that it calls make is longer than what came in: it says more and counts as full. Else prove '..UptoSaid'. A law counts once. -/
mutual
def uptoBulk {H : Type} : DataW H → Nat
  | .lit (.string bytes) => bytes.length + 1
  | .lit _ => 1
  | .nil => 1
  | .ptr d => uptoBulk d + 1
  | .slice elems spare => uptoBulkAll elems + uptoBulkAll spare + 1
  | .agg parts => uptoBulkAll parts + 1
  | .iface _ d => uptoBulk d + 1
  | .map entries => uptoBulkEntries entries + 1
  | .held _ => 1
def uptoBulkAll {H : Type} : List (DataW H) → Nat
  | [] => 0
  | d :: r => uptoBulk d + uptoBulkAll r
def uptoBulkEntries {H : Type} : List (Lit × DataW H) → Nat
  | [] => 0
  | x :: r => uptoBulkEntry x + uptoBulkEntries r
def uptoBulkEntry {H : Type} : Lit × DataW H → Nat
  | (.string bytes, d) => bytes.length + uptoBulk d + 1
  | (_, d) => uptoBulk d + 1
 end
def uptoSmall : (H : Type) → List (DataW H) → Bool := fun _ ds => decide (uptoBulkAll ds ≤ 1048576)
def OpenSpec.upto (s : _root_.Go.ChangeSpec) : _root_.Go.OpenSpec := { _root_.Go.OpenSpec.ofChange s with cond := some uptoSmall }

/-- 'laws.FnExactRepeatsIn', WHERE WHAT IT READS IS OF BULK AT MOST 1048576: true; the input reads as it did. -/
def fnExactRepeatsInUptoRow : OpenClaim := { program := "ytmmgejnhfpfmnaa", sum := "a435e0c71b11a1245c689a01e90e5550790fae3eec28bf5a47f7106425fffa00", func := "loop.example/g01079/laws.FnExactRepeatsIn", spec := "fnExactRepeatsIn", unfollowed := true, recurses := true, plainKeys := false, apart := false, narrowed := true }
def FnExactRepeatsInUptoSaid : Prop := fnExactRepeatsInUptoRow.holds Try.pinned (OpenSpec.upto fnExactRepeatsInSpec)

/-- 'laws.FnExactAbstractClosure', WHERE WHAT IT READS IS OF BULK AT MOST 1048576: true; the input reads as it did. -/
def fnExactAbstractClosureUptoRow : OpenClaim := { program := "ytmmgejnhfpfmnaa", sum := "a435e0c71b11a1245c689a01e90e5550790fae3eec28bf5a47f7106425fffa00", func := "loop.example/g01079/laws.FnExactAbstractClosure", spec := "fnExactAbstractClosure", unfollowed := true, recurses := true, plainKeys := false, apart := false, narrowed := true }
def FnExactAbstractClosureUptoSaid : Prop := fnExactAbstractClosureUptoRow.holds Try.pinned (OpenSpec.upto fnExactAbstractClosureSpec)

/-- 'laws.FnExactFormulaAt', WHERE WHAT IT READS IS OF BULK AT MOST 1048576: true; the input reads as it did. -/
def fnExactFormulaAtUptoRow : OpenClaim := { program := "ytmmgejnhfpfmnaa", sum := "a435e0c71b11a1245c689a01e90e5550790fae3eec28bf5a47f7106425fffa00", func := "loop.example/g01079/laws.FnExactFormulaAt", spec := "fnExactFormulaAt", unfollowed := true, recurses := true, plainKeys := false, apart := false, narrowed := true }
def FnExactFormulaAtUptoSaid : Prop := fnExactFormulaAtUptoRow.holds Try.pinned (OpenSpec.upto fnExactFormulaAtSpec)

/-- 'laws.FnExactNormalFormula', WHERE WHAT IT READS IS OF BULK AT MOST 1048576: true; the input reads as it did. -/
def fnExactNormalFormulaUptoRow : OpenClaim := { program := "ytmmgejnhfpfmnaa", sum := "a435e0c71b11a1245c689a01e90e5550790fae3eec28bf5a47f7106425fffa00", func := "loop.example/g01079/laws.FnExactNormalFormula", spec := "fnExactNormalFormula", unfollowed := true, recurses := true, plainKeys := false, apart := false, narrowed := true }
def FnExactNormalFormulaUptoSaid : Prop := fnExactNormalFormulaUptoRow.holds Try.pinned (OpenSpec.upto fnExactNormalFormulaSpec)

/-- 'laws.FnExactGrowthOf', WHERE WHAT IT READS IS OF BULK AT MOST 1048576: true; the input reads as it did. -/
def fnExactGrowthOfUptoRow : OpenClaim := { program := "ytmmgejnhfpfmnaa", sum := "a435e0c71b11a1245c689a01e90e5550790fae3eec28bf5a47f7106425fffa00", func := "loop.example/g01079/laws.FnExactGrowthOf", spec := "fnExactGrowthOf", unfollowed := true, recurses := true, plainKeys := false, apart := false, narrowed := true }
def FnExactGrowthOfUptoSaid : Prop := fnExactGrowthOfUptoRow.holds Try.pinned (OpenSpec.upto fnExactGrowthOfSpec)

end Rows
end Go.Proofs.Ytmmgejnhfpfmnaa
