/-
  No cell of these rows narrows 'for every input' (looked for: loops, veiled, ifaces, maps, wideKeys, modest, calm, conditions, laid).
  DERIVED. THE GIVEN ROWS OF THIS SEAT. 3 by the template 'for every input the law returns true; each argument reads behind the call as it read before'; 0 by the template 'total and deterministic' (their statements: YtcbcjhfeidkeaaaTotals.lean).
  GIVEN WITH THE SEED: the statements are not yours to turn. If you find one false, say at which input.
  Laid BY PROGRAM, IN A SANDBOX (cutbox-rows.mjs): the forced cells as the released guide's own fill.sh prints them over the translation f20ae3bf72637742… (all of the seat's roots in one cut). By AI agents, Wed Nov 11 2026. No macro, syntax, notation, axiom, sorry.
-/
import Derived.Test.YtcbcjhfeidkeaaaChecked
import GoSem.Claim
import GoSem.ClaimJoined
import GoSem.ClaimMapViews
import Derived.JoinedTies
import Derived.KernelRfl
namespace Go.Proofs.Ytcbcjhfeidkeaaa
/- THE CELL 'sum', in the pinned program and in every row, IS THE sha256 OF THE DUMP (.gsa) THAT YtcbcjhfeidkeaaaProg.lean LOADS. Nothing in Lean hashes anything: it is a label: what it is worth is what the hold of that sum in a sandbox is worth. -/
noncomputable def Try.pinned : Pinned := { name := "ytcbcjhfeidkeaaa", sum := "f20ae3bf726377422b0647788259dc95100ec569a50bb3ff9cd064d7170d1e66", checked := Try.checked }
namespace Rows
def none {H : Type} : Left H := { results := [], args := [] }

/-- 'laws.FnExactRunByMarkov': WHATEVER THE INPUT: true; the input reads as it did. -/
def fnExactRunByMarkovSpec : ChangeSpec := { name := "fnExactRunByMarkov", fn := fun _ => fun
  | [d1, d2, d3] => { results := [.lit (.bool true)], args := [d1, d2, d3] }
  | _ => none }
def fnExactRunByMarkovRow : OpenClaim := { program := "ytcbcjhfeidkeaaa", sum := "f20ae3bf726377422b0647788259dc95100ec569a50bb3ff9cd064d7170d1e66", func := "loop.example/g01079/laws.FnExactRunByMarkov", spec := "fnExactRunByMarkov", unfollowed := true, recurses := true, apart := false }
def FnExactRunByMarkovSaid : Prop := fnExactRunByMarkovRow.holds Try.pinned (OpenSpec.ofChange fnExactRunByMarkovSpec)

/-- ITS FALSE NEIGHBOUR: 'it returns false'. Refute it at one input. -/
def fnExactRunByMarkovWrong : ChangeSpec := { name := "fnExactRunByMarkov", fn := fun _ => fun
  | [d1, d2, d3] => { results := [.lit (.bool false)], args := [d1, d2, d3] }
  | _ => none }
def FnExactRunByMarkovWrongFalsely : Prop := fnExactRunByMarkovRow.holds Try.pinned (OpenSpec.ofChange fnExactRunByMarkovWrong)

/-- 'laws.FnExactRunByRewrites': WHATEVER THE INPUT: true; the input reads as it did. -/
def fnExactRunByRewritesSpec : ChangeSpec := { name := "fnExactRunByRewrites", fn := fun _ => fun
  | [d1, d2, d3] => { results := [.lit (.bool true)], args := [d1, d2, d3] }
  | _ => none }
def fnExactRunByRewritesRow : OpenClaim := { program := "ytcbcjhfeidkeaaa", sum := "f20ae3bf726377422b0647788259dc95100ec569a50bb3ff9cd064d7170d1e66", func := "loop.example/g01079/laws.FnExactRunByRewrites", spec := "fnExactRunByRewrites", unfollowed := true, recurses := true, apart := false }
def FnExactRunByRewritesSaid : Prop := fnExactRunByRewritesRow.holds Try.pinned (OpenSpec.ofChange fnExactRunByRewritesSpec)

/-- ITS FALSE NEIGHBOUR: 'it returns false'. Refute it at one input. -/
def fnExactRunByRewritesWrong : ChangeSpec := { name := "fnExactRunByRewrites", fn := fun _ => fun
  | [d1, d2, d3] => { results := [.lit (.bool false)], args := [d1, d2, d3] }
  | _ => none }
def FnExactRunByRewritesWrongFalsely : Prop := fnExactRunByRewritesRow.holds Try.pinned (OpenSpec.ofChange fnExactRunByRewritesWrong)

/-- 'laws.FnExactDerivationOfRun': WHATEVER THE INPUT: true; the input reads as it did. -/
def fnExactDerivationOfRunSpec : ChangeSpec := { name := "fnExactDerivationOfRun", fn := fun _ => fun
  | [d1, d2, d3] => { results := [.lit (.bool true)], args := [d1, d2, d3] }
  | _ => none }
def fnExactDerivationOfRunRow : OpenClaim := { program := "ytcbcjhfeidkeaaa", sum := "f20ae3bf726377422b0647788259dc95100ec569a50bb3ff9cd064d7170d1e66", func := "loop.example/g01079/laws.FnExactDerivationOfRun", spec := "fnExactDerivationOfRun", unfollowed := true, recurses := true, apart := false }
def FnExactDerivationOfRunSaid : Prop := fnExactDerivationOfRunRow.holds Try.pinned (OpenSpec.ofChange fnExactDerivationOfRunSpec)

/-- ITS FALSE NEIGHBOUR: 'it returns false'. Refute it at one input. -/
def fnExactDerivationOfRunWrong : ChangeSpec := { name := "fnExactDerivationOfRun", fn := fun _ => fun
  | [d1, d2, d3] => { results := [.lit (.bool false)], args := [d1, d2, d3] }
  | _ => none }
def FnExactDerivationOfRunWrongFalsely : Prop := fnExactDerivationOfRunRow.holds Try.pinned (OpenSpec.ofChange fnExactDerivationOfRunWrong)

/- THE SECOND FORM. 'bulk': how many values and letters a reading holds, each counted each time it is reached (what is shared counts as often as it is met; a slice's spare places count too). A statement '..UptoSaid' is the law's where the arguments, and the package variables that the reading takes, are together of bulk at most 1048576: NARROWER than '..Said'. Prove '..Said' where nothing that the law and all that it calls make is longer than what came in: it says more and counts as full. Else prove '..UptoSaid'. A law counts once. -/
mutual
def uptoBulk {H : Type} : DataW H → Nat
  | .lit (.string bytes) => bytes.length + 1
  | .lit _ => 1
  | .nil => 1
  | .ptr d => uptoBulk d + 1
  | .slice elems spare => uptoBulkAll elems + uptoBulkAll spare + 1
  | .agg parts => uptoBulkAll parts + 1
  | .iface _ d => uptoBulk d + 1
  | .map entries => uptoBulkEntries entries + 1
  | .held _ => 1
def uptoBulkAll {H : Type} : List (DataW H) → Nat
  | [] => 0
  | d :: r => uptoBulk d + uptoBulkAll r
def uptoBulkEntries {H : Type} : List (Lit × DataW H) → Nat
  | [] => 0
  | x :: r => uptoBulkEntry x + uptoBulkEntries r
def uptoBulkEntry {H : Type} : Lit × DataW H → Nat
  | (.string bytes, d) => bytes.length + uptoBulk d + 1
  | (_, d) => uptoBulk d + 1
 end
def uptoSmall : (H : Type) → List (DataW H) → Bool := fun _ ds => decide (uptoBulkAll ds ≤ 1048576)
def OpenSpec.upto (s : _root_.Go.ChangeSpec) : _root_.Go.OpenSpec := { _root_.Go.OpenSpec.ofChange s with cond := some uptoSmall }

/-- 'laws.FnExactRunByMarkov', WHERE WHAT IT READS IS OF BULK AT MOST 1048576: true; the input reads as it did. -/
def fnExactRunByMarkovUptoRow : OpenClaim := { program := "ytcbcjhfeidkeaaa", sum := "f20ae3bf726377422b0647788259dc95100ec569a50bb3ff9cd064d7170d1e66", func := "loop.example/g01079/laws.FnExactRunByMarkov", spec := "fnExactRunByMarkov", unfollowed := true, recurses := true, apart := false, narrowed := true }
def FnExactRunByMarkovUptoSaid : Prop := fnExactRunByMarkovUptoRow.holds Try.pinned (OpenSpec.upto fnExactRunByMarkovSpec)

/-- 'laws.FnExactRunByRewrites', WHERE WHAT IT READS IS OF BULK AT MOST 1048576: true; the input reads as it did. -/
def fnExactRunByRewritesUptoRow : OpenClaim := { program := "ytcbcjhfeidkeaaa", sum := "f20ae3bf726377422b0647788259dc95100ec569a50bb3ff9cd064d7170d1e66", func := "loop.example/g01079/laws.FnExactRunByRewrites", spec := "fnExactRunByRewrites", unfollowed := true, recurses := true, apart := false, narrowed := true }
def FnExactRunByRewritesUptoSaid : Prop := fnExactRunByRewritesUptoRow.holds Try.pinned (OpenSpec.upto fnExactRunByRewritesSpec)

/-- 'laws.FnExactDerivationOfRun', WHERE WHAT IT READS IS OF BULK AT MOST 1048576: true; the input reads as it did. -/
def fnExactDerivationOfRunUptoRow : OpenClaim := { program := "ytcbcjhfeidkeaaa", sum := "f20ae3bf726377422b0647788259dc95100ec569a50bb3ff9cd064d7170d1e66", func := "loop.example/g01079/laws.FnExactDerivationOfRun", spec := "fnExactDerivationOfRun", unfollowed := true, recurses := true, apart := false, narrowed := true }
def FnExactDerivationOfRunUptoSaid : Prop := fnExactDerivationOfRunUptoRow.holds Try.pinned (OpenSpec.upto fnExactDerivationOfRunSpec)

end Rows
end Go.Proofs.Ytcbcjhfeidkeaaa
