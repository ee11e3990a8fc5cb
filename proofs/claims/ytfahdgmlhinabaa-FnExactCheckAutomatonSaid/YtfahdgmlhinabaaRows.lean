/-
  No cell of these rows narrows 'for every input' (looked for: loops, veiled, ifaces, maps, wideKeys, modest, calm, conditions, laid).
  DERIVED. THE GIVEN ROWS OF THIS SEAT. 7 by the template 'for every input the law returns true; each argument reads behind the call as it read before'; 0 by the template 'total and deterministic' (their statements: YtfahdgmlhinabaaTotals.lean).
  GIVEN WITH THE SEED: the statements are not yours to turn. If you find one false, say at which input.
  Laid BY PROGRAM, IN A SANDBOX (cutbox-rows.mjs): the forced cells as the released guide's own fill.sh prints them over the translation e7c04725d93de7a5… (all of the seat's roots in one cut). By AI agents, Wed Nov 11 2026. No macro, syntax, notation, axiom, sorry.
-/
import Derived.Test.YtfahdgmlhinabaaChecked
import GoSem.Claim
import GoSem.ClaimJoined
import GoSem.ClaimMapViews
import Derived.JoinedTies
import Derived.KernelRfl
namespace Go.Proofs.Ytfahdgmlhinabaa
/- THE CELL 'sum', in the pinned program and in every row, IS THE sha256 OF THE DUMP (.gsa) THAT YtfahdgmlhinabaaProg.lean LOADS. Nothing in Lean hashes anything: it is a label: what it is worth is what the hold of that sum in a sandbox is worth. -/
noncomputable def Try.pinned : Pinned := { name := "ytfahdgmlhinabaa", sum := "e7c04725d93de7a5e7990d7ab56c3b473afd09f654ef3ba4bd895153fdc078f6", checked := Try.checked }
namespace Rows
def none {H : Type} : Left H := { results := [], args := [] }

/-- 'laws.FnExactSegmentPredecessors': WHATEVER THE INPUT: true; the input reads as it did. -/
def fnExactSegmentPredecessorsSpec : ChangeSpec := { name := "fnExactSegmentPredecessors", fn := fun _ => fun
  | [d1, d2] => { results := [.lit (.bool true)], args := [d1, d2] }
  | _ => none }
def fnExactSegmentPredecessorsRow : OpenClaim := { program := "ytfahdgmlhinabaa", sum := "e7c04725d93de7a5e7990d7ab56c3b473afd09f654ef3ba4bd895153fdc078f6", func := "loop.example/g01079/laws.FnExactSegmentPredecessors", spec := "fnExactSegmentPredecessors", unfollowed := true, recurses := true, plainKeys := false, apart := false }
def FnExactSegmentPredecessorsSaid : Prop := fnExactSegmentPredecessorsRow.holds Try.pinned (OpenSpec.ofChange fnExactSegmentPredecessorsSpec)

/-- ITS FALSE NEIGHBOUR: 'it returns false'. Refute it at one input. -/
def fnExactSegmentPredecessorsWrong : ChangeSpec := { name := "fnExactSegmentPredecessors", fn := fun _ => fun
  | [d1, d2] => { results := [.lit (.bool false)], args := [d1, d2] }
  | _ => none }
def FnExactSegmentPredecessorsWrongFalsely : Prop := fnExactSegmentPredecessorsRow.holds Try.pinned (OpenSpec.ofChange fnExactSegmentPredecessorsWrong)

/-- 'laws.FnExactPredecessorsOf': WHATEVER THE INPUT: true; the input reads as it did. -/
def fnExactPredecessorsOfSpec : ChangeSpec := { name := "fnExactPredecessorsOf", fn := fun _ => fun
  | [d1, d2] => { results := [.lit (.bool true)], args := [d1, d2] }
  | _ => none }
def fnExactPredecessorsOfRow : OpenClaim := { program := "ytfahdgmlhinabaa", sum := "e7c04725d93de7a5e7990d7ab56c3b473afd09f654ef3ba4bd895153fdc078f6", func := "loop.example/g01079/laws.FnExactPredecessorsOf", spec := "fnExactPredecessorsOf", unfollowed := true, recurses := true, plainKeys := false, apart := false }
def FnExactPredecessorsOfSaid : Prop := fnExactPredecessorsOfRow.holds Try.pinned (OpenSpec.ofChange fnExactPredecessorsOfSpec)

/-- ITS FALSE NEIGHBOUR: 'it returns false'. Refute it at one input. -/
def fnExactPredecessorsOfWrong : ChangeSpec := { name := "fnExactPredecessorsOf", fn := fun _ => fun
  | [d1, d2] => { results := [.lit (.bool false)], args := [d1, d2] }
  | _ => none }
def FnExactPredecessorsOfWrongFalsely : Prop := fnExactPredecessorsOfRow.holds Try.pinned (OpenSpec.ofChange fnExactPredecessorsOfWrong)

/-- 'laws.FnExactSegmentStarts': WHATEVER THE INPUT: true; the input reads as it did. -/
def fnExactSegmentStartsSpec : ChangeSpec := { name := "fnExactSegmentStarts", fn := fun _ => fun
  | [d1, d2] => { results := [.lit (.bool true)], args := [d1, d2] }
  | _ => none }
def fnExactSegmentStartsRow : OpenClaim := { program := "ytfahdgmlhinabaa", sum := "e7c04725d93de7a5e7990d7ab56c3b473afd09f654ef3ba4bd895153fdc078f6", func := "loop.example/g01079/laws.FnExactSegmentStarts", spec := "fnExactSegmentStarts", unfollowed := true, recurses := true, plainKeys := false, apart := false }
def FnExactSegmentStartsSaid : Prop := fnExactSegmentStartsRow.holds Try.pinned (OpenSpec.ofChange fnExactSegmentStartsSpec)

/-- ITS FALSE NEIGHBOUR: 'it returns false'. Refute it at one input. -/
def fnExactSegmentStartsWrong : ChangeSpec := { name := "fnExactSegmentStarts", fn := fun _ => fun
  | [d1, d2] => { results := [.lit (.bool false)], args := [d1, d2] }
  | _ => none }
def FnExactSegmentStartsWrongFalsely : Prop := fnExactSegmentStartsRow.holds Try.pinned (OpenSpec.ofChange fnExactSegmentStartsWrong)

/-- 'laws.FnExactAvoidsHalting': WHATEVER THE INPUT: true; the input reads as it did. -/
def fnExactAvoidsHaltingSpec : ChangeSpec := { name := "fnExactAvoidsHalting", fn := fun _ => fun
  | [d1, d2, d3] => { results := [.lit (.bool true)], args := [d1, d2, d3] }
  | _ => none }
def fnExactAvoidsHaltingRow : OpenClaim := { program := "ytfahdgmlhinabaa", sum := "e7c04725d93de7a5e7990d7ab56c3b473afd09f654ef3ba4bd895153fdc078f6", func := "loop.example/g01079/laws.FnExactAvoidsHalting", spec := "fnExactAvoidsHalting", unfollowed := true, recurses := true, plainKeys := false, apart := false }
def FnExactAvoidsHaltingSaid : Prop := fnExactAvoidsHaltingRow.holds Try.pinned (OpenSpec.ofChange fnExactAvoidsHaltingSpec)

/-- ITS FALSE NEIGHBOUR: 'it returns false'. Refute it at one input. -/
def fnExactAvoidsHaltingWrong : ChangeSpec := { name := "fnExactAvoidsHalting", fn := fun _ => fun
  | [d1, d2, d3] => { results := [.lit (.bool false)], args := [d1, d2, d3] }
  | _ => none }
def FnExactAvoidsHaltingWrongFalsely : Prop := fnExactAvoidsHaltingRow.holds Try.pinned (OpenSpec.ofChange fnExactAvoidsHaltingWrong)

/-- 'laws.FnExactCheckAutomaton': WHATEVER THE INPUT: true; the input reads as it did. -/
def fnExactCheckAutomatonSpec : ChangeSpec := { name := "fnExactCheckAutomaton", fn := fun _ => fun
  | [d1, d2] => { results := [.lit (.bool true)], args := [d1, d2] }
  | _ => none }
def fnExactCheckAutomatonRow : OpenClaim := { program := "ytfahdgmlhinabaa", sum := "e7c04725d93de7a5e7990d7ab56c3b473afd09f654ef3ba4bd895153fdc078f6", func := "loop.example/g01079/laws.FnExactCheckAutomaton", spec := "fnExactCheckAutomaton", unfollowed := true, recurses := true, plainKeys := false, apart := false }
def FnExactCheckAutomatonSaid : Prop := fnExactCheckAutomatonRow.holds Try.pinned (OpenSpec.ofChange fnExactCheckAutomatonSpec)

/-- ITS FALSE NEIGHBOUR: 'it returns false'. Refute it at one input. -/
def fnExactCheckAutomatonWrong : ChangeSpec := { name := "fnExactCheckAutomaton", fn := fun _ => fun
  | [d1, d2] => { results := [.lit (.bool false)], args := [d1, d2] }
  | _ => none }
def FnExactCheckAutomatonWrongFalsely : Prop := fnExactCheckAutomatonRow.holds Try.pinned (OpenSpec.ofChange fnExactCheckAutomatonWrong)

/-- 'laws.FnExactAcceptsConfig': WHATEVER THE INPUT: true; the input reads as it did. -/
def fnExactAcceptsConfigSpec : ChangeSpec := { name := "fnExactAcceptsConfig", fn := fun _ => fun
  | [d1, d2, d3, d4] => { results := [.lit (.bool true)], args := [d1, d2, d3, d4] }
  | _ => none }
def fnExactAcceptsConfigRow : OpenClaim := { program := "ytfahdgmlhinabaa", sum := "e7c04725d93de7a5e7990d7ab56c3b473afd09f654ef3ba4bd895153fdc078f6", func := "loop.example/g01079/laws.FnExactAcceptsConfig", spec := "fnExactAcceptsConfig", unfollowed := true, recurses := true, plainKeys := false, apart := false }
def FnExactAcceptsConfigSaid : Prop := fnExactAcceptsConfigRow.holds Try.pinned (OpenSpec.ofChange fnExactAcceptsConfigSpec)

/-- ITS FALSE NEIGHBOUR: 'it returns false'. Refute it at one input. -/
def fnExactAcceptsConfigWrong : ChangeSpec := { name := "fnExactAcceptsConfig", fn := fun _ => fun
  | [d1, d2, d3, d4] => { results := [.lit (.bool false)], args := [d1, d2, d3, d4] }
  | _ => none }
def FnExactAcceptsConfigWrongFalsely : Prop := fnExactAcceptsConfigRow.holds Try.pinned (OpenSpec.ofChange fnExactAcceptsConfigWrong)

/-- 'laws.FnExactRepeatsIn': WHATEVER THE INPUT: true; the input reads as it did. -/
def fnExactRepeatsInSpec : ChangeSpec := { name := "fnExactRepeatsIn", fn := fun _ => fun
  | [d1, d2, d3, d4, d5] => { results := [.lit (.bool true)], args := [d1, d2, d3, d4, d5] }
  | _ => none }
def fnExactRepeatsInRow : OpenClaim := { program := "ytfahdgmlhinabaa", sum := "e7c04725d93de7a5e7990d7ab56c3b473afd09f654ef3ba4bd895153fdc078f6", func := "loop.example/g01079/laws.FnExactRepeatsIn", spec := "fnExactRepeatsIn", unfollowed := true, recurses := true, plainKeys := false, apart := false }
def FnExactRepeatsInSaid : Prop := fnExactRepeatsInRow.holds Try.pinned (OpenSpec.ofChange fnExactRepeatsInSpec)

/-- ITS FALSE NEIGHBOUR: 'it returns false'. Refute it at one input. -/
def fnExactRepeatsInWrong : ChangeSpec := { name := "fnExactRepeatsIn", fn := fun _ => fun
  | [d1, d2, d3, d4, d5] => { results := [.lit (.bool false)], args := [d1, d2, d3, d4, d5] }
  | _ => none }
def FnExactRepeatsInWrongFalsely : Prop := fnExactRepeatsInRow.holds Try.pinned (OpenSpec.ofChange fnExactRepeatsInWrong)

/- THE SECOND FORM. 'bulk': how many values and letters a reading holds, each counted each time it is reached (what is shared counts as often as it is met; a slice's spare places count too). A statement '..UptoSaid' is the law's where the arguments, and the package variables that the reading takes, are together of bulk at most 1048576: NARROWER than '..Said'. Prove '..Said' where nothing that the law and all that it calls make is longer than what came in: it says more and counts as full. Else prove '..UptoSaid'. A law counts once. -/
mutual
def uptoBulk {H : Type} : DataW H → Nat
  | .lit (.string bytes) => bytes.length + 1
  | .lit _ => 1
  | .nil => 1
  | .ptr d => uptoBulk d + 1
  | .slice elems spare => uptoBulkAll elems + uptoBulkAll spare + 1
  | .agg parts => uptoBulkAll parts + 1
  | .iface _ d => uptoBulk d + 1
  | .map entries => uptoBulkEntries entries + 1
  | .held _ => 1
def uptoBulkAll {H : Type} : List (DataW H) → Nat
  | [] => 0
  | d :: r => uptoBulk d + uptoBulkAll r
def uptoBulkEntries {H : Type} : List (Lit × DataW H) → Nat
  | [] => 0
  | x :: r => uptoBulkEntry x + uptoBulkEntries r
def uptoBulkEntry {H : Type} : Lit × DataW H → Nat
  | (.string bytes, d) => bytes.length + uptoBulk d + 1
  | (_, d) => uptoBulk d + 1
 end
def uptoSmall : (H : Type) → List (DataW H) → Bool := fun _ ds => decide (uptoBulkAll ds ≤ 1048576)
def OpenSpec.upto (s : _root_.Go.ChangeSpec) : _root_.Go.OpenSpec := { _root_.Go.OpenSpec.ofChange s with cond := some uptoSmall }

/-- 'laws.FnExactSegmentPredecessors', WHERE WHAT IT READS IS OF BULK AT MOST 1048576: true; the input reads as it did. -/
def fnExactSegmentPredecessorsUptoRow : OpenClaim := { program := "ytfahdgmlhinabaa", sum := "e7c04725d93de7a5e7990d7ab56c3b473afd09f654ef3ba4bd895153fdc078f6", func := "loop.example/g01079/laws.FnExactSegmentPredecessors", spec := "fnExactSegmentPredecessors", unfollowed := true, recurses := true, plainKeys := false, apart := false, narrowed := true }
def FnExactSegmentPredecessorsUptoSaid : Prop := fnExactSegmentPredecessorsUptoRow.holds Try.pinned (OpenSpec.upto fnExactSegmentPredecessorsSpec)

/-- 'laws.FnExactPredecessorsOf', WHERE WHAT IT READS IS OF BULK AT MOST 1048576: true; the input reads as it did. -/
def fnExactPredecessorsOfUptoRow : OpenClaim := { program := "ytfahdgmlhinabaa", sum := "e7c04725d93de7a5e7990d7ab56c3b473afd09f654ef3ba4bd895153fdc078f6", func := "loop.example/g01079/laws.FnExactPredecessorsOf", spec := "fnExactPredecessorsOf", unfollowed := true, recurses := true, plainKeys := false, apart := false, narrowed := true }
def FnExactPredecessorsOfUptoSaid : Prop := fnExactPredecessorsOfUptoRow.holds Try.pinned (OpenSpec.upto fnExactPredecessorsOfSpec)

/-- 'laws.FnExactSegmentStarts', WHERE WHAT IT READS IS OF BULK AT MOST 1048576: true; the input reads as it did. -/
def fnExactSegmentStartsUptoRow : OpenClaim := { program := "ytfahdgmlhinabaa", sum := "e7c04725d93de7a5e7990d7ab56c3b473afd09f654ef3ba4bd895153fdc078f6", func := "loop.example/g01079/laws.FnExactSegmentStarts", spec := "fnExactSegmentStarts", unfollowed := true, recurses := true, plainKeys := false, apart := false, narrowed := true }
def FnExactSegmentStartsUptoSaid : Prop := fnExactSegmentStartsUptoRow.holds Try.pinned (OpenSpec.upto fnExactSegmentStartsSpec)

/-- 'laws.FnExactAvoidsHalting', WHERE WHAT IT READS IS OF BULK AT MOST 1048576: true; the input reads as it did. -/
def fnExactAvoidsHaltingUptoRow : OpenClaim := { program := "ytfahdgmlhinabaa", sum := "e7c04725d93de7a5e7990d7ab56c3b473afd09f654ef3ba4bd895153fdc078f6", func := "loop.example/g01079/laws.FnExactAvoidsHalting", spec := "fnExactAvoidsHalting", unfollowed := true, recurses := true, plainKeys := false, apart := false, narrowed := true }
def FnExactAvoidsHaltingUptoSaid : Prop := fnExactAvoidsHaltingUptoRow.holds Try.pinned (OpenSpec.upto fnExactAvoidsHaltingSpec)

/-- 'laws.FnExactCheckAutomaton', WHERE WHAT IT READS IS OF BULK AT MOST 1048576: true; the input reads as it did. -/
def fnExactCheckAutomatonUptoRow : OpenClaim := { program := "ytfahdgmlhinabaa", sum := "e7c04725d93de7a5e7990d7ab56c3b473afd09f654ef3ba4bd895153fdc078f6", func := "loop.example/g01079/laws.FnExactCheckAutomaton", spec := "fnExactCheckAutomaton", unfollowed := true, recurses := true, plainKeys := false, apart := false, narrowed := true }
def FnExactCheckAutomatonUptoSaid : Prop := fnExactCheckAutomatonUptoRow.holds Try.pinned (OpenSpec.upto fnExactCheckAutomatonSpec)

/-- 'laws.FnExactAcceptsConfig', WHERE WHAT IT READS IS OF BULK AT MOST 1048576: true; the input reads as it did. -/
def fnExactAcceptsConfigUptoRow : OpenClaim := { program := "ytfahdgmlhinabaa", sum := "e7c04725d93de7a5e7990d7ab56c3b473afd09f654ef3ba4bd895153fdc078f6", func := "loop.example/g01079/laws.FnExactAcceptsConfig", spec := "fnExactAcceptsConfig", unfollowed := true, recurses := true, plainKeys := false, apart := false, narrowed := true }
def FnExactAcceptsConfigUptoSaid : Prop := fnExactAcceptsConfigUptoRow.holds Try.pinned (OpenSpec.upto fnExactAcceptsConfigSpec)

/-- 'laws.FnExactRepeatsIn', WHERE WHAT IT READS IS OF BULK AT MOST 1048576: true; the input reads as it did. -/
def fnExactRepeatsInUptoRow : OpenClaim := { program := "ytfahdgmlhinabaa", sum := "e7c04725d93de7a5e7990d7ab56c3b473afd09f654ef3ba4bd895153fdc078f6", func := "loop.example/g01079/laws.FnExactRepeatsIn", spec := "fnExactRepeatsIn", unfollowed := true, recurses := true, plainKeys := false, apart := false, narrowed := true }
def FnExactRepeatsInUptoSaid : Prop := fnExactRepeatsInUptoRow.holds Try.pinned (OpenSpec.upto fnExactRepeatsInSpec)

end Rows
end Go.Proofs.Ytfahdgmlhinabaa
