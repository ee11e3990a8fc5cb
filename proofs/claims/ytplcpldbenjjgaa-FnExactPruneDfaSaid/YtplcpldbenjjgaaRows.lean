/-
  No cell of these rows narrows 'for every input' (looked for: loops, veiled, ifaces, maps, wideKeys, modest, calm, conditions, laid).
  DERIVED. THE GIVEN ROWS OF THIS SEAT. 12 by the template 'for every input the law returns true; each argument reads behind the call as it read before'; 0 by the template 'total and deterministic' (their statements: YtplcpldbenjjgaaTotals.lean).
  GIVEN WITH THE SEED: the statements are not yours to turn. If you find one false, say at which input.
  Laid BY PROGRAM, IN A SANDBOX (cutbox-rows.mjs): the forced cells as the released guide's own fill.sh prints them over the translation 698f442bc4ba6d7d… (all of the seat's roots in one cut). By AI agents, Wed Nov 11 2026. No macro, syntax, notation, axiom, sorry.
-/
import Derived.Test.YtplcpldbenjjgaaChecked
import GoSem.Claim
import GoSem.ClaimJoined
import GoSem.ClaimMapViews
import Derived.JoinedTies
import Derived.KernelRfl
namespace Go.Proofs.Ytplcpldbenjjgaa
/- THE CELL 'sum', in the pinned program and in every row, IS THE sha256 OF THE DUMP (.gsa) THAT YtplcpldbenjjgaaProg.lean LOADS. Nothing in Lean hashes anything: it is a label: what it is worth is what the hold of that sum in a sandbox is worth. -/
noncomputable def Try.pinned : Pinned := { name := "ytplcpldbenjjgaa", sum := "698f442bc4ba6d7d6f7ca5f65de4223c6944c152d58b6c172a5c4e143d19891b", checked := Try.checked }
namespace Rows
def none {H : Type} : Left H := { results := [], args := [] }

/-- 'laws.FnExactTreeAt': WHATEVER THE INPUT: true; the input reads as it did. -/
def fnExactTreeAtSpec : ChangeSpec := { name := "fnExactTreeAt", fn := fun _ => fun
  | [d] => { results := [.lit (.bool true)], args := [d] }
  | _ => none }
def fnExactTreeAtRow : OpenClaim := { program := "ytplcpldbenjjgaa", sum := "698f442bc4ba6d7d6f7ca5f65de4223c6944c152d58b6c172a5c4e143d19891b", func := "loop.example/g01079/laws.FnExactTreeAt", spec := "fnExactTreeAt", recurses := true, plainKeys := false, apart := false }
def FnExactTreeAtSaid : Prop := fnExactTreeAtRow.holds Try.pinned (OpenSpec.ofChange fnExactTreeAtSpec)

/-- ITS FALSE NEIGHBOUR: 'it returns false'. Refute it at one input. -/
def fnExactTreeAtWrong : ChangeSpec := { name := "fnExactTreeAt", fn := fun _ => fun
  | [d] => { results := [.lit (.bool false)], args := [d] }
  | _ => none }
def FnExactTreeAtWrongFalsely : Prop := fnExactTreeAtRow.holds Try.pinned (OpenSpec.ofChange fnExactTreeAtWrong)

/-- 'laws.FnExactTagTree': WHATEVER THE INPUT: true; the input reads as it did. -/
def fnExactTagTreeSpec : ChangeSpec := { name := "fnExactTagTree", fn := fun _ => fun
  | [d] => { results := [.lit (.bool true)], args := [d] }
  | _ => none }
def fnExactTagTreeRow : OpenClaim := { program := "ytplcpldbenjjgaa", sum := "698f442bc4ba6d7d6f7ca5f65de4223c6944c152d58b6c172a5c4e143d19891b", func := "loop.example/g01079/laws.FnExactTagTree", spec := "fnExactTagTree", recurses := true, plainKeys := false, apart := false }
def FnExactTagTreeSaid : Prop := fnExactTagTreeRow.holds Try.pinned (OpenSpec.ofChange fnExactTagTreeSpec)

/-- ITS FALSE NEIGHBOUR: 'it returns false'. Refute it at one input. -/
def fnExactTagTreeWrong : ChangeSpec := { name := "fnExactTagTree", fn := fun _ => fun
  | [d] => { results := [.lit (.bool false)], args := [d] }
  | _ => none }
def FnExactTagTreeWrongFalsely : Prop := fnExactTagTreeRow.holds Try.pinned (OpenSpec.ofChange fnExactTagTreeWrong)

/-- 'laws.FnExactHeadOf': WHATEVER THE INPUT: true; the input reads as it did. -/
def fnExactHeadOfSpec : ChangeSpec := { name := "fnExactHeadOf", fn := fun _ => fun
  | [d] => { results := [.lit (.bool true)], args := [d] }
  | _ => none }
def fnExactHeadOfRow : OpenClaim := { program := "ytplcpldbenjjgaa", sum := "698f442bc4ba6d7d6f7ca5f65de4223c6944c152d58b6c172a5c4e143d19891b", func := "loop.example/g01079/laws.FnExactHeadOf", spec := "fnExactHeadOf", unfollowed := true, recurses := true, plainKeys := false, apart := false }
def FnExactHeadOfSaid : Prop := fnExactHeadOfRow.holds Try.pinned (OpenSpec.ofChange fnExactHeadOfSpec)

/-- ITS FALSE NEIGHBOUR: 'it returns false'. Refute it at one input. -/
def fnExactHeadOfWrong : ChangeSpec := { name := "fnExactHeadOf", fn := fun _ => fun
  | [d] => { results := [.lit (.bool false)], args := [d] }
  | _ => none }
def FnExactHeadOfWrongFalsely : Prop := fnExactHeadOfRow.holds Try.pinned (OpenSpec.ofChange fnExactHeadOfWrong)

/-- 'laws.FnExactTailOf': WHATEVER THE INPUT: true; the input reads as it did. -/
def fnExactTailOfSpec : ChangeSpec := { name := "fnExactTailOf", fn := fun _ => fun
  | [d] => { results := [.lit (.bool true)], args := [d] }
  | _ => none }
def fnExactTailOfRow : OpenClaim := { program := "ytplcpldbenjjgaa", sum := "698f442bc4ba6d7d6f7ca5f65de4223c6944c152d58b6c172a5c4e143d19891b", func := "loop.example/g01079/laws.FnExactTailOf", spec := "fnExactTailOf", unfollowed := true, recurses := true, plainKeys := false, apart := false }
def FnExactTailOfSaid : Prop := fnExactTailOfRow.holds Try.pinned (OpenSpec.ofChange fnExactTailOfSpec)

/-- ITS FALSE NEIGHBOUR: 'it returns false'. Refute it at one input. -/
def fnExactTailOfWrong : ChangeSpec := { name := "fnExactTailOf", fn := fun _ => fun
  | [d] => { results := [.lit (.bool false)], args := [d] }
  | _ => none }
def FnExactTailOfWrongFalsely : Prop := fnExactTailOfRow.holds Try.pinned (OpenSpec.ofChange fnExactTailOfWrong)

/-- 'laws.FnExactPruneDfa': WHATEVER THE INPUT: true; the input reads as it did. -/
def fnExactPruneDfaSpec : ChangeSpec := { name := "fnExactPruneDfa", fn := fun _ => fun
  | [d1, d2] => { results := [.lit (.bool true)], args := [d1, d2] }
  | _ => none }
def fnExactPruneDfaRow : OpenClaim := { program := "ytplcpldbenjjgaa", sum := "698f442bc4ba6d7d6f7ca5f65de4223c6944c152d58b6c172a5c4e143d19891b", func := "loop.example/g01079/laws.FnExactPruneDfa", spec := "fnExactPruneDfa", plainKeys := false, apart := false }
def FnExactPruneDfaSaid : Prop := fnExactPruneDfaRow.holds Try.pinned (OpenSpec.ofChange fnExactPruneDfaSpec)

/-- ITS FALSE NEIGHBOUR: 'it returns false'. Refute it at one input. -/
def fnExactPruneDfaWrong : ChangeSpec := { name := "fnExactPruneDfa", fn := fun _ => fun
  | [d1, d2] => { results := [.lit (.bool false)], args := [d1, d2] }
  | _ => none }
def FnExactPruneDfaWrongFalsely : Prop := fnExactPruneDfaRow.holds Try.pinned (OpenSpec.ofChange fnExactPruneDfaWrong)

/-- 'laws.FnExactValidProof': WHATEVER THE INPUT: true; the input reads as it did. -/
def fnExactValidProofSpec : ChangeSpec := { name := "fnExactValidProof", fn := fun _ => fun
  | [d] => { results := [.lit (.bool true)], args := [d] }
  | _ => none }
def fnExactValidProofRow : OpenClaim := { program := "ytplcpldbenjjgaa", sum := "698f442bc4ba6d7d6f7ca5f65de4223c6944c152d58b6c172a5c4e143d19891b", func := "loop.example/g01079/laws.FnExactValidProof", spec := "fnExactValidProof", unfollowed := true, recurses := true, plainKeys := false, apart := false }
def FnExactValidProofSaid : Prop := fnExactValidProofRow.holds Try.pinned (OpenSpec.ofChange fnExactValidProofSpec)

/-- ITS FALSE NEIGHBOUR: 'it returns false'. Refute it at one input. -/
def fnExactValidProofWrong : ChangeSpec := { name := "fnExactValidProof", fn := fun _ => fun
  | [d] => { results := [.lit (.bool false)], args := [d] }
  | _ => none }
def FnExactValidProofWrongFalsely : Prop := fnExactValidProofRow.holds Try.pinned (OpenSpec.ofChange fnExactValidProofWrong)

/-- 'laws.FnExactTreeExpr': WHATEVER THE INPUT: true; the input reads as it did. -/
def fnExactTreeExprSpec : ChangeSpec := { name := "fnExactTreeExpr", fn := fun _ => fun
  | [d] => { results := [.lit (.bool true)], args := [d] }
  | _ => none }
def fnExactTreeExprRow : OpenClaim := { program := "ytplcpldbenjjgaa", sum := "698f442bc4ba6d7d6f7ca5f65de4223c6944c152d58b6c172a5c4e143d19891b", func := "loop.example/g01079/laws.FnExactTreeExpr", spec := "fnExactTreeExpr", unfollowed := true, recurses := true, plainKeys := false, apart := false }
def FnExactTreeExprSaid : Prop := fnExactTreeExprRow.holds Try.pinned (OpenSpec.ofChange fnExactTreeExprSpec)

/-- ITS FALSE NEIGHBOUR: 'it returns false'. Refute it at one input. -/
def fnExactTreeExprWrong : ChangeSpec := { name := "fnExactTreeExpr", fn := fun _ => fun
  | [d] => { results := [.lit (.bool false)], args := [d] }
  | _ => none }
def FnExactTreeExprWrongFalsely : Prop := fnExactTreeExprRow.holds Try.pinned (OpenSpec.ofChange fnExactTreeExprWrong)

/-- 'laws.FnExactValidPartial': WHATEVER THE INPUT: true; the input reads as it did. -/
def fnExactValidPartialSpec : ChangeSpec := { name := "fnExactValidPartial", fn := fun _ => fun
  | [d1, d2] => { results := [.lit (.bool true)], args := [d1, d2] }
  | _ => none }
def fnExactValidPartialRow : OpenClaim := { program := "ytplcpldbenjjgaa", sum := "698f442bc4ba6d7d6f7ca5f65de4223c6944c152d58b6c172a5c4e143d19891b", func := "loop.example/g01079/laws.FnExactValidPartial", spec := "fnExactValidPartial", unfollowed := true, recurses := true, plainKeys := false, apart := false }
def FnExactValidPartialSaid : Prop := fnExactValidPartialRow.holds Try.pinned (OpenSpec.ofChange fnExactValidPartialSpec)

/-- ITS FALSE NEIGHBOUR: 'it returns false'. Refute it at one input. -/
def fnExactValidPartialWrong : ChangeSpec := { name := "fnExactValidPartial", fn := fun _ => fun
  | [d1, d2] => { results := [.lit (.bool false)], args := [d1, d2] }
  | _ => none }
def FnExactValidPartialWrongFalsely : Prop := fnExactValidPartialRow.holds Try.pinned (OpenSpec.ofChange fnExactValidPartialWrong)

/-- 'laws.FnExactHaltingPartials': WHATEVER THE INPUT: true; the input reads as it did. -/
def fnExactHaltingPartialsSpec : ChangeSpec := { name := "fnExactHaltingPartials", fn := fun _ => fun
  | [d] => { results := [.lit (.bool true)], args := [d] }
  | _ => none }
def fnExactHaltingPartialsRow : OpenClaim := { program := "ytplcpldbenjjgaa", sum := "698f442bc4ba6d7d6f7ca5f65de4223c6944c152d58b6c172a5c4e143d19891b", func := "loop.example/g01079/laws.FnExactHaltingPartials", spec := "fnExactHaltingPartials", unfollowed := true, recurses := true, plainKeys := false, apart := false }
def FnExactHaltingPartialsSaid : Prop := fnExactHaltingPartialsRow.holds Try.pinned (OpenSpec.ofChange fnExactHaltingPartialsSpec)

/-- ITS FALSE NEIGHBOUR: 'it returns false'. Refute it at one input. -/
def fnExactHaltingPartialsWrong : ChangeSpec := { name := "fnExactHaltingPartials", fn := fun _ => fun
  | [d] => { results := [.lit (.bool false)], args := [d] }
  | _ => none }
def FnExactHaltingPartialsWrongFalsely : Prop := fnExactHaltingPartialsRow.holds Try.pinned (OpenSpec.ofChange fnExactHaltingPartialsWrong)

/-- 'laws.FnExactShiftOver': WHATEVER THE INPUT: true; the input reads as it did. -/
def fnExactShiftOverSpec : ChangeSpec := { name := "fnExactShiftOver", fn := fun _ => fun
  | [d1, d2, d3, d4] => { results := [.lit (.bool true)], args := [d1, d2, d3, d4] }
  | _ => none }
def fnExactShiftOverRow : OpenClaim := { program := "ytplcpldbenjjgaa", sum := "698f442bc4ba6d7d6f7ca5f65de4223c6944c152d58b6c172a5c4e143d19891b", func := "loop.example/g01079/laws.FnExactShiftOver", spec := "fnExactShiftOver", unfollowed := true, recurses := true, plainKeys := false, apart := false }
def FnExactShiftOverSaid : Prop := fnExactShiftOverRow.holds Try.pinned (OpenSpec.ofChange fnExactShiftOverSpec)

/-- ITS FALSE NEIGHBOUR: 'it returns false'. Refute it at one input. -/
def fnExactShiftOverWrong : ChangeSpec := { name := "fnExactShiftOver", fn := fun _ => fun
  | [d1, d2, d3, d4] => { results := [.lit (.bool false)], args := [d1, d2, d3, d4] }
  | _ => none }
def FnExactShiftOverWrongFalsely : Prop := fnExactShiftOverRow.holds Try.pinned (OpenSpec.ofChange fnExactShiftOverWrong)

/-- 'laws.FnExactMatchesPartial': WHATEVER THE INPUT: true; the input reads as it did. -/
def fnExactMatchesPartialSpec : ChangeSpec := { name := "fnExactMatchesPartial", fn := fun _ => fun
  | [d1, d2, d3] => { results := [.lit (.bool true)], args := [d1, d2, d3] }
  | _ => none }
def fnExactMatchesPartialRow : OpenClaim := { program := "ytplcpldbenjjgaa", sum := "698f442bc4ba6d7d6f7ca5f65de4223c6944c152d58b6c172a5c4e143d19891b", func := "loop.example/g01079/laws.FnExactMatchesPartial", spec := "fnExactMatchesPartial", unfollowed := true, recurses := true, plainKeys := false, apart := false }
def FnExactMatchesPartialSaid : Prop := fnExactMatchesPartialRow.holds Try.pinned (OpenSpec.ofChange fnExactMatchesPartialSpec)

/-- ITS FALSE NEIGHBOUR: 'it returns false'. Refute it at one input. -/
def fnExactMatchesPartialWrong : ChangeSpec := { name := "fnExactMatchesPartial", fn := fun _ => fun
  | [d1, d2, d3] => { results := [.lit (.bool false)], args := [d1, d2, d3] }
  | _ => none }
def FnExactMatchesPartialWrongFalsely : Prop := fnExactMatchesPartialRow.holds Try.pinned (OpenSpec.ofChange fnExactMatchesPartialWrong)

/-- 'laws.FnExactValidFormula': WHATEVER THE INPUT: true; the input reads as it did. -/
def fnExactValidFormulaSpec : ChangeSpec := { name := "fnExactValidFormula", fn := fun _ => fun
  | [d1, d2] => { results := [.lit (.bool true)], args := [d1, d2] }
  | _ => none }
def fnExactValidFormulaRow : OpenClaim := { program := "ytplcpldbenjjgaa", sum := "698f442bc4ba6d7d6f7ca5f65de4223c6944c152d58b6c172a5c4e143d19891b", func := "loop.example/g01079/laws.FnExactValidFormula", spec := "fnExactValidFormula", unfollowed := true, recurses := true, plainKeys := false, apart := false }
def FnExactValidFormulaSaid : Prop := fnExactValidFormulaRow.holds Try.pinned (OpenSpec.ofChange fnExactValidFormulaSpec)

/-- ITS FALSE NEIGHBOUR: 'it returns false'. Refute it at one input. -/
def fnExactValidFormulaWrong : ChangeSpec := { name := "fnExactValidFormula", fn := fun _ => fun
  | [d1, d2] => { results := [.lit (.bool false)], args := [d1, d2] }
  | _ => none }
def FnExactValidFormulaWrongFalsely : Prop := fnExactValidFormulaRow.holds Try.pinned (OpenSpec.ofChange fnExactValidFormulaWrong)

/- THE SECOND FORM. 'bulk': how many values and letters a reading holds, each counted each time it is reached (what is shared counts as often as it is met; a slice's spare places count too). A statement '..UptoSaid' is the law's where the arguments, and the package variables that the reading takes, are together of bulk at most 1048576: NARROWER than '..Said'. Prove '..Said' where nothing that the law and all that it calls make is longer than what came in: it says more and counts as full. Else prove '..UptoSaid'. A law counts once. -/
mutual
def uptoBulk {H : Type} : DataW H → Nat
  | .lit (.string bytes) => bytes.length + 1
  | .lit _ => 1
  | .nil => 1
  | .ptr d => uptoBulk d + 1
  | .slice elems spare => uptoBulkAll elems + uptoBulkAll spare + 1
  | .agg parts => uptoBulkAll parts + 1
  | .iface _ d => uptoBulk d + 1
  | .map entries => uptoBulkEntries entries + 1
  | .held _ => 1
def uptoBulkAll {H : Type} : List (DataW H) → Nat
  | [] => 0
  | d :: r => uptoBulk d + uptoBulkAll r
def uptoBulkEntries {H : Type} : List (Lit × DataW H) → Nat
  | [] => 0
  | x :: r => uptoBulkEntry x + uptoBulkEntries r
def uptoBulkEntry {H : Type} : Lit × DataW H → Nat
  | (.string bytes, d) => bytes.length + uptoBulk d + 1
  | (_, d) => uptoBulk d + 1
 end
def uptoSmall : (H : Type) → List (DataW H) → Bool := fun _ ds => decide (uptoBulkAll ds ≤ 1048576)
def OpenSpec.upto (s : _root_.Go.ChangeSpec) : _root_.Go.OpenSpec := { _root_.Go.OpenSpec.ofChange s with cond := some uptoSmall }

/-- 'laws.FnExactTreeAt', WHERE WHAT IT READS IS OF BULK AT MOST 1048576: true; the input reads as it did. -/
def fnExactTreeAtUptoRow : OpenClaim := { program := "ytplcpldbenjjgaa", sum := "698f442bc4ba6d7d6f7ca5f65de4223c6944c152d58b6c172a5c4e143d19891b", func := "loop.example/g01079/laws.FnExactTreeAt", spec := "fnExactTreeAt", recurses := true, plainKeys := false, apart := false, narrowed := true }
def FnExactTreeAtUptoSaid : Prop := fnExactTreeAtUptoRow.holds Try.pinned (OpenSpec.upto fnExactTreeAtSpec)

/-- 'laws.FnExactTagTree', WHERE WHAT IT READS IS OF BULK AT MOST 1048576: true; the input reads as it did. -/
def fnExactTagTreeUptoRow : OpenClaim := { program := "ytplcpldbenjjgaa", sum := "698f442bc4ba6d7d6f7ca5f65de4223c6944c152d58b6c172a5c4e143d19891b", func := "loop.example/g01079/laws.FnExactTagTree", spec := "fnExactTagTree", recurses := true, plainKeys := false, apart := false, narrowed := true }
def FnExactTagTreeUptoSaid : Prop := fnExactTagTreeUptoRow.holds Try.pinned (OpenSpec.upto fnExactTagTreeSpec)

/-- 'laws.FnExactHeadOf', WHERE WHAT IT READS IS OF BULK AT MOST 1048576: true; the input reads as it did. -/
def fnExactHeadOfUptoRow : OpenClaim := { program := "ytplcpldbenjjgaa", sum := "698f442bc4ba6d7d6f7ca5f65de4223c6944c152d58b6c172a5c4e143d19891b", func := "loop.example/g01079/laws.FnExactHeadOf", spec := "fnExactHeadOf", unfollowed := true, recurses := true, plainKeys := false, apart := false, narrowed := true }
def FnExactHeadOfUptoSaid : Prop := fnExactHeadOfUptoRow.holds Try.pinned (OpenSpec.upto fnExactHeadOfSpec)

/-- 'laws.FnExactTailOf', WHERE WHAT IT READS IS OF BULK AT MOST 1048576: true; the input reads as it did. -/
def fnExactTailOfUptoRow : OpenClaim := { program := "ytplcpldbenjjgaa", sum := "698f442bc4ba6d7d6f7ca5f65de4223c6944c152d58b6c172a5c4e143d19891b", func := "loop.example/g01079/laws.FnExactTailOf", spec := "fnExactTailOf", unfollowed := true, recurses := true, plainKeys := false, apart := false, narrowed := true }
def FnExactTailOfUptoSaid : Prop := fnExactTailOfUptoRow.holds Try.pinned (OpenSpec.upto fnExactTailOfSpec)

/-- 'laws.FnExactPruneDfa', WHERE WHAT IT READS IS OF BULK AT MOST 1048576: true; the input reads as it did. -/
def fnExactPruneDfaUptoRow : OpenClaim := { program := "ytplcpldbenjjgaa", sum := "698f442bc4ba6d7d6f7ca5f65de4223c6944c152d58b6c172a5c4e143d19891b", func := "loop.example/g01079/laws.FnExactPruneDfa", spec := "fnExactPruneDfa", plainKeys := false, apart := false, narrowed := true }
def FnExactPruneDfaUptoSaid : Prop := fnExactPruneDfaUptoRow.holds Try.pinned (OpenSpec.upto fnExactPruneDfaSpec)

/-- 'laws.FnExactValidProof', WHERE WHAT IT READS IS OF BULK AT MOST 1048576: true; the input reads as it did. -/
def fnExactValidProofUptoRow : OpenClaim := { program := "ytplcpldbenjjgaa", sum := "698f442bc4ba6d7d6f7ca5f65de4223c6944c152d58b6c172a5c4e143d19891b", func := "loop.example/g01079/laws.FnExactValidProof", spec := "fnExactValidProof", unfollowed := true, recurses := true, plainKeys := false, apart := false, narrowed := true }
def FnExactValidProofUptoSaid : Prop := fnExactValidProofUptoRow.holds Try.pinned (OpenSpec.upto fnExactValidProofSpec)

/-- 'laws.FnExactTreeExpr', WHERE WHAT IT READS IS OF BULK AT MOST 1048576: true; the input reads as it did. -/
def fnExactTreeExprUptoRow : OpenClaim := { program := "ytplcpldbenjjgaa", sum := "698f442bc4ba6d7d6f7ca5f65de4223c6944c152d58b6c172a5c4e143d19891b", func := "loop.example/g01079/laws.FnExactTreeExpr", spec := "fnExactTreeExpr", unfollowed := true, recurses := true, plainKeys := false, apart := false, narrowed := true }
def FnExactTreeExprUptoSaid : Prop := fnExactTreeExprUptoRow.holds Try.pinned (OpenSpec.upto fnExactTreeExprSpec)

/-- 'laws.FnExactValidPartial', WHERE WHAT IT READS IS OF BULK AT MOST 1048576: true; the input reads as it did. -/
def fnExactValidPartialUptoRow : OpenClaim := { program := "ytplcpldbenjjgaa", sum := "698f442bc4ba6d7d6f7ca5f65de4223c6944c152d58b6c172a5c4e143d19891b", func := "loop.example/g01079/laws.FnExactValidPartial", spec := "fnExactValidPartial", unfollowed := true, recurses := true, plainKeys := false, apart := false, narrowed := true }
def FnExactValidPartialUptoSaid : Prop := fnExactValidPartialUptoRow.holds Try.pinned (OpenSpec.upto fnExactValidPartialSpec)

/-- 'laws.FnExactHaltingPartials', WHERE WHAT IT READS IS OF BULK AT MOST 1048576: true; the input reads as it did. -/
def fnExactHaltingPartialsUptoRow : OpenClaim := { program := "ytplcpldbenjjgaa", sum := "698f442bc4ba6d7d6f7ca5f65de4223c6944c152d58b6c172a5c4e143d19891b", func := "loop.example/g01079/laws.FnExactHaltingPartials", spec := "fnExactHaltingPartials", unfollowed := true, recurses := true, plainKeys := false, apart := false, narrowed := true }
def FnExactHaltingPartialsUptoSaid : Prop := fnExactHaltingPartialsUptoRow.holds Try.pinned (OpenSpec.upto fnExactHaltingPartialsSpec)

/-- 'laws.FnExactShiftOver', WHERE WHAT IT READS IS OF BULK AT MOST 1048576: true; the input reads as it did. -/
def fnExactShiftOverUptoRow : OpenClaim := { program := "ytplcpldbenjjgaa", sum := "698f442bc4ba6d7d6f7ca5f65de4223c6944c152d58b6c172a5c4e143d19891b", func := "loop.example/g01079/laws.FnExactShiftOver", spec := "fnExactShiftOver", unfollowed := true, recurses := true, plainKeys := false, apart := false, narrowed := true }
def FnExactShiftOverUptoSaid : Prop := fnExactShiftOverUptoRow.holds Try.pinned (OpenSpec.upto fnExactShiftOverSpec)

/-- 'laws.FnExactMatchesPartial', WHERE WHAT IT READS IS OF BULK AT MOST 1048576: true; the input reads as it did. -/
def fnExactMatchesPartialUptoRow : OpenClaim := { program := "ytplcpldbenjjgaa", sum := "698f442bc4ba6d7d6f7ca5f65de4223c6944c152d58b6c172a5c4e143d19891b", func := "loop.example/g01079/laws.FnExactMatchesPartial", spec := "fnExactMatchesPartial", unfollowed := true, recurses := true, plainKeys := false, apart := false, narrowed := true }
def FnExactMatchesPartialUptoSaid : Prop := fnExactMatchesPartialUptoRow.holds Try.pinned (OpenSpec.upto fnExactMatchesPartialSpec)

/-- 'laws.FnExactValidFormula', WHERE WHAT IT READS IS OF BULK AT MOST 1048576: true; the input reads as it did. -/
def fnExactValidFormulaUptoRow : OpenClaim := { program := "ytplcpldbenjjgaa", sum := "698f442bc4ba6d7d6f7ca5f65de4223c6944c152d58b6c172a5c4e143d19891b", func := "loop.example/g01079/laws.FnExactValidFormula", spec := "fnExactValidFormula", unfollowed := true, recurses := true, plainKeys := false, apart := false, narrowed := true }
def FnExactValidFormulaUptoSaid : Prop := fnExactValidFormulaUptoRow.holds Try.pinned (OpenSpec.upto fnExactValidFormulaSpec)

end Rows
end Go.Proofs.Ytplcpldbenjjgaa
