/-
  No cell of these rows narrows 'for every input' (looked for: loops, veiled, ifaces, maps, wideKeys, modest, calm, conditions, laid).
  DERIVED. THE GIVEN ROWS OF THIS SEAT. 4 by the template 'for every input the law returns true; each argument reads behind the call as it read before'; 0 by the template 'total and deterministic' (their statements: YtecpbgmcednpoaaTotals.lean).
  GIVEN WITH THE SEED: the statements are not yours to turn. If you find one false, say at which input.
  Laid BY PROGRAM, IN A SANDBOX (cutbox-rows.mjs): the forced cells as the released guide's own fill.sh prints them over the translation d1d194e0d9c44516… (all of the seat's roots in one cut). By AI agents, Wed Nov 11 2026. No macro, syntax, notation, axiom, sorry.
-/
import Derived.Test.YtecpbgmcednpoaaChecked
import GoSem.Claim
import GoSem.ClaimJoined
import GoSem.ClaimMapViews
import Derived.JoinedTies
import Derived.KernelRfl
namespace Go.Proofs.Ytecpbgmcednpoaa
/- THE CELL 'sum', in the pinned program and in every row, IS THE sha256 OF THE DUMP (.gsa) THAT YtecpbgmcednpoaaProg.lean LOADS. Nothing in Lean hashes anything: it is a label: what it is worth is what the hold of that sum in a sandbox is worth. -/
noncomputable def Try.pinned : Pinned := { name := "ytecpbgmcednpoaa", sum := "d1d194e0d9c445167a63e4883dfc8c2661a6f1e36290395109c03edca4a20caa", checked := Try.checked }
namespace Rows
def none {H : Type} : Left H := { results := [], args := [] }

/-- 'laws.FnExactWhileVariables': WHATEVER THE INPUT: true; the input reads as it did. -/
def fnExactWhileVariablesSpec : ChangeSpec := { name := "fnExactWhileVariables", fn := fun _ => fun
  | [d] => { results := [.lit (.bool true)], args := [d] }
  | _ => none }
def fnExactWhileVariablesRow : OpenClaim := { program := "ytecpbgmcednpoaa", sum := "d1d194e0d9c445167a63e4883dfc8c2661a6f1e36290395109c03edca4a20caa", func := "loop.example/g01079/laws.FnExactWhileVariables", spec := "fnExactWhileVariables", unfollowed := true, recurses := true, apart := false }
def FnExactWhileVariablesSaid : Prop := fnExactWhileVariablesRow.holds Try.pinned (OpenSpec.ofChange fnExactWhileVariablesSpec)

/-- ITS FALSE NEIGHBOUR: 'it returns false'. Refute it at one input. -/
def fnExactWhileVariablesWrong : ChangeSpec := { name := "fnExactWhileVariables", fn := fun _ => fun
  | [d] => { results := [.lit (.bool false)], args := [d] }
  | _ => none }
def FnExactWhileVariablesWrongFalsely : Prop := fnExactWhileVariablesRow.holds Try.pinned (OpenSpec.ofChange fnExactWhileVariablesWrong)

/-- 'laws.FnExactRenameWhile': WHATEVER THE INPUT: true; the input reads as it did. -/
def fnExactRenameWhileSpec : ChangeSpec := { name := "fnExactRenameWhile", fn := fun _ => fun
  | [d1, d2] => { results := [.lit (.bool true)], args := [d1, d2] }
  | _ => none }
def fnExactRenameWhileRow : OpenClaim := { program := "ytecpbgmcednpoaa", sum := "d1d194e0d9c445167a63e4883dfc8c2661a6f1e36290395109c03edca4a20caa", func := "loop.example/g01079/laws.FnExactRenameWhile", spec := "fnExactRenameWhile", unfollowed := true, recurses := true, apart := false }
def FnExactRenameWhileSaid : Prop := fnExactRenameWhileRow.holds Try.pinned (OpenSpec.ofChange fnExactRenameWhileSpec)

/-- ITS FALSE NEIGHBOUR: 'it returns false'. Refute it at one input. -/
def fnExactRenameWhileWrong : ChangeSpec := { name := "fnExactRenameWhile", fn := fun _ => fun
  | [d1, d2] => { results := [.lit (.bool false)], args := [d1, d2] }
  | _ => none }
def FnExactRenameWhileWrongFalsely : Prop := fnExactRenameWhileRow.holds Try.pinned (OpenSpec.ofChange fnExactRenameWhileWrong)

/-- 'laws.FnExactFoldWhile': WHATEVER THE INPUT: true; the input reads as it did. -/
def fnExactFoldWhileSpec : ChangeSpec := { name := "fnExactFoldWhile", fn := fun _ => fun
  | [d] => { results := [.lit (.bool true)], args := [d] }
  | _ => none }
def fnExactFoldWhileRow : OpenClaim := { program := "ytecpbgmcednpoaa", sum := "d1d194e0d9c445167a63e4883dfc8c2661a6f1e36290395109c03edca4a20caa", func := "loop.example/g01079/laws.FnExactFoldWhile", spec := "fnExactFoldWhile", unfollowed := true, recurses := true, apart := false }
def FnExactFoldWhileSaid : Prop := fnExactFoldWhileRow.holds Try.pinned (OpenSpec.ofChange fnExactFoldWhileSpec)

/-- ITS FALSE NEIGHBOUR: 'it returns false'. Refute it at one input. -/
def fnExactFoldWhileWrong : ChangeSpec := { name := "fnExactFoldWhile", fn := fun _ => fun
  | [d] => { results := [.lit (.bool false)], args := [d] }
  | _ => none }
def FnExactFoldWhileWrongFalsely : Prop := fnExactFoldWhileRow.holds Try.pinned (OpenSpec.ofChange fnExactFoldWhileWrong)

/-- 'laws.FnExactOneVariable': WHATEVER THE INPUT: true; the input reads as it did. -/
def fnExactOneVariableSpec : ChangeSpec := { name := "fnExactOneVariable", fn := fun _ => fun
  | [d] => { results := [.lit (.bool true)], args := [d] }
  | _ => none }
def fnExactOneVariableRow : OpenClaim := { program := "ytecpbgmcednpoaa", sum := "d1d194e0d9c445167a63e4883dfc8c2661a6f1e36290395109c03edca4a20caa", func := "loop.example/g01079/laws.FnExactOneVariable", spec := "fnExactOneVariable", unfollowed := true, recurses := true, apart := false }
def FnExactOneVariableSaid : Prop := fnExactOneVariableRow.holds Try.pinned (OpenSpec.ofChange fnExactOneVariableSpec)

/-- ITS FALSE NEIGHBOUR: 'it returns false'. Refute it at one input. -/
def fnExactOneVariableWrong : ChangeSpec := { name := "fnExactOneVariable", fn := fun _ => fun
  | [d] => { results := [.lit (.bool false)], args := [d] }
  | _ => none }
def FnExactOneVariableWrongFalsely : Prop := fnExactOneVariableRow.holds Try.pinned (OpenSpec.ofChange fnExactOneVariableWrong)

/- THE SECOND FORM. 'bulk': how many values and letters a reading holds, each counted each time it is reached (what is shared counts as often as it is met; a slice's spare places count too). A statement '..UptoSaid' is the law's where the arguments, and the package variables that the reading takes, are together of bulk at most 1048576: NARROWER than '..Said'. Prove '..Said' where nothing that the law and all that it calls make is longer than what came in: it says more and counts as full. Else prove '..UptoSaid'. A law counts once. -/
mutual
def uptoBulk {H : Type} : DataW H → Nat
  | .lit (.string bytes) => bytes.length + 1
  | .lit _ => 1
  | .nil => 1
  | .ptr d => uptoBulk d + 1
  | .slice elems spare => uptoBulkAll elems + uptoBulkAll spare + 1
  | .agg parts => uptoBulkAll parts + 1
  | .iface _ d => uptoBulk d + 1
  | .map entries => uptoBulkEntries entries + 1
  | .held _ => 1
def uptoBulkAll {H : Type} : List (DataW H) → Nat
  | [] => 0
  | d :: r => uptoBulk d + uptoBulkAll r
def uptoBulkEntries {H : Type} : List (Lit × DataW H) → Nat
  | [] => 0
  | x :: r => uptoBulkEntry x + uptoBulkEntries r
def uptoBulkEntry {H : Type} : Lit × DataW H → Nat
  | (.string bytes, d) => bytes.length + uptoBulk d + 1
  | (_, d) => uptoBulk d + 1
 end
def uptoSmall : (H : Type) → List (DataW H) → Bool := fun _ ds => decide (uptoBulkAll ds ≤ 1048576)
def OpenSpec.upto (s : _root_.Go.ChangeSpec) : _root_.Go.OpenSpec := { _root_.Go.OpenSpec.ofChange s with cond := some uptoSmall }

/-- 'laws.FnExactWhileVariables', WHERE WHAT IT READS IS OF BULK AT MOST 1048576: true; the input reads as it did. -/
def fnExactWhileVariablesUptoRow : OpenClaim := { program := "ytecpbgmcednpoaa", sum := "d1d194e0d9c445167a63e4883dfc8c2661a6f1e36290395109c03edca4a20caa", func := "loop.example/g01079/laws.FnExactWhileVariables", spec := "fnExactWhileVariables", unfollowed := true, recurses := true, apart := false, narrowed := true }
def FnExactWhileVariablesUptoSaid : Prop := fnExactWhileVariablesUptoRow.holds Try.pinned (OpenSpec.upto fnExactWhileVariablesSpec)

/-- 'laws.FnExactRenameWhile', WHERE WHAT IT READS IS OF BULK AT MOST 1048576: true; the input reads as it did. -/
def fnExactRenameWhileUptoRow : OpenClaim := { program := "ytecpbgmcednpoaa", sum := "d1d194e0d9c445167a63e4883dfc8c2661a6f1e36290395109c03edca4a20caa", func := "loop.example/g01079/laws.FnExactRenameWhile", spec := "fnExactRenameWhile", unfollowed := true, recurses := true, apart := false, narrowed := true }
def FnExactRenameWhileUptoSaid : Prop := fnExactRenameWhileUptoRow.holds Try.pinned (OpenSpec.upto fnExactRenameWhileSpec)

/-- 'laws.FnExactFoldWhile', WHERE WHAT IT READS IS OF BULK AT MOST 1048576: true; the input reads as it did. -/
def fnExactFoldWhileUptoRow : OpenClaim := { program := "ytecpbgmcednpoaa", sum := "d1d194e0d9c445167a63e4883dfc8c2661a6f1e36290395109c03edca4a20caa", func := "loop.example/g01079/laws.FnExactFoldWhile", spec := "fnExactFoldWhile", unfollowed := true, recurses := true, apart := false, narrowed := true }
def FnExactFoldWhileUptoSaid : Prop := fnExactFoldWhileUptoRow.holds Try.pinned (OpenSpec.upto fnExactFoldWhileSpec)

/-- 'laws.FnExactOneVariable', WHERE WHAT IT READS IS OF BULK AT MOST 1048576: true; the input reads as it did. -/
def fnExactOneVariableUptoRow : OpenClaim := { program := "ytecpbgmcednpoaa", sum := "d1d194e0d9c445167a63e4883dfc8c2661a6f1e36290395109c03edca4a20caa", func := "loop.example/g01079/laws.FnExactOneVariable", spec := "fnExactOneVariable", unfollowed := true, recurses := true, apart := false, narrowed := true }
def FnExactOneVariableUptoSaid : Prop := fnExactOneVariableUptoRow.holds Try.pinned (OpenSpec.upto fnExactOneVariableSpec)

end Rows
end Go.Proofs.Ytecpbgmcednpoaa
