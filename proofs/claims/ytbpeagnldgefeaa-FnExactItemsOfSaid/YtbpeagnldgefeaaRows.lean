/-
  No cell of these rows narrows 'for every input' (looked for: loops, veiled, ifaces, maps, wideKeys, modest, calm, conditions, laid).
  DERIVED. THE GIVEN ROWS OF THIS SEAT. 12 by the template 'for every input the law returns true; each argument reads behind the call as it read before'; 0 by the template 'total and deterministic' (their statements: YtbpeagnldgefeaaTotals.lean).
  GIVEN WITH THE SEED: the statements are not yours to turn. If you find one false, say at which input.
  Laid BY PROGRAM, IN A SANDBOX (cutbox-rows.mjs): the forced cells as the released guide's own fill.sh prints them over the translation 59ee813c60fe29dc… (all of the seat's roots in one cut). By AI agents, Wed Nov 11 2026. No macro, syntax, notation, axiom, sorry.
-/
import Derived.Test.YtbpeagnldgefeaaChecked
import GoSem.Claim
import GoSem.ClaimJoined
import GoSem.ClaimMapViews
import Derived.JoinedTies
import Derived.KernelRfl
namespace Go.Proofs.Ytbpeagnldgefeaa
/- THE CELL 'sum', in the pinned program and in every row, IS THE sha256 OF THE DUMP (.gsa) THAT YtbpeagnldgefeaaProg.lean LOADS. Nothing in Lean hashes anything: it is a label: what it is worth is what the hold of that sum in a sandbox is worth. -/
noncomputable def Try.pinned : Pinned := { name := "ytbpeagnldgefeaa", sum := "59ee813c60fe29dc7a061cef1e596d379af0dae4cdff21d9bdce0ecb8bffa8dd", checked := Try.checked }
namespace Rows
def none {H : Type} : Left H := { results := [], args := [] }

/-- 'laws.FnExactProofName': WHATEVER THE INPUT: true; the input reads as it did. -/
def fnExactProofNameSpec : ChangeSpec := { name := "fnExactProofName", fn := fun _ => fun
  | [d] => { results := [.lit (.bool true)], args := [d] }
  | _ => none }
def fnExactProofNameRow : OpenClaim := { program := "ytbpeagnldgefeaa", sum := "59ee813c60fe29dc7a061cef1e596d379af0dae4cdff21d9bdce0ecb8bffa8dd", func := "loop.example/g01079/laws.FnExactProofName", spec := "fnExactProofName", plainKeys := false, apart := false }
def FnExactProofNameSaid : Prop := fnExactProofNameRow.holds Try.pinned (OpenSpec.ofChange fnExactProofNameSpec)

/-- ITS FALSE NEIGHBOUR: 'it returns false'. Refute it at one input. -/
def fnExactProofNameWrong : ChangeSpec := { name := "fnExactProofName", fn := fun _ => fun
  | [d] => { results := [.lit (.bool false)], args := [d] }
  | _ => none }
def FnExactProofNameWrongFalsely : Prop := fnExactProofNameRow.holds Try.pinned (OpenSpec.ofChange fnExactProofNameWrong)

/-- 'laws.FnExactValidDfa': WHATEVER THE INPUT: true; the input reads as it did. -/
def fnExactValidDfaSpec : ChangeSpec := { name := "fnExactValidDfa", fn := fun _ => fun
  | [d1, d2] => { results := [.lit (.bool true)], args := [d1, d2] }
  | _ => none }
def fnExactValidDfaRow : OpenClaim := { program := "ytbpeagnldgefeaa", sum := "59ee813c60fe29dc7a061cef1e596d379af0dae4cdff21d9bdce0ecb8bffa8dd", func := "loop.example/g01079/laws.FnExactValidDfa", spec := "fnExactValidDfa", plainKeys := false, apart := false }
def FnExactValidDfaSaid : Prop := fnExactValidDfaRow.holds Try.pinned (OpenSpec.ofChange fnExactValidDfaSpec)

/-- ITS FALSE NEIGHBOUR: 'it returns false'. Refute it at one input. -/
def fnExactValidDfaWrong : ChangeSpec := { name := "fnExactValidDfa", fn := fun _ => fun
  | [d1, d2] => { results := [.lit (.bool false)], args := [d1, d2] }
  | _ => none }
def FnExactValidDfaWrongFalsely : Prop := fnExactValidDfaRow.holds Try.pinned (OpenSpec.ofChange fnExactValidDfaWrong)

/-- 'laws.FnExactRecentDfa': WHATEVER THE INPUT: true; the input reads as it did. -/
def fnExactRecentDfaSpec : ChangeSpec := { name := "fnExactRecentDfa", fn := fun _ => fun
  | [d1, d2] => { results := [.lit (.bool true)], args := [d1, d2] }
  | _ => none }
def fnExactRecentDfaRow : OpenClaim := { program := "ytbpeagnldgefeaa", sum := "59ee813c60fe29dc7a061cef1e596d379af0dae4cdff21d9bdce0ecb8bffa8dd", func := "loop.example/g01079/laws.FnExactRecentDfa", spec := "fnExactRecentDfa", plainKeys := false, apart := false }
def FnExactRecentDfaSaid : Prop := fnExactRecentDfaRow.holds Try.pinned (OpenSpec.ofChange fnExactRecentDfaSpec)

/-- ITS FALSE NEIGHBOUR: 'it returns false'. Refute it at one input. -/
def fnExactRecentDfaWrong : ChangeSpec := { name := "fnExactRecentDfa", fn := fun _ => fun
  | [d1, d2] => { results := [.lit (.bool false)], args := [d1, d2] }
  | _ => none }
def FnExactRecentDfaWrongFalsely : Prop := fnExactRecentDfaRow.holds Try.pinned (OpenSpec.ofChange fnExactRecentDfaWrong)

/-- 'laws.FnExactDfaAt': WHATEVER THE INPUT: true; the input reads as it did. -/
def fnExactDfaAtSpec : ChangeSpec := { name := "fnExactDfaAt", fn := fun _ => fun
  | [d1, d2, d3] => { results := [.lit (.bool true)], args := [d1, d2, d3] }
  | _ => none }
def fnExactDfaAtRow : OpenClaim := { program := "ytbpeagnldgefeaa", sum := "59ee813c60fe29dc7a061cef1e596d379af0dae4cdff21d9bdce0ecb8bffa8dd", func := "loop.example/g01079/laws.FnExactDfaAt", spec := "fnExactDfaAt", plainKeys := false, apart := false }
def FnExactDfaAtSaid : Prop := fnExactDfaAtRow.holds Try.pinned (OpenSpec.ofChange fnExactDfaAtSpec)

/-- ITS FALSE NEIGHBOUR: 'it returns false'. Refute it at one input. -/
def fnExactDfaAtWrong : ChangeSpec := { name := "fnExactDfaAt", fn := fun _ => fun
  | [d1, d2, d3] => { results := [.lit (.bool false)], args := [d1, d2, d3] }
  | _ => none }
def FnExactDfaAtWrongFalsely : Prop := fnExactDfaAtRow.holds Try.pinned (OpenSpec.ofChange fnExactDfaAtWrong)

/-- 'laws.FnExactRankDfa': WHATEVER THE INPUT: true; the input reads as it did. -/
def fnExactRankDfaSpec : ChangeSpec := { name := "fnExactRankDfa", fn := fun _ => fun
  | [d1, d2] => { results := [.lit (.bool true)], args := [d1, d2] }
  | _ => none }
def fnExactRankDfaRow : OpenClaim := { program := "ytbpeagnldgefeaa", sum := "59ee813c60fe29dc7a061cef1e596d379af0dae4cdff21d9bdce0ecb8bffa8dd", func := "loop.example/g01079/laws.FnExactRankDfa", spec := "fnExactRankDfa", plainKeys := false, apart := false }
def FnExactRankDfaSaid : Prop := fnExactRankDfaRow.holds Try.pinned (OpenSpec.ofChange fnExactRankDfaSpec)

/-- ITS FALSE NEIGHBOUR: 'it returns false'. Refute it at one input. -/
def fnExactRankDfaWrong : ChangeSpec := { name := "fnExactRankDfa", fn := fun _ => fun
  | [d1, d2] => { results := [.lit (.bool false)], args := [d1, d2] }
  | _ => none }
def FnExactRankDfaWrongFalsely : Prop := fnExactRankDfaRow.holds Try.pinned (OpenSpec.ofChange fnExactRankDfaWrong)

/-- 'laws.FnExactRunDfa': WHATEVER THE INPUT: true; the input reads as it did. -/
def fnExactRunDfaSpec : ChangeSpec := { name := "fnExactRunDfa", fn := fun _ => fun
  | [d1, d2, d3] => { results := [.lit (.bool true)], args := [d1, d2, d3] }
  | _ => none }
def fnExactRunDfaRow : OpenClaim := { program := "ytbpeagnldgefeaa", sum := "59ee813c60fe29dc7a061cef1e596d379af0dae4cdff21d9bdce0ecb8bffa8dd", func := "loop.example/g01079/laws.FnExactRunDfa", spec := "fnExactRunDfa", plainKeys := false, apart := false }
def FnExactRunDfaSaid : Prop := fnExactRunDfaRow.holds Try.pinned (OpenSpec.ofChange fnExactRunDfaSpec)

/-- ITS FALSE NEIGHBOUR: 'it returns false'. Refute it at one input. -/
def fnExactRunDfaWrong : ChangeSpec := { name := "fnExactRunDfa", fn := fun _ => fun
  | [d1, d2, d3] => { results := [.lit (.bool false)], args := [d1, d2, d3] }
  | _ => none }
def FnExactRunDfaWrongFalsely : Prop := fnExactRunDfaRow.holds Try.pinned (OpenSpec.ofChange fnExactRunDfaWrong)

/-- 'laws.FnExactTreeAt': WHATEVER THE INPUT: true; the input reads as it did. -/
def fnExactTreeAtSpec : ChangeSpec := { name := "fnExactTreeAt", fn := fun _ => fun
  | [d] => { results := [.lit (.bool true)], args := [d] }
  | _ => none }
def fnExactTreeAtRow : OpenClaim := { program := "ytbpeagnldgefeaa", sum := "59ee813c60fe29dc7a061cef1e596d379af0dae4cdff21d9bdce0ecb8bffa8dd", func := "loop.example/g01079/laws.FnExactTreeAt", spec := "fnExactTreeAt", recurses := true, plainKeys := false, apart := false }
def FnExactTreeAtSaid : Prop := fnExactTreeAtRow.holds Try.pinned (OpenSpec.ofChange fnExactTreeAtSpec)

/-- ITS FALSE NEIGHBOUR: 'it returns false'. Refute it at one input. -/
def fnExactTreeAtWrong : ChangeSpec := { name := "fnExactTreeAt", fn := fun _ => fun
  | [d] => { results := [.lit (.bool false)], args := [d] }
  | _ => none }
def FnExactTreeAtWrongFalsely : Prop := fnExactTreeAtRow.holds Try.pinned (OpenSpec.ofChange fnExactTreeAtWrong)

/-- 'laws.FnExactTagTree': WHATEVER THE INPUT: true; the input reads as it did. -/
def fnExactTagTreeSpec : ChangeSpec := { name := "fnExactTagTree", fn := fun _ => fun
  | [d] => { results := [.lit (.bool true)], args := [d] }
  | _ => none }
def fnExactTagTreeRow : OpenClaim := { program := "ytbpeagnldgefeaa", sum := "59ee813c60fe29dc7a061cef1e596d379af0dae4cdff21d9bdce0ecb8bffa8dd", func := "loop.example/g01079/laws.FnExactTagTree", spec := "fnExactTagTree", recurses := true, plainKeys := false, apart := false }
def FnExactTagTreeSaid : Prop := fnExactTagTreeRow.holds Try.pinned (OpenSpec.ofChange fnExactTagTreeSpec)

/-- ITS FALSE NEIGHBOUR: 'it returns false'. Refute it at one input. -/
def fnExactTagTreeWrong : ChangeSpec := { name := "fnExactTagTree", fn := fun _ => fun
  | [d] => { results := [.lit (.bool false)], args := [d] }
  | _ => none }
def FnExactTagTreeWrongFalsely : Prop := fnExactTagTreeRow.holds Try.pinned (OpenSpec.ofChange fnExactTagTreeWrong)

/-- 'laws.FnExactProductDfa': WHATEVER THE INPUT: true; the input reads as it did. -/
def fnExactProductDfaSpec : ChangeSpec := { name := "fnExactProductDfa", fn := fun _ => fun
  | [d1, d2, d3] => { results := [.lit (.bool true)], args := [d1, d2, d3] }
  | _ => none }
def fnExactProductDfaRow : OpenClaim := { program := "ytbpeagnldgefeaa", sum := "59ee813c60fe29dc7a061cef1e596d379af0dae4cdff21d9bdce0ecb8bffa8dd", func := "loop.example/g01079/laws.FnExactProductDfa", spec := "fnExactProductDfa", plainKeys := false, apart := false }
def FnExactProductDfaSaid : Prop := fnExactProductDfaRow.holds Try.pinned (OpenSpec.ofChange fnExactProductDfaSpec)

/-- ITS FALSE NEIGHBOUR: 'it returns false'. Refute it at one input. -/
def fnExactProductDfaWrong : ChangeSpec := { name := "fnExactProductDfa", fn := fun _ => fun
  | [d1, d2, d3] => { results := [.lit (.bool false)], args := [d1, d2, d3] }
  | _ => none }
def FnExactProductDfaWrongFalsely : Prop := fnExactProductDfaRow.holds Try.pinned (OpenSpec.ofChange fnExactProductDfaWrong)

/-- 'laws.FnExactAddNaturals': WHATEVER THE INPUT: true; the input reads as it did. -/
def fnExactAddNaturalsSpec : ChangeSpec := { name := "fnExactAddNaturals", fn := fun _ => fun
  | [d1, d2] => { results := [.lit (.bool true)], args := [d1, d2] }
  | _ => none }
def fnExactAddNaturalsRow : OpenClaim := { program := "ytbpeagnldgefeaa", sum := "59ee813c60fe29dc7a061cef1e596d379af0dae4cdff21d9bdce0ecb8bffa8dd", func := "loop.example/g01079/laws.FnExactAddNaturals", spec := "fnExactAddNaturals", unfollowed := true, recurses := true, plainKeys := false, apart := false }
def FnExactAddNaturalsSaid : Prop := fnExactAddNaturalsRow.holds Try.pinned (OpenSpec.ofChange fnExactAddNaturalsSpec)

/-- ITS FALSE NEIGHBOUR: 'it returns false'. Refute it at one input. -/
def fnExactAddNaturalsWrong : ChangeSpec := { name := "fnExactAddNaturals", fn := fun _ => fun
  | [d1, d2] => { results := [.lit (.bool false)], args := [d1, d2] }
  | _ => none }
def FnExactAddNaturalsWrongFalsely : Prop := fnExactAddNaturalsRow.holds Try.pinned (OpenSpec.ofChange fnExactAddNaturalsWrong)

/-- 'laws.FnExactItemsOf': WHATEVER THE INPUT: true; the input reads as it did. -/
def fnExactItemsOfSpec : ChangeSpec := { name := "fnExactItemsOf", fn := fun _ => fun
  | [d] => { results := [.lit (.bool true)], args := [d] }
  | _ => none }
def fnExactItemsOfRow : OpenClaim := { program := "ytbpeagnldgefeaa", sum := "59ee813c60fe29dc7a061cef1e596d379af0dae4cdff21d9bdce0ecb8bffa8dd", func := "loop.example/g01079/laws.FnExactItemsOf", spec := "fnExactItemsOf", unfollowed := true, recurses := true, plainKeys := false, apart := false }
def FnExactItemsOfSaid : Prop := fnExactItemsOfRow.holds Try.pinned (OpenSpec.ofChange fnExactItemsOfSpec)

/-- ITS FALSE NEIGHBOUR: 'it returns false'. Refute it at one input. -/
def fnExactItemsOfWrong : ChangeSpec := { name := "fnExactItemsOf", fn := fun _ => fun
  | [d] => { results := [.lit (.bool false)], args := [d] }
  | _ => none }
def FnExactItemsOfWrongFalsely : Prop := fnExactItemsOfRow.holds Try.pinned (OpenSpec.ofChange fnExactItemsOfWrong)

/-- 'laws.FnExactSignedOf': WHATEVER THE INPUT: true; the input reads as it did. -/
def fnExactSignedOfSpec : ChangeSpec := { name := "fnExactSignedOf", fn := fun _ => fun
  | [d] => { results := [.lit (.bool true)], args := [d] }
  | _ => none }
def fnExactSignedOfRow : OpenClaim := { program := "ytbpeagnldgefeaa", sum := "59ee813c60fe29dc7a061cef1e596d379af0dae4cdff21d9bdce0ecb8bffa8dd", func := "loop.example/g01079/laws.FnExactSignedOf", spec := "fnExactSignedOf", plainKeys := false, apart := false }
def FnExactSignedOfSaid : Prop := fnExactSignedOfRow.holds Try.pinned (OpenSpec.ofChange fnExactSignedOfSpec)

/-- ITS FALSE NEIGHBOUR: 'it returns false'. Refute it at one input. -/
def fnExactSignedOfWrong : ChangeSpec := { name := "fnExactSignedOf", fn := fun _ => fun
  | [d] => { results := [.lit (.bool false)], args := [d] }
  | _ => none }
def FnExactSignedOfWrongFalsely : Prop := fnExactSignedOfRow.holds Try.pinned (OpenSpec.ofChange fnExactSignedOfWrong)

/- THE SECOND FORM. 'bulk': how many values and letters a reading holds, each counted each time it is reached (what is shared counts as often as it is met; a slice's spare places count too). A statement '..UptoSaid' is the law's where the arguments, and the package variables that the reading takes, are together of bulk at most 1048576: NARROWER than '..Said'. Prove '..Said' where nothing that the law and all that it calls make is longer than what came in: it says more and counts as full. Else prove '..UptoSaid'. A law counts once. -/
mutual
def uptoBulk {H : Type} : DataW H → Nat
  | .lit (.string bytes) => bytes.length + 1
  | .lit _ => 1
  | .nil => 1
  | .ptr d => uptoBulk d + 1
  | .slice elems spare => uptoBulkAll elems + uptoBulkAll spare + 1
  | .agg parts => uptoBulkAll parts + 1
  | .iface _ d => uptoBulk d + 1
  | .map entries => uptoBulkEntries entries + 1
  | .held _ => 1
def uptoBulkAll {H : Type} : List (DataW H) → Nat
  | [] => 0
  | d :: r => uptoBulk d + uptoBulkAll r
def uptoBulkEntries {H : Type} : List (Lit × DataW H) → Nat
  | [] => 0
  | x :: r => uptoBulkEntry x + uptoBulkEntries r
def uptoBulkEntry {H : Type} : Lit × DataW H → Nat
  | (.string bytes, d) => bytes.length + uptoBulk d + 1
  | (_, d) => uptoBulk d + 1
 end
def uptoSmall : (H : Type) → List (DataW H) → Bool := fun _ ds => decide (uptoBulkAll ds ≤ 1048576)
def OpenSpec.upto (s : _root_.Go.ChangeSpec) : _root_.Go.OpenSpec := { _root_.Go.OpenSpec.ofChange s with cond := some uptoSmall }

/-- 'laws.FnExactProofName', WHERE WHAT IT READS IS OF BULK AT MOST 1048576: true; the input reads as it did. -/
def fnExactProofNameUptoRow : OpenClaim := { program := "ytbpeagnldgefeaa", sum := "59ee813c60fe29dc7a061cef1e596d379af0dae4cdff21d9bdce0ecb8bffa8dd", func := "loop.example/g01079/laws.FnExactProofName", spec := "fnExactProofName", plainKeys := false, apart := false, narrowed := true }
def FnExactProofNameUptoSaid : Prop := fnExactProofNameUptoRow.holds Try.pinned (OpenSpec.upto fnExactProofNameSpec)

/-- 'laws.FnExactValidDfa', WHERE WHAT IT READS IS OF BULK AT MOST 1048576: true; the input reads as it did. -/
def fnExactValidDfaUptoRow : OpenClaim := { program := "ytbpeagnldgefeaa", sum := "59ee813c60fe29dc7a061cef1e596d379af0dae4cdff21d9bdce0ecb8bffa8dd", func := "loop.example/g01079/laws.FnExactValidDfa", spec := "fnExactValidDfa", plainKeys := false, apart := false, narrowed := true }
def FnExactValidDfaUptoSaid : Prop := fnExactValidDfaUptoRow.holds Try.pinned (OpenSpec.upto fnExactValidDfaSpec)

/-- 'laws.FnExactRecentDfa', WHERE WHAT IT READS IS OF BULK AT MOST 1048576: true; the input reads as it did. -/
def fnExactRecentDfaUptoRow : OpenClaim := { program := "ytbpeagnldgefeaa", sum := "59ee813c60fe29dc7a061cef1e596d379af0dae4cdff21d9bdce0ecb8bffa8dd", func := "loop.example/g01079/laws.FnExactRecentDfa", spec := "fnExactRecentDfa", plainKeys := false, apart := false, narrowed := true }
def FnExactRecentDfaUptoSaid : Prop := fnExactRecentDfaUptoRow.holds Try.pinned (OpenSpec.upto fnExactRecentDfaSpec)

/-- 'laws.FnExactDfaAt', WHERE WHAT IT READS IS OF BULK AT MOST 1048576: true; the input reads as it did. -/
def fnExactDfaAtUptoRow : OpenClaim := { program := "ytbpeagnldgefeaa", sum := "59ee813c60fe29dc7a061cef1e596d379af0dae4cdff21d9bdce0ecb8bffa8dd", func := "loop.example/g01079/laws.FnExactDfaAt", spec := "fnExactDfaAt", plainKeys := false, apart := false, narrowed := true }
def FnExactDfaAtUptoSaid : Prop := fnExactDfaAtUptoRow.holds Try.pinned (OpenSpec.upto fnExactDfaAtSpec)

/-- 'laws.FnExactRankDfa', WHERE WHAT IT READS IS OF BULK AT MOST 1048576: true; the input reads as it did. -/
def fnExactRankDfaUptoRow : OpenClaim := { program := "ytbpeagnldgefeaa", sum := "59ee813c60fe29dc7a061cef1e596d379af0dae4cdff21d9bdce0ecb8bffa8dd", func := "loop.example/g01079/laws.FnExactRankDfa", spec := "fnExactRankDfa", plainKeys := false, apart := false, narrowed := true }
def FnExactRankDfaUptoSaid : Prop := fnExactRankDfaUptoRow.holds Try.pinned (OpenSpec.upto fnExactRankDfaSpec)

/-- 'laws.FnExactRunDfa', WHERE WHAT IT READS IS OF BULK AT MOST 1048576: true; the input reads as it did. -/
def fnExactRunDfaUptoRow : OpenClaim := { program := "ytbpeagnldgefeaa", sum := "59ee813c60fe29dc7a061cef1e596d379af0dae4cdff21d9bdce0ecb8bffa8dd", func := "loop.example/g01079/laws.FnExactRunDfa", spec := "fnExactRunDfa", plainKeys := false, apart := false, narrowed := true }
def FnExactRunDfaUptoSaid : Prop := fnExactRunDfaUptoRow.holds Try.pinned (OpenSpec.upto fnExactRunDfaSpec)

/-- 'laws.FnExactTreeAt', WHERE WHAT IT READS IS OF BULK AT MOST 1048576: true; the input reads as it did. -/
def fnExactTreeAtUptoRow : OpenClaim := { program := "ytbpeagnldgefeaa", sum := "59ee813c60fe29dc7a061cef1e596d379af0dae4cdff21d9bdce0ecb8bffa8dd", func := "loop.example/g01079/laws.FnExactTreeAt", spec := "fnExactTreeAt", recurses := true, plainKeys := false, apart := false, narrowed := true }
def FnExactTreeAtUptoSaid : Prop := fnExactTreeAtUptoRow.holds Try.pinned (OpenSpec.upto fnExactTreeAtSpec)

/-- 'laws.FnExactTagTree', WHERE WHAT IT READS IS OF BULK AT MOST 1048576: true; the input reads as it did. -/
def fnExactTagTreeUptoRow : OpenClaim := { program := "ytbpeagnldgefeaa", sum := "59ee813c60fe29dc7a061cef1e596d379af0dae4cdff21d9bdce0ecb8bffa8dd", func := "loop.example/g01079/laws.FnExactTagTree", spec := "fnExactTagTree", recurses := true, plainKeys := false, apart := false, narrowed := true }
def FnExactTagTreeUptoSaid : Prop := fnExactTagTreeUptoRow.holds Try.pinned (OpenSpec.upto fnExactTagTreeSpec)

/-- 'laws.FnExactProductDfa', WHERE WHAT IT READS IS OF BULK AT MOST 1048576: true; the input reads as it did. -/
def fnExactProductDfaUptoRow : OpenClaim := { program := "ytbpeagnldgefeaa", sum := "59ee813c60fe29dc7a061cef1e596d379af0dae4cdff21d9bdce0ecb8bffa8dd", func := "loop.example/g01079/laws.FnExactProductDfa", spec := "fnExactProductDfa", plainKeys := false, apart := false, narrowed := true }
def FnExactProductDfaUptoSaid : Prop := fnExactProductDfaUptoRow.holds Try.pinned (OpenSpec.upto fnExactProductDfaSpec)

/-- 'laws.FnExactAddNaturals', WHERE WHAT IT READS IS OF BULK AT MOST 1048576: true; the input reads as it did. -/
def fnExactAddNaturalsUptoRow : OpenClaim := { program := "ytbpeagnldgefeaa", sum := "59ee813c60fe29dc7a061cef1e596d379af0dae4cdff21d9bdce0ecb8bffa8dd", func := "loop.example/g01079/laws.FnExactAddNaturals", spec := "fnExactAddNaturals", unfollowed := true, recurses := true, plainKeys := false, apart := false, narrowed := true }
def FnExactAddNaturalsUptoSaid : Prop := fnExactAddNaturalsUptoRow.holds Try.pinned (OpenSpec.upto fnExactAddNaturalsSpec)

/-- 'laws.FnExactItemsOf', WHERE WHAT IT READS IS OF BULK AT MOST 1048576: true; the input reads as it did. -/
def fnExactItemsOfUptoRow : OpenClaim := { program := "ytbpeagnldgefeaa", sum := "59ee813c60fe29dc7a061cef1e596d379af0dae4cdff21d9bdce0ecb8bffa8dd", func := "loop.example/g01079/laws.FnExactItemsOf", spec := "fnExactItemsOf", unfollowed := true, recurses := true, plainKeys := false, apart := false, narrowed := true }
def FnExactItemsOfUptoSaid : Prop := fnExactItemsOfUptoRow.holds Try.pinned (OpenSpec.upto fnExactItemsOfSpec)

/-- 'laws.FnExactSignedOf', WHERE WHAT IT READS IS OF BULK AT MOST 1048576: true; the input reads as it did. -/
def fnExactSignedOfUptoRow : OpenClaim := { program := "ytbpeagnldgefeaa", sum := "59ee813c60fe29dc7a061cef1e596d379af0dae4cdff21d9bdce0ecb8bffa8dd", func := "loop.example/g01079/laws.FnExactSignedOf", spec := "fnExactSignedOf", plainKeys := false, apart := false, narrowed := true }
def FnExactSignedOfUptoSaid : Prop := fnExactSignedOfUptoRow.holds Try.pinned (OpenSpec.upto fnExactSignedOfSpec)

end Rows
end Go.Proofs.Ytbpeagnldgefeaa
