/-
  No cell of these rows narrows 'for every input' (looked for: loops, veiled, ifaces, maps, wideKeys, modest, calm, conditions, laid).
  DERIVED. THE GIVEN ROWS OF THIS SEAT. 4 by the template 'for every input the law returns true; each argument reads behind the call as it read before'; 0 by the template 'total and deterministic' (their statements: YtfgnhdmiglobhaaTotals.lean).
  GIVEN WITH THE SEED: the statements are not yours to turn. If you find one false, say at which input.
  Laid BY PROGRAM, IN A SANDBOX (cutbox-rows.mjs): the forced cells as the released guide's own fill.sh prints them over the translation f9a92dc977d7bfbf… (all of the seat's roots in one cut). By AI agents, Wed Nov 11 2026. No macro, syntax, notation, axiom, sorry.
-/
import Derived.Test.YtfgnhdmiglobhaaChecked
import GoSem.Claim
import GoSem.ClaimJoined
import GoSem.ClaimMapViews
import Derived.JoinedTies
import Derived.KernelRfl
namespace Go.Proofs.Ytfgnhdmiglobhaa
/- THE CELL 'sum', in the pinned program and in every row, IS THE sha256 OF THE DUMP (.gsa) THAT YtfgnhdmiglobhaaProg.lean LOADS. Nothing in Lean hashes anything: it is a label: what it is worth is what the hold of that sum in a sandbox is worth. -/
noncomputable def Try.pinned : Pinned := { name := "ytfgnhdmiglobhaa", sum := "f9a92dc977d7bfbf0242e5c1ecf01404f9fe311cbc8e567bd2a8961214802a7c", checked := Try.checked }
namespace Rows
def none {H : Type} : Left H := { results := [], args := [] }

/-- 'laws.FnExactRunComb': WHATEVER THE INPUT: true; the input reads as it did. -/
def fnExactRunCombSpec : ChangeSpec := { name := "fnExactRunComb", fn := fun _ => fun
  | [d1, d2] => { results := [.lit (.bool true)], args := [d1, d2] }
  | _ => none }
def fnExactRunCombRow : OpenClaim := { program := "ytfgnhdmiglobhaa", sum := "f9a92dc977d7bfbf0242e5c1ecf01404f9fe311cbc8e567bd2a8961214802a7c", func := "loop.example/g01079/laws.FnExactRunComb", spec := "fnExactRunComb", unfollowed := true, recurses := true, apart := false }
def FnExactRunCombSaid : Prop := fnExactRunCombRow.holds Try.pinned (OpenSpec.ofChange fnExactRunCombSpec)

/-- ITS FALSE NEIGHBOUR: 'it returns false'. Refute it at one input. -/
def fnExactRunCombWrong : ChangeSpec := { name := "fnExactRunComb", fn := fun _ => fun
  | [d1, d2] => { results := [.lit (.bool false)], args := [d1, d2] }
  | _ => none }
def FnExactRunCombWrongFalsely : Prop := fnExactRunCombRow.holds Try.pinned (OpenSpec.ofChange fnExactRunCombWrong)

/-- 'laws.FnExactNumeralOfComb': WHATEVER THE INPUT: true; the input reads as it did. -/
def fnExactNumeralOfCombSpec : ChangeSpec := { name := "fnExactNumeralOfComb", fn := fun _ => fun
  | [d1, d2] => { results := [.lit (.bool true)], args := [d1, d2] }
  | _ => none }
def fnExactNumeralOfCombRow : OpenClaim := { program := "ytfgnhdmiglobhaa", sum := "f9a92dc977d7bfbf0242e5c1ecf01404f9fe311cbc8e567bd2a8961214802a7c", func := "loop.example/g01079/laws.FnExactNumeralOfComb", spec := "fnExactNumeralOfComb", unfollowed := true, recurses := true, apart := false }
def FnExactNumeralOfCombSaid : Prop := fnExactNumeralOfCombRow.holds Try.pinned (OpenSpec.ofChange fnExactNumeralOfCombSpec)

/-- ITS FALSE NEIGHBOUR: 'it returns false'. Refute it at one input. -/
def fnExactNumeralOfCombWrong : ChangeSpec := { name := "fnExactNumeralOfComb", fn := fun _ => fun
  | [d1, d2] => { results := [.lit (.bool false)], args := [d1, d2] }
  | _ => none }
def FnExactNumeralOfCombWrongFalsely : Prop := fnExactNumeralOfCombRow.holds Try.pinned (OpenSpec.ofChange fnExactNumeralOfCombWrong)

/-- 'laws.FnExactAgreeComb': WHATEVER THE INPUT: true; the input reads as it did. -/
def fnExactAgreeCombSpec : ChangeSpec := { name := "fnExactAgreeComb", fn := fun _ => fun
  | [d1, d2, d3, d4] => { results := [.lit (.bool true)], args := [d1, d2, d3, d4] }
  | _ => none }
def fnExactAgreeCombRow : OpenClaim := { program := "ytfgnhdmiglobhaa", sum := "f9a92dc977d7bfbf0242e5c1ecf01404f9fe311cbc8e567bd2a8961214802a7c", func := "loop.example/g01079/laws.FnExactAgreeComb", spec := "fnExactAgreeComb", unfollowed := true, recurses := true, apart := false }
def FnExactAgreeCombSaid : Prop := fnExactAgreeCombRow.holds Try.pinned (OpenSpec.ofChange fnExactAgreeCombSpec)

/-- ITS FALSE NEIGHBOUR: 'it returns false'. Refute it at one input. -/
def fnExactAgreeCombWrong : ChangeSpec := { name := "fnExactAgreeComb", fn := fun _ => fun
  | [d1, d2, d3, d4] => { results := [.lit (.bool false)], args := [d1, d2, d3, d4] }
  | _ => none }
def FnExactAgreeCombWrongFalsely : Prop := fnExactAgreeCombRow.holds Try.pinned (OpenSpec.ofChange fnExactAgreeCombWrong)

/-- 'laws.FnExactNormalizeLam': WHATEVER THE INPUT: true; the input reads as it did. -/
def fnExactNormalizeLamSpec : ChangeSpec := { name := "fnExactNormalizeLam", fn := fun _ => fun
  | [d1, d2] => { results := [.lit (.bool true)], args := [d1, d2] }
  | _ => none }
def fnExactNormalizeLamRow : OpenClaim := { program := "ytfgnhdmiglobhaa", sum := "f9a92dc977d7bfbf0242e5c1ecf01404f9fe311cbc8e567bd2a8961214802a7c", func := "loop.example/g01079/laws.FnExactNormalizeLam", spec := "fnExactNormalizeLam", unfollowed := true, recurses := true, apart := false }
def FnExactNormalizeLamSaid : Prop := fnExactNormalizeLamRow.holds Try.pinned (OpenSpec.ofChange fnExactNormalizeLamSpec)

/-- ITS FALSE NEIGHBOUR: 'it returns false'. Refute it at one input. -/
def fnExactNormalizeLamWrong : ChangeSpec := { name := "fnExactNormalizeLam", fn := fun _ => fun
  | [d1, d2] => { results := [.lit (.bool false)], args := [d1, d2] }
  | _ => none }
def FnExactNormalizeLamWrongFalsely : Prop := fnExactNormalizeLamRow.holds Try.pinned (OpenSpec.ofChange fnExactNormalizeLamWrong)

/- THE SECOND FORM. 'bulk': how many values and letters a reading holds, each counted each time it is reached (what is shared counts as often as it is met; a slice's spare places count too). A statement '..UptoSaid' is the law's where the arguments, and the package variables that the reading takes, are together of bulk at most 1048576: NARROWER than '..Said'. Prove '..Said' where nothing that the law and all that it calls make is longer than what came in: it says more and counts as full. Else prove '..UptoSaid'. A law counts once. -/
mutual
def uptoBulk {H : Type} : DataW H → Nat
  | .lit (.string bytes) => bytes.length + 1
  | .lit _ => 1
  | .nil => 1
  | .ptr d => uptoBulk d + 1
  | .slice elems spare => uptoBulkAll elems + uptoBulkAll spare + 1
  | .agg parts => uptoBulkAll parts + 1
  | .iface _ d => uptoBulk d + 1
  | .map entries => uptoBulkEntries entries + 1
  | .held _ => 1
def uptoBulkAll {H : Type} : List (DataW H) → Nat
  | [] => 0
  | d :: r => uptoBulk d + uptoBulkAll r
def uptoBulkEntries {H : Type} : List (Lit × DataW H) → Nat
  | [] => 0
  | x :: r => uptoBulkEntry x + uptoBulkEntries r
def uptoBulkEntry {H : Type} : Lit × DataW H → Nat
  | (.string bytes, d) => bytes.length + uptoBulk d + 1
  | (_, d) => uptoBulk d + 1
 end
def uptoSmall : (H : Type) → List (DataW H) → Bool := fun _ ds => decide (uptoBulkAll ds ≤ 1048576)
def OpenSpec.upto (s : _root_.Go.ChangeSpec) : _root_.Go.OpenSpec := { _root_.Go.OpenSpec.ofChange s with cond := some uptoSmall }

/-- 'laws.FnExactRunComb', WHERE WHAT IT READS IS OF BULK AT MOST 1048576: true; the input reads as it did. -/
def fnExactRunCombUptoRow : OpenClaim := { program := "ytfgnhdmiglobhaa", sum := "f9a92dc977d7bfbf0242e5c1ecf01404f9fe311cbc8e567bd2a8961214802a7c", func := "loop.example/g01079/laws.FnExactRunComb", spec := "fnExactRunComb", unfollowed := true, recurses := true, apart := false, narrowed := true }
def FnExactRunCombUptoSaid : Prop := fnExactRunCombUptoRow.holds Try.pinned (OpenSpec.upto fnExactRunCombSpec)

/-- 'laws.FnExactNumeralOfComb', WHERE WHAT IT READS IS OF BULK AT MOST 1048576: true; the input reads as it did. -/
def fnExactNumeralOfCombUptoRow : OpenClaim := { program := "ytfgnhdmiglobhaa", sum := "f9a92dc977d7bfbf0242e5c1ecf01404f9fe311cbc8e567bd2a8961214802a7c", func := "loop.example/g01079/laws.FnExactNumeralOfComb", spec := "fnExactNumeralOfComb", unfollowed := true, recurses := true, apart := false, narrowed := true }
def FnExactNumeralOfCombUptoSaid : Prop := fnExactNumeralOfCombUptoRow.holds Try.pinned (OpenSpec.upto fnExactNumeralOfCombSpec)

/-- 'laws.FnExactAgreeComb', WHERE WHAT IT READS IS OF BULK AT MOST 1048576: true; the input reads as it did. -/
def fnExactAgreeCombUptoRow : OpenClaim := { program := "ytfgnhdmiglobhaa", sum := "f9a92dc977d7bfbf0242e5c1ecf01404f9fe311cbc8e567bd2a8961214802a7c", func := "loop.example/g01079/laws.FnExactAgreeComb", spec := "fnExactAgreeComb", unfollowed := true, recurses := true, apart := false, narrowed := true }
def FnExactAgreeCombUptoSaid : Prop := fnExactAgreeCombUptoRow.holds Try.pinned (OpenSpec.upto fnExactAgreeCombSpec)

/-- 'laws.FnExactNormalizeLam', WHERE WHAT IT READS IS OF BULK AT MOST 1048576: true; the input reads as it did. -/
def fnExactNormalizeLamUptoRow : OpenClaim := { program := "ytfgnhdmiglobhaa", sum := "f9a92dc977d7bfbf0242e5c1ecf01404f9fe311cbc8e567bd2a8961214802a7c", func := "loop.example/g01079/laws.FnExactNormalizeLam", spec := "fnExactNormalizeLam", unfollowed := true, recurses := true, apart := false, narrowed := true }
def FnExactNormalizeLamUptoSaid : Prop := fnExactNormalizeLamUptoRow.holds Try.pinned (OpenSpec.upto fnExactNormalizeLamSpec)

end Rows
end Go.Proofs.Ytfgnhdmiglobhaa
