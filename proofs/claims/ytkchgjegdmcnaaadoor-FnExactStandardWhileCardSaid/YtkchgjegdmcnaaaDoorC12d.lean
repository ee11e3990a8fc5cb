/-
  Contracts of chapter 12: the reference's run of a combinator term.
-/
import Derived.Test.YtkchgjegdmcnaaaDoorC12c
namespace Go.Proofs.YtkchgjegdmcnaaaDoor
open Go.RowKit

theorem results_tmp4 {fn : Func} {t u v x : Tmp} (h : fn.results = #[.tmp t, .tmp u, .tmp v, .tmp x]) (tmps : Array Value) (P : Program) (w : World) :
    (results fn tmps).run P w = .ok (.tuple #[tmps.getD t undef, tmps.getD u undef, tmps.getD v undef, tmps.getD x undef]) w := by
  simp [results, h]
/-- the run's answer: the term, the steps, whether it is normal, whether all was valid -/
def RunOut (R : Option (List (Int × Int) × Nat × Bool)) (w : World) (e : Ending) (w' : World) : Prop := match R with
  | none => e = .returned (.tuple #[.slice none 0 0, .int .i64 0, .bool false, .bool false]) ∧ Below w.heap.size w w'
  | some (t, s, q) => ∃ A N cap, e = .returned (.tuple #[.slice A N cap, .int .i64 s, .bool q, .bool true]) ∧ Wr w' w.heap.size w'.heap.size A (N * 2) (t.flatMap enc2) ∧ t.length = N ∧ N ≤ cap ∧ Below w.heap.size w w'
/-- a term, the steps, whether it is normal, a code -/
def RcOut (R : List (Int × Int) × Int × Bool × Int) (w : World) (e : Ending) (w' : World) : Prop := ∃ A N cap, e = .returned (.tuple #[.slice A N cap, .int .i64 R.2.1, .bool R.2.2.1, .int .i64 R.2.2.2]) ∧ Wr w' w.heap.size w'.heap.size A (N * 2) (R.1.flatMap enc2) ∧ N ≤ 1000000 ∧ Below w.heap.size w w'
theorem RcOut.bad {w w' : World} (k : Int) (h : Below w.heap.size w w') : RcOut ([], 0, false, k) w (.returned (.tuple #[.slice none 0 0, .int .i64 0, .bool false, .int .i64 k])) w' := ⟨none, 0, 0, rfl, Wr.nil, by omega, h⟩
end Go.Proofs.YtkchgjegdmcnaaaDoor
