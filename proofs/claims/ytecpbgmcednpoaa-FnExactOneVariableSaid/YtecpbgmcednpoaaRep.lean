/-
  slices.Repeat of a list of one number: a row of so many.
-/
import Derived.Test.YtecpbgmcednpoaaC01
import Derived.Test.YtecpbgmcednpoaaApp
import Derived.Laws.CopyOwn
namespace Go.Proofs.Ytecpbgmcednpoaa
open Go.RowKit

/-- q cells done of m -/
def repCells (m q : Nat) (v : Int) : List Value := List.replicate q (i64 v) ++ List.replicate (m - q) (i64 0)
theorem repCells_len {m q : Nat} {v : Int} (h : q ≤ m) : (repCells m q v).length = m := by simp [repCells]; omega
theorem repCells_splice {m q d : Nat} {v : Int} (_h : q + d ≤ m) : splice (repCells m q v) q (List.replicate d (i64 v)) = repCells m (q + d) v := by
  unfold splice repCells
  rw [List.take_left' (by simp), List.length_replicate, List.drop_append, List.length_replicate, show q + d - q = d by omega, List.drop_eq_nil_of_le (by simp), List.nil_append, List.drop_replicate, ← List.append_assoc, List.replicate_append_replicate, show m - q - d = m - (q + d) by omega]
theorem repCells_full {m : Nat} {v : Int} : repCells m m v = (List.replicate m v).map i64 := by simp [repCells]
theorem copy_run {P : Program} (dT sT ty elem : TypeId) (hu : P.underlying dT = some (.slice elem)) (hsz : (P.info? elem).map (·.size) = some 1) (g off dLen dCap : Nat) (ad : Addr) (sLen sCap : Nat) (cur : List Value) (t : TypeId) (w : World) (hg : w.heap[g]? = some (.cells cur.toArray t (0, 0)))
    (cs : List Value) (hn : cs.length = Nat.min sLen dLen) (hsrc : ∀ j v, cs[j]? = some v → w.cell? (ad.add j) = some v) (hfit : off + cs.length ≤ cur.length) (h1 : ∀ v ∈ cs, v.oneCell' = true) (B : Nat) (w0 : World) (hb : Below B w0 w) (hBg : B ≤ g) :
    ∃ w', (Builtin.copy_ #[dT, sT] ty #[.slice (some ⟨g, off, none⟩) dLen dCap, .slice (some ad) sLen sCap]).run P w = .ok (.int .i64 cs.length) w' ∧ w'.heap[g]? = some (.cells (splice cur off cs).toArray t (0, 0)) ∧ Below B w0 w' :=
  ⟨_, run_copy_row (P := P) w dT sT ty elem g off dLen dCap ad sLen sCap cur.toArray t cs hu hsz hg hn hsrc (by simpa using hfit) h1, by simpa [splice] using setRow_heap w g _ _ t _ hg, below_setRow hb hBg _⟩
set_option maxHeartbeats 4000000 in
theorem mul1_c (m : Nat) (hm : m ≤ 11) (w : World) : Calls Try.prog 99 #[.int .u64 1, .int .u64 m] w fun e w' => e = .returned (.tuple #[.int .u64 0, .int .u64 m]) ∧ w = w' := by
  have h : m = 0 ∨ m = 1 ∨ m = 2 ∨ m = 3 ∨ m = 4 ∨ m = 5 ∨ m = 6 ∨ m = 7 ∨ m = 8 ∨ m = 9 ∨ m = 10 ∨ m = 11 := by omega
  rcases h with rfl | rfl | rfl | rfl | rfl | rfl | rfl | rfl | rfl | rfl | rfl | rfl
  all_goals
    go_enter Try.func99, Try.ntmps99
    go_wp2
    go_ret2
    exact ⟨rfl, rfl⟩
end Go.Proofs.Ytecpbgmcednpoaa
