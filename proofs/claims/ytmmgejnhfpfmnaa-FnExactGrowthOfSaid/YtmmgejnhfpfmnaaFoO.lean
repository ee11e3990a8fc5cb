/-
  A formula tape as a result, in memory of the call's own.
-/
import Derived.Test.YtmmgejnhfpfmnaaC27t
namespace Go.Proofs.Ytmmgejnhfpfmnaa
open Go.RowKit

theorem sumN_bound {B : Nat} : ∀ {its : List It}, (∀ t ∈ its, t.n ≤ B) → sumN its ≤ its.length * B
  | [], _ => by simp [sumN]
  | t :: l, h => by
    have h1 := h t (by simp)
    have h2 := sumN_bound (its := l) fun u hu => h u (by simp [hu])
    rw [sumN, List.length_cons, Nat.add_mul]; omega
/-- .. in memory of the call's own -/
def FoOut2 (R : FR × Int) (w : World) (e : Ending) (w' : World) : Prop :=
  ∃ A0 n0 c0 its0 A1 n1 c1 its1 A2 n2 c2, e = .returned (.tuple #[.agg #[.int .i64 R.1.1, .int .i64 R.1.2.1, .int .i64 R.1.2.2.1, .slice A0 n0 c0, .slice A1 n1 c1, .slice A2 n2 c2], .int .i64 R.2]) ∧
    WrS w' w.heap.size w'.heap.size (sgII A0 n0 its0 ++ sgII A1 n1 its1 ++ [sgI A2 n2 R.1.2.2.2.2.2]) ∧
    (n0 ≤ 1000 ∧ n1 ≤ 1000 ∧ n2 ≤ 1000 ∧ (∀ t ∈ its0, t.n ≤ 100000) ∧ sumN its0 ≤ 100000000 ∧ its0.map It.xs = R.1.2.2.2.1 ∧ (∀ t ∈ its1, t.n ≤ 100000) ∧ sumN its1 ≤ 100000000 ∧ its1.map It.xs = R.1.2.2.2.2.1) ∧ Below w.heap.size w w'
theorem FoOut.two {R : FR × Int} {w w' : World} {e : Ending} (h : FoOut R w e w') : FoOut2 R w e w' := by
  obtain ⟨A0, n0, c0, its0, A1, n1, c1, its1, A2, n2, c2, he, ⟨h1, h2, h3, h4, h5, h6, h7, h8⟩, hb⟩ := h
  have l0 := RdII.len h1.rd.left.left; have l1 := RdII.len h1.rd.left.right
  have s0 := sumN_bound h7; have s1 := sumN_bound h8
  have m0 : its0.length * 100000 ≤ 1000 * 100000 := Nat.mul_le_mul_right _ (by omega)
  have m1 : its1.length * 100000 ≤ 1000 * 100000 := Nat.mul_le_mul_right _ (by omega)
  exact ⟨A0, n0, c0, its0, A1, n1, c1, its1, A2, n2, c2, he, h1, ⟨h4, h5, h6, h7, by omega, h2, h8, by omega, h3⟩, hb⟩
end Go.Proofs.Ytmmgejnhfpfmnaa
