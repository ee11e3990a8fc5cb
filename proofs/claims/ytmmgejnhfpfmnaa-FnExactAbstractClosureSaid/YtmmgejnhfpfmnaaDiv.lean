/-
  Bounds of a quotient; rows that stay.
-/
import Derived.Test.YtmmgejnhfpfmnaaOwnS
namespace Go.Proofs.Ytmmgejnhfpfmnaa
open Go.RowKit

theorem div_bd {sy : Int} {k n : Nat} (hsy : 2 ≤ sy ∧ sy ≤ 6) (hk : k < n) (hn : n ≤ 10000) : -9223372036854775808 ≤ (k : Int) / sy ∧ (k : Int) / sy ≤ 9223372036854775807 := by
  have h1 := Int.ediv_nonneg (show (0 : Int) ≤ k by omega) (show 0 ≤ sy by omega)
  have h2 := Int.ediv_le_self sy (show (0 : Int) ≤ k by omega)
  omega
theorem WrS.stay {w w' : World} {lo hi : Nat} {ss : List Seg} (h : WrS w lo hi ss) (hk : ∀ b, lo ≤ b → b < hi → b < w.heap.size → w'.heap[b]? = w.heap[b]?) (hz : w.heap.size ≤ w'.heap.size) : WrS w' lo hi ss :=
  ⟨fun s hs => (h.each s hs).move (fun ad hn e => by
    obtain ⟨ad', e', h1, h2, h3, _⟩ := (h.each s hs).2 hn
    rw [e] at e'; injection e' with e'; subst e'; exact hk _ h1 h2 h3) hz (Nat.le_refl _), h.apart⟩
end Go.Proofs.Ytmmgejnhfpfmnaa
