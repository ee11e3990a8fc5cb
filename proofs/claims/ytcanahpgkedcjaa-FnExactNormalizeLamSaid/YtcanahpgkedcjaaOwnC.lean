/-
  A slice of the call's own, cut down. Nothing of the program.
-/
import Derived.Test.YtcanahpgkedcjaaApp
namespace Go.Proofs.Ytcanahpgkedcjaa
open Go.RowKit

theorem Own.cut {w : World} {B k n m c : Nat} {e : TypeId} {A : Option Addr} {vs : List Value} (h : Own w B e k A n c vs) (hm : m ≤ n) (hA : A ≠ none) : Own w B e k A m c (vs.take (m * k)) := by
  refine ⟨by rw [List.length_take, h.1, Nat.min_eq_left (Nat.mul_le_mul_right k hm)], ?_⟩
  rcases h.2 with ⟨hv, h0⟩ | ⟨g, cap, cur, hv, hB, hh, h1, h2, h3, h4⟩
  · injection hv with ha; exact absurd ha hA
  · injection hv with ha _ hc
    subst hc
    exact .inr ⟨g, c, cur, by rw [ha], hB, hh, by omega, h2, h3, by rw [← h4, List.take_take, Nat.min_eq_left (Nat.mul_le_mul_right k hm)]⟩
theorem Own.fullK {w : World} {B k m : Nat} {e : TypeId} {vs : List Value} {cs : Array Value} (hB : B ≤ w.heap.size) (hv : cs.toList = vs) (hl : vs.length = m * k) (hm : m ≤ 1000000) : Own (w.alloc (.cells cs e)) B e k (some ⟨w.heap.size, 0, none⟩) m m vs := by
  refine ⟨hl, .inr ⟨w.heap.size, m, cs, rfl, hB, heap_alloc_new w _, Nat.le_refl _, by simp [maxLen]; omega, ?_, ?_⟩⟩
  · rw [← Array.length_toList, hv, hl]
  · rw [hv]; exact List.take_of_length_le (by rw [hl]; exact Nat.le_refl _)
end Go.Proofs.Ytcanahpgkedcjaa
