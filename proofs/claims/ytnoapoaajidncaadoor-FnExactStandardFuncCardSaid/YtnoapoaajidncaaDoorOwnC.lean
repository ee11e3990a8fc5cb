/-
  A slice of the call's own, cut down. Nothing of the program.
-/
import Derived.Test.YtnoapoaajidncaaDoorApp
namespace Go.Proofs.YtnoapoaajidncaaDoor
open Go.RowKit

theorem Own.cut {w : World} {B k n m c : Nat} {e : TypeId} {A : Option Addr} {vs : List Value} (h : Own w B e k A n c vs) (hm : m ≤ n) (hA : A ≠ none) : Own w B e k A m c (vs.take (m * k)) := by
  refine ⟨by rw [List.length_take, h.1, Nat.min_eq_left (Nat.mul_le_mul_right k hm)], ?_⟩
  rcases h.2 with ⟨hv, h0⟩ | ⟨g, cap, cur, hv, hB, hh, h1, h2, h3, h4⟩
  · injection hv with ha; exact absurd ha hA
  · injection hv with ha _ hc
    subst hc
    exact .inr ⟨g, c, cur, by rw [ha], hB, hh, by omega, h2, h3, by rw [← h4, List.take_take, Nat.min_eq_left (Nat.mul_le_mul_right k hm)]⟩
theorem Own.fullK {w : World} {B k m : Nat} {e : TypeId} {vs : List Value} {cs : Array Value} (hB : B ≤ w.heap.size) (hv : cs.toList = vs) (hl : vs.length = m * k) (hm : m ≤ 1000000) : Own (w.alloc (.cells cs e)) B e k (some ⟨w.heap.size, 0, none⟩) m m vs := by
  refine ⟨hl, .inr ⟨w.heap.size, m, cs, rfl, hB, heap_alloc_new w _, Nat.le_refl _, by simp [maxLen]; omega, ?_, ?_⟩⟩
  · rw [← Array.length_toList, hv, hl]
  · rw [hv]; exact List.take_of_length_le (by rw [hl]; exact Nat.le_refl _)
theorem Own.widen {w : World} {B B' : Nat} {e : TypeId} {size n c : Nat} {A : Option Addr} {vs : List Value} (h : Own w B e size A n c vs) (hB : B' ≤ B) : Own w B' e size A n c vs := by
  refine ⟨h.1, ?_⟩
  rcases h.2 with h1 | ⟨g, cap, cur, hv, h2, h3⟩
  · exact .inl h1
  · exact .inr ⟨g, cap, cur, hv, Nat.le_trans hB h2, h3⟩
theorem Rd.atBlk {w w' : World} {A : Option Addr} {n : Nat} {vs : List Value} (h : Rd w A n vs) (hk : ∀ a, A = some a → 0 < n → w'.heap[a.block]? = w.heap[a.block]?) (hs : w.heap.size ≤ w'.heap.size) : Rd w' A n vs :=
  ⟨h.1, fun hn => by
    obtain ⟨ad, e, hlt, hc⟩ := h.2 hn
    exact ⟨ad, e, Nat.lt_of_lt_of_le hlt hs, fun j u hu => (World.cell?_of_block (a := ad.add j) (by rw [block_add]; exact hk ad e hn)).trans (hc j u hu)⟩⟩
end Go.Proofs.YtnoapoaajidncaaDoor
