/-
  The lexicographic order of lists of numbers is a strict total order.
-/
import Derived.Test.YtmmgejnhfpfmnaaCmp
namespace Go.Proofs.Ytmmgejnhfpfmnaa
open Go.Sort

theorem cmpI (x y : Int) : (x < y ∧ Lib.compareInt x y = -1) ∨ (x = y ∧ Lib.compareInt x y = 0) ∨ (y < x ∧ Lib.compareInt x y = 1) := by
  unfold Lib.compareInt
  by_cases h1 : x < y
  · exact .inl ⟨h1, by simp [h1]⟩
  · by_cases h2 : y < x
    · exact .inr (.inr ⟨h2, by simp [h1, h2]⟩)
    · exact .inr (.inl ⟨by omega, by simp [h1, h2]⟩)
theorem cmpL_anti : ∀ xs ys : List Int, cmpL ys xs = - cmpL xs ys
  | [], [] => rfl
  | [], _ :: _ => rfl
  | _ :: _, [] => rfl
  | x :: xs, y :: ys => by
    have ih := cmpL_anti xs ys
    simp only [cmpL]
    rcases cmpI x y with ⟨h, e⟩ | ⟨h, e⟩ | ⟨h, e⟩ <;> rcases cmpI y x with ⟨h', e'⟩ | ⟨h', e'⟩ | ⟨h', e'⟩ <;> (rw [e, e']; first | omega | (simp; done) | (simp; exact ih))
theorem cmpL_eq : ∀ {xs ys : List Int}, cmpL xs ys = 0 → xs = ys
  | [], [], _ => rfl
  | [], _ :: _, h => by simp [cmpL] at h
  | _ :: _, [], h => by simp [cmpL] at h
  | x :: xs, y :: ys, h => by
    simp only [cmpL] at h
    rcases cmpI x y with ⟨h1, e⟩ | ⟨h1, e⟩ | ⟨h1, e⟩
    · rw [e] at h; simp at h
    · rw [e] at h; rw [if_pos rfl] at h; rw [h1, cmpL_eq h]
    · rw [e] at h; simp at h
theorem cmpL_refl : ∀ xs : List Int, cmpL xs xs = 0
  | [] => rfl
  | x :: xs => by
    simp only [cmpL]
    rcases cmpI x x with ⟨h, e⟩ | ⟨h, e⟩ | ⟨h, e⟩
    · omega
    · rw [e, if_pos rfl]; exact cmpL_refl xs
    · omega
theorem cmpL_trans : ∀ {xs ys zs : List Int}, cmpL xs ys < 0 → cmpL ys zs < 0 → cmpL xs zs < 0
  | [], [], _, h, _ => by simp [cmpL] at h
  | [], _ :: _, [], _, h => by simp [cmpL] at h
  | [], _ :: _, _ :: _, _, _ => by simp [cmpL]
  | _ :: _, [], _, h, _ => by simp [cmpL] at h
  | _ :: _, _ :: _, [], _, h => by simp [cmpL] at h
  | x :: xs, y :: ys, z :: zs, h, h' => by
    simp only [cmpL] at *
    rcases cmpI x y with ⟨h1, e⟩ | ⟨h1, e⟩ | ⟨h1, e⟩ <;> rcases cmpI y z with ⟨h2, e2⟩ | ⟨h2, e2⟩ | ⟨h2, e2⟩ <;> rcases cmpI x z with ⟨h3, e3⟩ | ⟨h3, e3⟩ | ⟨h3, e3⟩ <;> rw [e] at h <;> rw [e2] at h' <;> rw [e3] <;>
      first | omega | (simp at h; done) | (simp at h'; done) | (simp; done) | (simp at h h' ⊢; exact cmpL_trans h h')
theorem swoL : SWO (ltOf cmpL) where
  irrefl x := by simp [ltOf, cmpL_refl]
  trans x y z h1 h2 := by simp only [ltOf, decide_eq_true_eq] at *; exact cmpL_trans h1 h2
  ntrans x y z h1 h2 := by
    simp only [ltOf, decide_eq_false_iff_not] at *
    intro h3
    have a1 := cmpL_anti x y; have a2 := cmpL_anti y z
    rcases Int.lt_trichotomy (cmpL x y) 0 with g | g | g
    · exact h1 g
    · rw [cmpL_eq g] at h3; exact h2 h3
    · exact h2 (cmpL_trans (show cmpL y x < 0 by omega) h3)
theorem totalL (x y : List Int) (h1 : ltOf cmpL x y = false) (h2 : ltOf cmpL y x = false) : x = y := by
  simp only [ltOf, decide_eq_false_iff_not] at *
  have a := cmpL_anti x y
  exact cmpL_eq (by omega)
end Go.Proofs.Ytmmgejnhfpfmnaa
