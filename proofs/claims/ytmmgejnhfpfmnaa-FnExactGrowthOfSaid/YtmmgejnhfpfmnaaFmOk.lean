/-
  What a valid formula tape is.
-/
import Derived.Test.YtmmgejnhfpfmnaaC27f
namespace Go.Proofs.Ytmmgejnhfpfmnaa
open Go.RowKit

/-- what a valid formula tape is -/
structure FormOk (sy st s hd a : Int) (ws rps : List (List Int)) (os : List Int) : Prop where
  s0 : 0 ≤ s ∧ s ≤ st - 1
  r : 1 ≤ rps.length ∧ rps.length ≤ 3
  nw : ws.length = rps.length + 1
  no : os.length = rps.length
  hhd : 0 ≤ hd ∧ hd ≤ rps.length
  w : ∀ x ∈ ws, x.length ≤ 100 ∧ allB 0 (sy - 1) x = true
  p : ∀ x ∈ rps, 1 ≤ x.length ∧ x.length ≤ 20 ∧ allB 0 (sy - 1) x = true
  o : ∀ x ∈ os, -1000 ≤ x ∧ x ≤ 1000
  lo : -1 ≤ a ∧ (hd = 0 → 0 ≤ a)
  hi : a ≤ (ws.getD hd.toNat []).length
theorem formB_ok {sy st s hd a : Int} {ws rps : List (List Int)} {os : List Int} (h : formB sy st s hd a ws rps os = true) : FormOk sy st s hd a ws rps os := by
  unfold formB formN at h
  simp only [Bool.and_eq_true, List.all_eq_true, decide_eq_true_eq, inB_iff] at h
  obtain ⟨⟨⟨⟨⟨h1, h2⟩, h3⟩, h4⟩, h5⟩, h6, ⟨h7, h8⟩, h9⟩ := h
  have h9' := inB_t h9
  refine ⟨h1, by omega, by omega, by omega, h5, fun x hx => ?_, fun x hx => ?_, fun x hx => allB_mem h8 x hx, ?_, ?_⟩
  · have := h6 x hx
    unfold symB at this
    simp only [Bool.and_eq_true, decide_eq_true_eq] at this
    exact ⟨by omega, this.1⟩
  · have := h7 x hx
    unfold repB at this
    simp only [Bool.and_eq_true, inB_iff] at this
    exact ⟨by omega, by omega, this.2⟩
  · have := h9'.1
    split at this <;> (refine ⟨by omega, fun e => by omega⟩)
  · have := h9'.2
    split at this <;> omega
end Go.Proofs.Ytmmgejnhfpfmnaa
