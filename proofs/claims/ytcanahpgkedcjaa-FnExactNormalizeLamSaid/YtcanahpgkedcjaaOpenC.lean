/-
  How a law's argument of type []Comb or []Lam reads.
-/
import Derived.Test.YtcanahpgkedcjaaOpen
import Derived.Test.YtcanahpgkedcjaaSegX
import Derived.Deep.SlicePairs
namespace Go.Proofs.Ytcanahpgkedcjaa
open Go.ChangeShapes Go.WideShapes Go.ChangeAt Go.RowKit Go.Joins

section
variable {H : Type} {enc : TypeId × Value → H} {W : World} {base : Nat} {v : Value} {d : DataW H} {p : List MemPlace}
set_option maxRecDepth 100000 in
theorem open_LamS (hv : Value.okWide Try.prog W .any base 22 v) (h : DataW.Trod enc Try.prog W 0 (fun _ => true) true 22 v d p) :
    ∃ A n cp xs, v = .slice A n cp ∧ Rd2 W A n xs ∧ n ≤ 9223372036854775807 := by
  obtain ⟨a0, l0, c0, rfl⟩ := okWide_slice Try.underlying22 hv
  obtain ⟨fuel, hf⟩ := h
  have hf' : DataW.trod enc Try.prog W 0 (fun _ => true) true fuel 22 [.slice a0 l0 c0] = some (d, p) := by simpa [Value.cells] using hf
  rcases Go.Deep.open_slice_pairs Try.underlying22 Try.underlying64 (by kernel_rfl) rfl rfl (by kernel_rfl) (by kernel_rfl) hf' with ⟨hcs, _⟩ | ⟨a, len, cap, m, n, V0, V1, D0, D1, P0, P1, hcs, _, hl, hm, hmm, _, hx⟩
  · injection hcs with hcs
    exact ⟨none, 0, 0, [], hcs, ⟨rfl, fun h => absurd h (by omega)⟩, by omega⟩
  · injection hcs with hcs
    rw [if_pos rfl] at hmm
    unfold maxLen at hm
    have each : ∀ i, i < len → V0 i = i64 (intOf (V0 i)) ∧ V1 i = i64 (intOf (V1 i)) := by
      intro i hi
      obtain ⟨_, _, h0, h1⟩ := hx i (by omega)
      obtain ⟨x, e0, _⟩ := trod_I64 h0
      obtain ⟨y, e1, _⟩ := trod_I64 h1
      rw [e0, e1]
      exact ⟨rfl, rfl⟩
    refine ⟨some a, len, cap, (List.range len).map fun i => (intOf (V0 i), intOf (V1 i)), hcs, ⟨by rw [flatX_len enc2 2 enc2_len]; simp, fun h0 => ⟨a, rfl, ?_, fun j u hj => ?_⟩⟩, by omega⟩
    · have := World.block_lt_of_cell? W _ (hx 0 (by omega)).1
      rwa [block_add] at this
    · have hjl : j < len * 2 := by
        have := (List.getElem?_eq_some_iff.1 hj).1
        rw [flatX_len enc2 2 enc2_len] at this
        simpa using this
      have hi : j / 2 < len := by omega
      have hxj : ((List.range len).map fun i => (intOf (V0 i), intOf (V1 i)))[j / 2]? = some (intOf (V0 (j / 2)), intOf (V1 (j / 2))) := by simp [hi]
      have hat0 := flatX_at enc2 2 enc2_len _ (j / 2) 0 _ hxj (by omega)
      have hat1 := flatX_at enc2 2 enc2_len _ (j / 2) 1 _ hxj (by omega)
      rw [Nat.add_zero] at hat0
      obtain ⟨c0, c1, _, _⟩ := hx (j / 2) (by omega)
      obtain ⟨e0, e1⟩ := each (j / 2) hi
      rcases (show j = j / 2 * 2 ∨ j = j / 2 * 2 + 1 by omega) with hj2 | hj2
      · rw [hj2] at hj ⊢
        rw [hat0] at hj
        injection hj with hj
        rw [c0, ← hj, ← e0]
      · rw [hj2] at hj ⊢
        rw [hat1] at hj
        injection hj with hj
        rw [c1, ← hj, ← e1]
end
end Go.Proofs.Ytcanahpgkedcjaa
