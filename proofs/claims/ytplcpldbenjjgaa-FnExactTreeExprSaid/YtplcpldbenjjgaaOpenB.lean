/-
  How a law's argument of type []bool reads.
-/
import Derived.Test.YtplcpldbenjjgaaOpen
import Derived.Deep.Grids
namespace Go.Proofs.Ytplcpldbenjjgaa
open Go.ChangeShapes Go.WideShapes Go.ChangeAt Go.RowKit Go.Joins

section
variable {H : Type} {enc : TypeId × Value → H} {W : World} {base fuel : Nat} {v : Value} {d : DataW H} {p : List MemPlace} {y : DataW H × List MemPlace}
theorem trod_BoolS {c : Value} (h : DataW.trod enc Try.prog W 0 (fun _ => true) true fuel 22 [c] = some y) :
    ∃ A n cp xs, c = .slice A n cp ∧ RdB W A n xs ∧ n ≤ 9223372036854775807 := by
  rcases Go.Deep.open_bools Try.underlying22 Try.underlying4 (by kernel_rfl) h with ⟨hcs, _⟩ | ⟨a, l, cp, B, hcs, _, hl, hm, _, hcell⟩
  · injection hcs with hcs
    exact ⟨none, 0, 0, [], hcs, Rd.nil, by omega⟩
  · injection hcs with hcs
    unfold maxLen at hm
    refine ⟨some a, l, cp, (List.range l).map B, hcs, ⟨by simp, fun hl0 => ⟨a, rfl, ?_, fun j u hj => ?_⟩⟩, by omega⟩
    · have := World.block_lt_of_cell? W _ (hcell 0 (by omega))
      rwa [block_add] at this
    · rw [List.getElem?_map, List.getElem?_map] at hj
      rcases Nat.lt_or_ge j l with hjl | hjl
      · rw [List.getElem?_range hjl] at hj
        simp at hj
        rw [← hj]
        exact hcell j (by omega)
      · rw [List.getElem?_eq_none (by simpa using hjl)] at hj
        cases hj
set_option maxRecDepth 100000 in
theorem open_BoolS (hv : Value.okWide Try.prog W .any base 22 v) (h : DataW.Trod enc Try.prog W 0 (fun _ => true) true 22 v d p) :
    ∃ A n cp xs, v = .slice A n cp ∧ RdB W A n xs ∧ n ≤ 9223372036854775807 := by
  obtain ⟨a, l, c, rfl⟩ := okWide_slice Try.underlying22 hv
  obtain ⟨fuel, hf⟩ := h
  exact trod_BoolS (c := .slice a l c) (by simpa [Value.cells] using hf)
end
end Go.Proofs.Ytplcpldbenjjgaa
