/-
  How the laws' arguments read: each type's value and what its memory holds.
-/
import Derived.Test.YtdendllginlidaaDoorProg
import Derived.Test.YtdendllginlidaaDoorBase
import Derived.ProofKit
import Derived.OpenShut
import Derived.Lib.SmallJoins
namespace Go.Proofs.YtdendllginlidaaDoor
open Go.ChangeShapes Go.WideShapes Go.ChangeAt Go.RowKit Go.Joins

def i64ok (x : Int) : Prop := -9223372036854775808 ≤ x ∧ x ≤ 9223372036854775807
theorem i64ok_of {x : Int} (h : (Lit.int .i64 x).wf = true) : i64ok x := by
  have := bounds_i64 h
  unfold i64ok; omega

section
variable {H : Type} {enc : TypeId × Value → H} {W : World} {fuel : Nat} {y : DataW H × List MemPlace}

theorem trod_I64 {c : Value} (h : DataW.trod enc Tryd.prog W 0 (fun _ => true) true fuel 2 [c] = some y) : ∃ x, c = .int .i64 x ∧ i64ok x := by
  obtain ⟨x, e, _, hw⟩ := DataW.trod_int Tryd.underlying2 h
  injection e with e
  exact ⟨x, e, i64ok_of hw⟩

theorem trod_I64S {c : Value} (h : DataW.trod enc Tryd.prog W 0 (fun _ => true) true fuel 22 [c] = some y) :
    ∃ A n cp xs, c = .slice A n cp ∧ RdI W A n xs ∧ n ≤ 9223372036854775807 ∧ ∀ x ∈ xs, i64ok x := by
  rcases open_ints Tryd.underlying22 Tryd.underlying2 (by kernel_rfl) h with ⟨hcs, _⟩ | ⟨a, l, cp, zs, hcs, _, hl, hm, hz, _, hcell, hwz⟩
  · injection hcs with hcs
    exact ⟨none, 0, 0, [], hcs, RdI.nil, by omega, by simp⟩
  · injection hcs with hcs
    unfold maxLen at hm
    rw [if_pos rfl] at hz
    refine ⟨some a, l, cp, zs.take l, hcs, ⟨by simp; omega, fun hl0 => ⟨a, rfl, ?_, fun j v hj => ?_⟩⟩, by omega, fun x hx => i64ok_of (hwz x (List.mem_of_mem_take hx))⟩
    · have := World.block_lt_of_cell? W _ (hcell 0 (by omega))
      rwa [block_add] at this
    · rw [List.getElem?_map, List.getElem?_take] at hj
      split at hj
      · rename_i hjl
        rw [hcell j (by omega)]
        rw [List.getElem?_eq_getElem (by omega)] at hj
        simp at hj
        rw [← hj]
        simp [List.getD_eq_getElem?_getD, List.getElem?_eq_getElem (show j < zs.length by omega)]
      · simp at hj
end

section
variable {H : Type} {enc : TypeId × Value → H} {W : World} {base : Nat} {v : Value} {d : DataW H} {p : List MemPlace}

set_option maxRecDepth 100000 in
theorem open_I64S (hv : Value.okWide Tryd.prog W .any base 22 v) (h : DataW.Trod enc Tryd.prog W 0 (fun _ => true) true 22 v d p) :
    ∃ A n cp xs, v = .slice A n cp ∧ RdI W A n xs ∧ n ≤ 9223372036854775807 ∧ ∀ x ∈ xs, i64ok x := by
  obtain ⟨a, l, c, rfl⟩ := okWide_slice Tryd.underlying22 hv
  obtain ⟨fuel, hf⟩ := h
  exact trod_I64S (c := .slice a l c) (by simpa [Value.cells] using hf)

end
end Go.Proofs.YtdendllginlidaaDoor
