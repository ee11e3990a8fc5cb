/-
  How the laws' arguments read: slices of slices of numbers, and structs with such.
-/
import Derived.Test.YtmmgejnhfpfmnaaOpenS
import Derived.Test.YtmmgejnhfpfmnaaSegII
namespace Go.Proofs.Ytmmgejnhfpfmnaa
open Go.ChangeShapes Go.WideShapes Go.ChangeAt Go.RowKit Go.Joins

theorem flat1 : ∀ its : List It, its.flatMap (fun t => [hdI t]) = its.map hdI
  | [] => rfl
  | t :: l => by rw [List.flatMap_cons, flat1 l]; rfl
section
variable {H : Type} {enc : TypeId × Value → H} {W : World} {fuel base : Nat} {y : DataW H × List MemPlace} {v : Value} {d : DataW H} {p : List MemPlace}
set_option maxRecDepth 100000 in
theorem trod_I64SS {c : Value} (h : DataW.trod enc Try.prog W 0 (fun _ => true) true fuel 27 [c] = some y) :
    ∃ A n cp its, c = .slice A n cp ∧ RdS W (sgII A n its) ∧ n ≤ 9223372036854775807 ∧ (∀ t ∈ its, t.n ≤ 9223372036854775807) ∧ ∀ t ∈ its, ∀ x ∈ t.xs, i64ok x := by
  obtain ⟨A, n, cp, its, e, hr, hl, hn, hg⟩ := open_rows (fun t : It => [hdI t]) 1 (by omega) (fun _ => rfl) (fun t : It => RdI W t.A t.n t.xs ∧ t.n ≤ 9223372036854775807 ∧ ∀ x ∈ t.xs, i64ok x) Try.underlying27 (by kernel_rfl) (fun n cs z hz hl => by
    match cs, hl with
    | [c0], _ =>
      obtain ⟨A, n, cp, xs, rfl, hr, hn, hx⟩ := trod_I64S hz
      exact ⟨⟨A, n, cp, xs⟩, rfl, hr, hn, hx⟩) h
  rw [flat1, Nat.mul_one] at hr
  refine ⟨A, n, cp, its, e, RdS.cons hr ?_, hn, fun t ht => (hg t ht).2.1, fun t ht => (hg t ht).2.2⟩
  intro s hs
  obtain ⟨t, ht, rfl⟩ := List.mem_map.1 hs
  exact (hg t ht).1
end
end Go.Proofs.Ytmmgejnhfpfmnaa
