/-
  How the laws' arguments read: slices of slices of numbers, and structs with such.
-/
import Derived.Test.YtfbmjlohdhogmaaDoorOpenS
import Derived.Test.YtfbmjlohdhogmaaDoorSegII
namespace Go.Proofs.YtfbmjlohdhogmaaDoor
open Go.ChangeShapes Go.WideShapes Go.ChangeAt Go.RowKit Go.Joins

theorem flat1 : ∀ its : List It, its.flatMap (fun t => [hdI t]) = its.map hdI
  | [] => rfl
  | t :: l => by rw [List.flatMap_cons, flat1 l]; rfl
section
variable {H : Type} {enc : TypeId × Value → H} {W : World} {fuel base : Nat} {y : DataW H × List MemPlace} {v : Value} {d : DataW H} {p : List MemPlace}
set_option maxRecDepth 100000 in
theorem trod_I64SS {c : Value} (h : DataW.trod enc Tryd.prog W 0 (fun _ => true) true fuel 48 [c] = some y) :
    ∃ A n cp its, c = .slice A n cp ∧ RdS W (sgII A n its) ∧ n ≤ 9223372036854775807 ∧ (∀ t ∈ its, t.n ≤ 9223372036854775807) ∧ ∀ t ∈ its, ∀ x ∈ t.xs, i64ok x := by
  obtain ⟨A, n, cp, its, e, hr, hl, hn, hg⟩ := open_rows (fun t : It => [hdI t]) 1 (by omega) (fun _ => rfl) (fun t : It => RdI W t.A t.n t.xs ∧ t.n ≤ 9223372036854775807 ∧ ∀ x ∈ t.xs, i64ok x) Tryd.underlying48 (by kernel_rfl) (fun n cs z hz hl => by
    match cs, hl with
    | [c0], _ =>
      obtain ⟨A, n, cp, xs, rfl, hr, hn, hx⟩ := trod_I64S hz
      exact ⟨⟨A, n, cp, xs⟩, rfl, hr, hn, hx⟩) h
  rw [flat1, Nat.mul_one] at hr
  refine ⟨A, n, cp, its, e, RdS.cons hr ?_, hn, fun t ht => (hg t ht).2.1, fun t ht => (hg t ht).2.2⟩
  intro s hs
  obtain ⟨t, ht, rfl⟩ := List.mem_map.1 hs
  exact (hg t ht).1
set_option maxRecDepth 100000 in
theorem open_Proof (hv : Value.okWide Tryd.prog W .any base 50 v) (h : DataW.Trod enc Tryd.prog W 0 (fun _ => true) true 50 v d p) :
    ∃ kd A n cp xs B m e its, v = .agg #[.int .i64 kd, .slice A n cp, .slice B m e] ∧ RdS W ([sgI A n xs] ++ sgII B m its) ∧ n ≤ 9223372036854775807 ∧ m ≤ 9223372036854775807 ∧ (∀ t ∈ its, t.n ≤ 9223372036854775807) ∧ i64ok kd ∧ ∀ x ∈ xs, i64ok x := by
  obtain ⟨c0, c1, c2, y0, y1, y2, m, rfl, rfl, rfl, hy0, hy1, hy2⟩ := open_agg3 Tryd.underlying50 (by kernel_rfl) (by kernel_rfl) hv h
  obtain ⟨kd, rfl, hk⟩ := trod_I64 hy0
  obtain ⟨A, n, cp, xs, rfl, hr, hn, hx⟩ := trod_I64S hy1
  obtain ⟨B, m, e, its, rfl, hr', hm, hi, _⟩ := trod_I64SS hy2
  exact ⟨kd, A, n, cp, xs, B, m, e, its, rfl, (RdS.one hr).append hr', hn, hm, hi, hk, hx⟩
end
end Go.Proofs.YtfbmjlohdhogmaaDoor
