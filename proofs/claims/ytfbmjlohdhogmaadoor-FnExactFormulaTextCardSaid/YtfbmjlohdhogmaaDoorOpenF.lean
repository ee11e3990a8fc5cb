/-
  How a Formula is opened: a struct of three numbers, two slices of slices, and a slice.
-/
import Derived.Test.YtfbmjlohdhogmaaDoorOpenII
import Derived.Test.YtfbmjlohdhogmaaDoorC27f
namespace Go.Proofs.YtfbmjlohdhogmaaDoor
open Go.ChangeShapes Go.WideShapes Go.ChangeAt Go.RowKit Go.Joins Go.Deep Go.WideElems
set_option maxRecDepth 100000
section
variable {H : Type} {enc : TypeId × Value → H} {W : World} {base : Nat} {v : Value} {d : DataW H} {p : List MemPlace}
theorem arr6 {α : Type} {cs : Array α} (h : cs.size = 6) : ∃ c0 c1 c2 c3 c4 c5, cs = #[c0, c1, c2, c3, c4, c5] := by
  obtain ⟨l⟩ := cs
  match l, h with
  | [c0, c1, c2, c3, c4, c5], _ => exact ⟨c0, c1, c2, c3, c4, c5, rfl⟩
theorem open_agg6 {t : TypeId} {f0 f1 f2 f3 f4 f5 : Field} (hs : Tryd.prog.underlying t = some (.struct #[f0, f1, f2, f3, f4, f5])) (hone : oneCellFields Tryd.prog #[f0, f1, f2, f3, f4, f5] = true) (hC : Tryd.prog.cellsOf t = 6)
    (hv : Value.okWide Tryd.prog W .any base t v) (h : DataW.Trod enc Tryd.prog W 0 (fun _ => true) true t v d p) :
    ∃ (v0 v1 v2 v3 v4 v5 : Value) (y0 y1 y2 y3 y4 y5 : DataW H × List MemPlace) (n : Nat), v = .agg #[v0, v1, v2, v3, v4, v5] ∧
      DataW.trod enc Tryd.prog W 0 (fun _ => true) true n f0.type [v0] = some y0 ∧ DataW.trod enc Tryd.prog W 0 (fun _ => true) true n f1.type [v1] = some y1 ∧ DataW.trod enc Tryd.prog W 0 (fun _ => true) true n f2.type [v2] = some y2 ∧
      DataW.trod enc Tryd.prog W 0 (fun _ => true) true n f3.type [v3] = some y3 ∧ DataW.trod enc Tryd.prog W 0 (fun _ => true) true n f4.type [v4] = some y4 ∧ DataW.trod enc Tryd.prog W 0 (fun _ => true) true n f5.type [v5] = some y5 := by
  obtain ⟨cs, rfl, hsz⟩ := okWide_struct hs hv
  obtain ⟨c0, c1, c2, c3, c4, c5, rfl⟩ := arr6 (hsz.trans hC)
  obtain ⟨fuel, hf⟩ := h
  obtain ⟨xs, n, _, _, hl, hlen, hg⟩ := DataW.trod_struct hs hf
  obtain ⟨o0, k0⟩ := hone_of hone 0 f0 rfl
  obtain ⟨o1, k1⟩ := hone_of hone 1 f1 rfl
  obtain ⟨o2, k2⟩ := hone_of hone 2 f2 rfl
  obtain ⟨o3, k3⟩ := hone_of hone 3 f3 rfl
  obtain ⟨o4, k4⟩ := hone_of hone 4 f4 rfl
  obtain ⟨o5, k5⟩ := hone_of hone 5 f5 rfl
  match xs, hlen with
  | [y0, y1, y2, y3, y4, y5], _ =>
    exact ⟨c0, c1, c2, c3, c4, c5, y0, y1, y2, y3, y4, y5, n, rfl, by simpa [Value.cells, o0, k0] using hg 0 f0 rfl, by simpa [Value.cells, o1, k1] using hg 1 f1 rfl, by simpa [Value.cells, o2, k2] using hg 2 f2 rfl,
      by simpa [Value.cells, o3, k3] using hg 3 f3 rfl, by simpa [Value.cells, o4, k4] using hg 4 f4 rfl, by simpa [Value.cells, o5, k5] using hg 5 f5 rfl⟩
theorem open_Formula (hv : Value.okWide Tryd.prog W .any base 58 v) (h : DataW.Trod enc Tryd.prog W 0 (fun _ => true) true 58 v d p) :
    ∃ st hd at_ A0 n0 c0 its0 A1 n1 c1 its1 A2 n2 c2 xs, v = .agg #[.int .i64 st, .int .i64 hd, .int .i64 at_, .slice A0 n0 c0, .slice A1 n1 c1, .slice A2 n2 c2] ∧ RdS W (sgII A0 n0 its0 ++ sgII A1 n1 its1 ++ [sgI A2 n2 xs]) ∧ n0 ≤ 9223372036854775807 ∧ n1 ≤ 9223372036854775807 ∧ n2 ≤ 9223372036854775807 ∧
      (∀ t ∈ its0, t.n ≤ 9223372036854775807) ∧ (∀ t ∈ its1, t.n ≤ 9223372036854775807) ∧ i64ok st ∧ i64ok hd ∧ i64ok at_ ∧ ∀ x ∈ xs, i64ok x := by
  obtain ⟨a0, a1, a2, a3, a4, a5, y0, y1, y2, y3, y4, y5, m, rfl, hy0, hy1, hy2, hy3, hy4, hy5⟩ := open_agg6 Tryd.underlying58 (by kernel_rfl) (by kernel_rfl) hv h
  obtain ⟨st, rfl, hst⟩ := trod_I64 hy0
  obtain ⟨hd, rfl, hhd⟩ := trod_I64 hy1
  obtain ⟨at_, rfl, hat⟩ := trod_I64 hy2
  obtain ⟨A0, n0, c0, its0, rfl, hr0, hn0, hi0, _⟩ := trod_I64SS hy3
  obtain ⟨A1, n1, c1, its1, rfl, hr1, hn1, hi1, _⟩ := trod_I64SS hy4
  obtain ⟨A2, n2, c2, xs, rfl, hr2, hn2, hx⟩ := trod_I64S hy5
  exact ⟨st, hd, at_, A0, n0, c0, its0, A1, n1, c1, its1, A2, n2, c2, xs, rfl, (hr0.append hr1).append (RdS.one hr2), hn0, hn1, hn2, hi0, hi1, hst, hhd, hat, hx⟩
end
end Go.Proofs.YtfbmjlohdhogmaaDoor
