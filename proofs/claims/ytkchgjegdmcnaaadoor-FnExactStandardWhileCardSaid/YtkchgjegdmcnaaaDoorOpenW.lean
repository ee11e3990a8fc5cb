/-
  How a law's argument of type []Command reads.
-/
import Derived.Test.YtkchgjegdmcnaaaDoorOpenS
import Derived.Test.YtkchgjegdmcnaaaDoorLawCommandS
namespace Go.Proofs.YtkchgjegdmcnaaaDoor
open Go.ChangeShapes Go.WideShapes Go.ChangeAt Go.RowKit Go.Joins Go.Deep Go.WideElems
set_option maxRecDepth 100000
section
variable {H : Type} {enc : TypeId × Value → H} {W : World} {fuel base : Nat} {y : DataW H × List MemPlace} {v : Value} {d : DataW H} {p : List MemPlace}
theorem trod_two {fl : Nat} {z : DataW H × List MemPlace} {t : TypeId} {f0 f1 : Field} {c0 c1 : Value} (hs : Tryd.prog.underlying t = some (.struct #[f0, f1])) (hone : oneCellFields Tryd.prog #[f0, f1] = true)
    (h : DataW.trod enc Tryd.prog W 0 (fun _ => true) true fl t [c0, c1] = some z) :
    ∃ (y0 y1 : DataW H × List MemPlace) (n : Nat), DataW.trod enc Tryd.prog W 0 (fun _ => true) true n f0.type [c0] = some y0 ∧ DataW.trod enc Tryd.prog W 0 (fun _ => true) true n f1.type [c1] = some y1 := by
  obtain ⟨xs, n, _, _, hl, hlen, hg⟩ := DataW.trod_struct hs h
  obtain ⟨o0, k0⟩ := hone_of hone 0 f0 rfl
  obtain ⟨o1, k1⟩ := hone_of hone 1 f1 rfl
  match xs, hlen with
  | [y0, y1], _ => exact ⟨y0, y1, n, by simpa [o0, k0] using hg 0 f0 rfl, by simpa [o1, k1] using hg 1 f1 rfl⟩
theorem trod_ExprS {c : Value} (h : DataW.trod enc Tryd.prog W 0 (fun _ => true) true fuel 36 [c] = some y) :
    ∃ A n cp xs, c = .slice A n cp ∧ Rd2 W A n xs ∧ n ≤ 9223372036854775807 := by
  obtain ⟨A, n, cp, xs, e, hr, _, hn, hg⟩ := open_rows enc2 2 (by omega) enc2_len (fun _ => True) Tryd.underlying36 (by kernel_rfl) (fun n cs z hz hl => by
    match cs, hl with
    | [c0, c1], _ =>
      obtain ⟨y0, y1, m, h0, h1⟩ := trod_two Tryd.underlying81 (by kernel_rfl) hz
      obtain ⟨a, rfl, ha⟩ := trod_I64 h0
      obtain ⟨b, rfl, hb⟩ := trod_I64 h1
      exact ⟨(a, b), rfl, trivial⟩) h
  exact ⟨A, n, cp, xs, e, hr, hn⟩
theorem trod_four {fl : Nat} {z : DataW H × List MemPlace} {t : TypeId} {f0 f1 f2 f3 : Field} {c0 c1 c2 c3 : Value} (hs : Tryd.prog.underlying t = some (.struct #[f0, f1, f2, f3])) (hone : oneCellFields Tryd.prog #[f0, f1, f2, f3] = true)
    (h : DataW.trod enc Tryd.prog W 0 (fun _ => true) true fl t [c0, c1, c2, c3] = some z) :
    ∃ (y0 y1 y2 y3 : DataW H × List MemPlace) (n : Nat), DataW.trod enc Tryd.prog W 0 (fun _ => true) true n f0.type [c0] = some y0 ∧ DataW.trod enc Tryd.prog W 0 (fun _ => true) true n f1.type [c1] = some y1 ∧ DataW.trod enc Tryd.prog W 0 (fun _ => true) true n f2.type [c2] = some y2 ∧
      DataW.trod enc Tryd.prog W 0 (fun _ => true) true n f3.type [c3] = some y3 := by
  obtain ⟨xs, n, _, _, hl, hlen, hg⟩ := DataW.trod_struct hs h
  obtain ⟨o0, k0⟩ := hone_of hone 0 f0 rfl
  obtain ⟨o1, k1⟩ := hone_of hone 1 f1 rfl
  obtain ⟨o2, k2⟩ := hone_of hone 2 f2 rfl
  obtain ⟨o3, k3⟩ := hone_of hone 3 f3 rfl
  match xs, hlen with
  | [y0, y1, y2, y3], _ => exact ⟨y0, y1, y2, y3, n, by simpa [o0, k0] using hg 0 f0 rfl, by simpa [o1, k1] using hg 1 f1 rfl, by simpa [o2, k2] using hg 2 f2 rfl, by simpa [o3, k3] using hg 3 f3 rfl⟩
theorem trod_CommandS {c : Value} (h : DataW.trod enc Tryd.prog W 0 (fun _ => true) true fuel 22 [c] = some y) :
    ∃ A n cp ps, c = .slice A n cp ∧ RdS W (sgCS A n ps) ∧ n ≤ 9223372036854775807 ∧ ∀ t ∈ ps, t.n ≤ 9223372036854775807 := by
  obtain ⟨A, n, cp, ps, e, hr, hl, hn, hg⟩ := open_rows hdC 4 (by omega) hdC_len (fun t : Ct => Rd2 W t.A t.n t.xs ∧ t.n ≤ 9223372036854775807) Tryd.underlying22 (by kernel_rfl) (fun n cs z hz hl => by
    match cs, hl with
    | [c0, c1, c2, c3], _ =>
      obtain ⟨y0, y1, y2, y3, m, h0, h1, h2, h3⟩ := trod_four Tryd.underlying38 (by kernel_rfl) hz
      obtain ⟨a, rfl, _⟩ := trod_I64 h0
      obtain ⟨b, rfl, _⟩ := trod_I64 h1
      obtain ⟨c, rfl, _⟩ := trod_I64 h2
      obtain ⟨A, n, cp, xs, rfl, hr, hn⟩ := trod_ExprS h3
      exact ⟨⟨a, b, c, A, n, cp, xs⟩, rfl, hr, hn⟩) h
  refine ⟨A, n, cp, ps, e, RdS.cons hr ?_, hn, fun t ht => (hg t ht).2⟩
  intro s hs
  obtain ⟨t, ht, rfl⟩ := List.mem_map.1 hs
  exact (hg t ht).1
theorem open_CommandS (hv : Value.okWide Tryd.prog W .any base 22 v) (h : DataW.Trod enc Tryd.prog W 0 (fun _ => true) true 22 v d p) :
    ∃ A n cp ps, v = .slice A n cp ∧ RdS W (sgCS A n ps) ∧ n ≤ 9223372036854775807 ∧ ∀ t ∈ ps, t.n ≤ 9223372036854775807 := by
  obtain ⟨a0, l0, c0, rfl⟩ := okWide_slice Tryd.underlying22 hv
  obtain ⟨fl, hf⟩ := h
  have hf' : DataW.trod enc Tryd.prog W 0 (fun _ => true) true fl 22 [.slice a0 l0 c0] = some (d, p) := by simpa [Value.cells] using hf
  exact trod_CommandS hf'
end
end Go.Proofs.YtkchgjegdmcnaaaDoor
