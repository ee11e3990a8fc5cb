/-
  Contracts of chapter 26: valid partial configurations.
-/
import Derived.Test.YtmmgejnhfpfmnaaC05b
import Derived.Test.YtmmgejnhfpfmnaaSeg
namespace Go.Proofs.Ytmmgejnhfpfmnaa
open Go.RowKit

def partB (sy st s a : Int) (xs : List Int) : Bool := inB s 0 (st - 1) && inB xs.length 1 60 && inB a 0 (xs.length - 1) && allB 0 (sy - 1) xs
def vpartB (sy st : Int) (rs : List Rule3) (s a : Int) (xs : List Int) : Bool := machB sy st rs && partB sy st s a xs
/-- a partial configuration behind a pointer -/
structure PartP (w : World) (g : Nat) (s a : Int) (A : Option Addr) (n cp : Nat) (xs : List Int) : Prop where
  c0 : w.cell? ⟨g, 0, none⟩ = some (i64 s)
  c1 : w.cell? ⟨g, 1, none⟩ = some (i64 a)
  c2 : w.cell? ⟨g, 2, none⟩ = some (.slice A n cp)
  rd : RdI w A n xs
theorem PartP.below {w w' : World} {g : Nat} {s a : Int} {A : Option Addr} {n cp : Nat} {xs : List Int} (h : PartP w g s a A n cp xs) (hb : Below w.heap.size w w') : PartP w' g s a A n cp xs :=
  ⟨keepc hb h.c0, keepc hb h.c1, keepc hb h.c2, h.rd.below hb⟩
theorem machB_bd {sy st : Int} {rs : List Rule3} (h : machB sy st rs = true) : (2 ≤ sy ∧ sy ≤ 6) ∧ (1 ≤ st ∧ st ≤ 1000) ∧ (rs.length : Int) = sy * st := by
  simp only [machB, Bool.and_eq_true, beq_iff_eq] at h
  exact ⟨inB_t h.1.1.1, inB_t h.1.1.2, h.1.2⟩

end Go.Proofs.Ytmmgejnhfpfmnaa
