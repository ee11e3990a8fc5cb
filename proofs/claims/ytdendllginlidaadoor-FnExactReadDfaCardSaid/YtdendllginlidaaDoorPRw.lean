/-
  Digits read, in plain Lean. Nothing of the program.
-/
import Derived.Test.YtdendllginlidaaDoorPAll
import Derived.Test.YtdendllginlidaaDoorCTb
namespace Go.Proofs.YtdendllginlidaaDoor
open Go.RowKit

/-- the digits of a text, or none -/
def dgR : List UInt8 → Option (List Int)
  | [] => some []
  | b :: l => if 48 ≤ b.toNat ∧ b.toNat ≤ 57 then (dgR l).map (((b.toNat : Int) - 48) :: ·) else none
def cellsP (a : List UInt8) : List Int := a.map fun b => (b.toNat : Int) - 48
theorem digB (x : Int) (h : 0 ≤ x ∧ x ≤ 9) : (UInt8.ofNat (48 + x.toNat)).toNat = 48 + x.toNat := by rw [UInt8.toNat_ofNat']; omega
theorem cells_dig {xs : List Int} (h : dgs xs) : cellsP (digT xs) = xs := by
  rw [cellsP, digT, List.map_map]
  refine (List.map_congr_left fun x hx => ?_).trans (List.map_id xs)
  have := h x hx
  show ((UInt8.ofNat (48 + x.toNat)).toNat : Int) - 48 = x
  rw [digB x this]; omega
theorem dgR_dig : ∀ {xs : List Int}, dgs xs → dgR (digT xs) = some xs
  | [], _ => rfl
  | x :: xs, h => by
    have hx := h x (by simp)
    rw [show digT (x :: xs) = UInt8.ofNat (48 + x.toNat) :: digT xs from rfl, dgR, digB x hx, if_pos (by omega), dgR_dig fun y hy => h y (List.mem_cons_of_mem _ hy), Option.map_some]
    congr 2; omega
theorem dgR_some : ∀ {s : List UInt8} {xs : List Int}, dgR s = some xs → dgs xs ∧ digT xs = s ∧ xs = cellsP s
  | [], xs, h => by rw [dgR] at h; injection h with h; subst h; exact ⟨(fun x hx => by cases hx), rfl, rfl⟩
  | b :: s, xs, h => by
    rw [dgR] at h
    split at h
    · rename_i hb
      obtain ⟨ys, h1, rfl⟩ := Option.map_eq_some_iff.1 h
      obtain ⟨g1, g2, g3⟩ := dgR_some h1
      refine ⟨fun x hx => ?_, ?_, ?_⟩
      · rcases List.mem_cons.1 hx with rfl | hx
        · omega
        · exact g1 x hx
      · rw [show digT (((b.toNat : Int) - 48) :: ys) = UInt8.ofNat (48 + ((b.toNat : Int) - 48).toNat) :: digT ys from rfl, g2]
        congr 1
        rw [show 48 + ((b.toNat : Int) - 48).toNat = b.toNat by omega]
        exact UInt8.ofNat_toNat
      · rw [g3]; rfl
    · cases h
theorem dig_not {xs : List Int} {c : UInt8} (h : dgs xs) (hc : c.toNat < 48 ∨ 57 < c.toNat) : c ∉ digT xs := fun hm => by
  obtain ⟨x, hx, e⟩ := List.mem_map.1 hm
  have := digB x (h x hx); have := h x hx
  rw [e] at *; omega
end Go.Proofs.YtdendllginlidaaDoor
