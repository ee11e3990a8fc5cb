/-
  A struct that is built in a region that draws its order; a part of a slice from its start.
-/
import Derived.Test.YtdendllginlidaaDoorMix
import Derived.Test.YtdendllginlidaaDoorBase
namespace Go.Proofs.YtdendllginlidaaDoor
open Go.RowKit

/-- a struct that is built, in a region that draws its order -/
theorem Mix.wpMix_build {P : Program} {ops : Array Oper} {C : World → Prop} {Q : Act → World → Prop} {o : Oper} {ks : List Nat} {l : List Oper} {a : Act} {w : World} (hw : Region.wanted o (yielded ops a.tmps) = true) (t : TypeId) (ps : Array (Nat × Operand)) (ho : o.op = .build t ps) (v : Value)
    (hrun : ∀ w, (Instr.build t (ps.map fun (i, x) => (i, a.eval x))).run P w = .ok v w) (h : Mix.wpMix P ops C Q ks l (a.put o.dst v) w) : Mix.wpMix P ops C Q (0 :: ks) (o :: l) a w := by
  unfold Mix.wpMix
  rw [if_pos hw, if_pos rfl]
  refine ⟨v, fun w => ?_, h⟩
  refine .inl ?_
  unfold Mix.readAt
  simp only [execOp, ho, Sem.run_bind, hrun, Result.andThen_ok, Sem.run_pure]
theorem RdI.take {w : World} {A : Option Addr} {n k : Nat} {xs : List Int} (h : RdI w A n xs) (hk : k ≤ n) : RdI w A k (xs.take k) := by
  have hl := h.len
  refine ⟨by rw [List.length_map, List.length_take]; omega, fun h0 => ?_⟩
  obtain ⟨ad, e, hb, hc⟩ := h.2 (by omega)
  refine ⟨ad, e, hb, fun j u hj => hc j u ?_⟩
  rw [List.map_take, List.getElem?_take] at hj
  split at hj
  · exact hj
  · cases hj
theorem RdI.drop {w : World} {ad : Addr} {n k : Nat} {xs : List Int} (h : RdI w (some ad) n xs) (hk : k ≤ n) : RdI w (some (ad.add k)) (n - k) (xs.drop k) :=
  ⟨by rw [List.length_map, List.length_drop, h.len], fun hp => by
    obtain ⟨ad', e', hlt, hcs⟩ := h.2 (by omega)
    injection e' with e'; subst e'
    refine ⟨_, rfl, by rw [block_add]; exact hlt, fun j u hj => ?_⟩
    rw [add_add]
    refine hcs (k + j) u ?_
    rw [List.getElem?_map] at hj ⊢
    rw [List.getElem?_drop] at hj; exact hj⟩
theorem RdI.mid {w : World} {ad : Addr} {n i k : Nat} {xs : List Int} (h : RdI w (some ad) n xs) (hk : i + k ≤ n) : RdI w (some (ad.add i)) k ((xs.drop i).take k) := (h.drop (by omega)).take (by omega)
end Go.Proofs.YtdendllginlidaaDoor
