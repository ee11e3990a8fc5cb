/-
  The helpers of the laws at [][]int64: marking, looking at the marks.
-/
import Derived.Test.YtkchgjegdmcnaaaDoorSegII
namespace Go.Proofs.YtkchgjegdmcnaaaDoor
open Go.RowKit

theorem sum_of {w w' : World} {A A' : Option Addr} {n n' : Nat} : ∀ {its js : List It}, RdS w (sgII A n its) → RdS w' (sgII A' n' js) → js.map It.xs = its.map It.xs → sumN js ≤ sumN its := by
  intro its js h h' hx
  have key : ∀ (a b : List It), (∀ t ∈ a, t.xs.length = t.n) → (∀ t ∈ b, t.xs.length = t.n) → b.map It.xs = a.map It.xs → sumN b ≤ sumN a := by
    intro a
    induction a with
    | nil => intro b _ _ e; cases b with
      | nil => exact Nat.le_refl _
      | cons y b => cases e
    | cons x a ih => intro b ha hb e; cases b with
      | nil => cases e
      | cons y b =>
        rw [List.map_cons, List.map_cons] at e
        injection e with e1 e2
        have h1 := ih b (fun t ht => ha t (by simp [ht])) (fun t ht => hb t (by simp [ht])) e2
        have h2 := ha x (by simp); have h3 := hb y (by simp)
        rw [e1] at h3
        simp only [sumN]; omega
  exact key its js (fun t ht => RdII.size h ht) (fun t ht => RdII.size h' ht) hx

theorem WrS.set_at {w : World} {lo hi k : Nat} {pre post : List Seg} {s : Seg} {ad : Addr} (h : WrS w lo hi (pre ++ s :: post)) (ha : s.A = some ad) (hk : k < s.n) (u : Value) :
    WrS (w.setCell (ad.add k) u) lo hi (pre ++ ⟨s.A, s.n, s.vs.set k u⟩ :: post) ∧ KeepR lo hi w (w.setCell (ad.add k) u) := by
  obtain ⟨l, r, hw, hkp, hset⟩ := h.range
  obtain ⟨ad', v, e, h1, h2, h3, _⟩ := hw.at_ hk
  rw [ha] at e; injection e with e; subst e
  have hk' : KeepR l r w (w.setCell (ad.add k) u) := (KeepR.refl l r w).setCell (by rw [block_add]; exact h1) (by rw [block_add]; exact h2) u
  rw [ha] at hw
  have := hw.set hk u
  rw [← ha] at this
  exact ⟨hset _ _ hk' this, hkp _ hk'⟩

theorem mkI_at {its : List It} {k : Nat} {t : It} {k0 : Int} (h : its[k]? = some t) : (⟨t.A, t.n, (marks (k0 + (sumN (its.take k) : Nat)) t.n).map i64⟩ : Seg) ∈ mkI its k0 := by
  have e : mkI its k0 = mkI (its.take k ++ t :: its.drop (k + 1)) k0 := by rw [← drop_at h, List.take_append_drop]
  rw [e, mkI_app, mkI]
  simp
end Go.Proofs.YtkchgjegdmcnaaaDoor
