/-
  The helpers of the laws at [][]int64, in the form of rows.
-/
import Derived.Test.YtkchgjegdmcnaaaDoorSegI
namespace Go.Proofs.YtkchgjegdmcnaaaDoor
open Go.RowKit

/-- one slice of numbers, as an element -/
structure It where
  A : Option Addr
  n : Nat
  c : Nat
  xs : List Int
def hdI (t : It) : Value := .slice t.A t.n t.c
def bodyI (t : It) : Seg := sgI t.A t.n t.xs
def sgII (A : Option Addr) (n : Nat) (its : List It) : List Seg := ⟨A, n, its.map hdI⟩ :: its.map bodyI
def sumN : List It → Nat
  | [] => 0
  | t :: l => t.n + sumN l
theorem sumN_app : ∀ a b : List It, sumN (a ++ b) = sumN a + sumN b
  | [], b => by simp [sumN]
  | t :: a, b => by simp only [List.cons_append, sumN, sumN_app a b]; omega
theorem sumN_take {its : List It} {k : Nat} {t : It} (h : its[k]? = some t) : sumN (its.take (k + 1)) = sumN (its.take k) + t.n := by rw [take_at h, sumN_app]; simp [sumN]
theorem sumN_le {its : List It} {k : Nat} : sumN (its.take k) ≤ sumN its := by
  have := sumN_app (its.take k) (its.drop k)
  rw [List.take_append_drop] at this; omega
theorem sumN_mem {its : List It} {t : It} (h : t ∈ its) : t.n ≤ sumN its := by
  obtain ⟨k, hk⟩ := List.mem_iff_getElem?.1 h
  have h1 := sumN_take hk
  have h2 := sumN_le (its := its) (k := k + 1)
  omega
/-- .. and marked -/
def mkI : List It → Int → List Seg
  | [], _ => []
  | t :: l, k => ⟨t.A, t.n, (marks k t.n).map i64⟩ :: mkI l (k + t.n)
def mgII (A : Option Addr) (n : Nat) (its : List It) (k0 : Int) : List Seg := ⟨A, n, its.map hdI⟩ :: mkI its k0
theorem mkI_app : ∀ (a b : List It) (k : Int), mkI (a ++ b) k = mkI a k ++ mkI b (k + (sumN a : Nat))
  | [], b, k => by simp [mkI, sumN]
  | t :: a, b, k => by simp only [List.cons_append, mkI, sumN, mkI_app a b]; congr 3; omega

section
variable {w w' : World} {A : Option Addr} {n : Nat} {its : List It}
theorem RdII.len (h : RdS w (sgII A n its)) : its.length = n := by have := h.head.1; simpa using this
theorem RdII.at_ {k : Nat} (h : RdS w (sgII A n its)) (hk : k < n) : ∃ ad t, A = some ad ∧ ad.block < w.heap.size ∧ its[k]? = some t ∧ w.cell? (ad.add k) = some (.slice t.A t.n t.c) ∧ RdS w [sgI t.A t.n t.xs] := by
  have hl := RdII.len h
  have ht : its[k]? = some its[k] := List.getElem?_eq_getElem (by omega)
  obtain ⟨ad, v, e, hb, hv, hc⟩ := h.head.at_ hk
  rw [List.getElem?_map, ht] at hv
  injection hv with hv; subst hv
  refine ⟨ad, _, e, hb, ht, hc, RdS.one ?_⟩
  exact h.tail (bodyI its[k]) (List.mem_map_of_mem (List.getElem_mem (by omega)))
theorem RdII.size {t : It} (h : RdS w (sgII A n its)) (ht : t ∈ its) : t.xs.length = t.n := by
  have := (h.tail (bodyI t) (List.mem_map_of_mem ht)).1
  simpa [bodyI, sgI] using this
end

theorem hi_of {w w' : World} {A A' : Option Addr} {n n' B : Nat} {its js : List It} (h : RdS w (sgII A n its)) (h' : RdS w' (sgII A' n' js)) (hx : js.map It.xs = its.map It.xs) (hi : ∀ t ∈ its, t.n ≤ B) : ∀ t ∈ js, t.n ≤ B := by
  intro t ht
  have h1 := RdII.size h' ht
  have h2 : t.xs ∈ its.map It.xs := by rw [← hx]; exact List.mem_map_of_mem ht
  obtain ⟨u, hu, e⟩ := List.mem_map.1 h2
  have h3 := RdII.size h hu
  have := hi u hu
  rw [← h1, ← e, h3]; exact this
/-- a row whose first cells are known, the others zero -/
def fillL (vs : List Value) (z : Value) (m : Nat) : Array Value := (vs ++ List.replicate m z).toArray
theorem fillL_at (vs : List Value) (z : Value) (m : Nat) : (fillL vs z (m + 1))[vs.length]? = some z := by
  unfold fillL
  rw [List.getElem?_toArray, List.getElem?_append_right (Nat.le_refl _), Nat.sub_self]; simp
theorem fillL_all (vs : List Value) (z : Value) (n : Nat) (h : vs.length = n) : (fillL vs z 0).toList.take n = vs := by subst h; simp [fillL]
theorem fillL_set (vs : List Value) (z v : Value) (m : Nat) : (fillL vs z (m + 1)).setIfInBounds vs.length v = fillL (vs ++ [v]) z m := by
  unfold fillL
  rw [List.setIfInBounds_toArray, List.set_append_right _ _ (Nat.le_refl _), Nat.sub_self, List.replicate_succ, List.set_cons_zero, List.append_assoc]
  rfl
end Go.Proofs.YtkchgjegdmcnaaaDoor
