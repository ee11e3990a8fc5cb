/-
  Contracts of chapter 12: the reference's step of a combinator term.
-/
import Derived.Test.YtkchgjegdmcnaaaDoorC12a
namespace Go.Proofs.YtkchgjegdmcnaaaDoor
open Go.RowKit

/-- the slice of an argument -/
def argV (ad : Addr) (cp : Nat) (c : List (Int × Int)) (a i : Nat) : Value := .slice (some (ad.add (endI c a i * 2))) (endI c a (i + 1) - endI c a i) (cp - endI c a i)
def argVs (ad : Addr) (cp : Nat) (c : List (Int × Int)) (a i : Nat) : List Value := (List.range i).map (argV ad cp c a)
theorem argVs_succ (ad : Addr) (cp : Nat) (c : List (Int × Int)) (a i : Nat) : argVs ad cp c a (i + 1) = argVs ad cp c a i ++ [argV ad cp c a i] := by simp [argVs, List.range_succ]
theorem argVs_at {ad : Addr} {cp : Nat} {c : List (Int × Int)} {a i j : Nat} (h : j < i) : (argVs ad cp c a i)[j]? = some (argV ad cp c a j) := by simp [argVs, h]
theorem addrZ (a : Addr) : a.add 0 = a := by simp [Addr.add]
theorem addr1 (a : Addr) : a.add 1 = ⟨a.block, a.off + 1, none⟩ := by rw [Addr.add, if_neg (by omega)]
theorem addr2 (a : Addr) : a.add 2 = ⟨a.block, a.off + 2, none⟩ := by rw [Addr.add, if_neg (by omega)]
theorem rd_new2 {w : World} {t : TypeId} {m : Nat} (xs : List (Int × Int)) (cs : Array Value) (h : cs.toList = xs.flatMap enc2) (hm : xs.length = m) : Rd2 (w.alloc (.cells cs t)) (some ⟨w.heap.size, 0, none⟩) m xs := by
  have hs : cs.size = m * 2 := by rw [← Array.length_toList, h, flatX_len enc2 2 enc2_len, hm]
  exact (Blk.new w t cs).rd (by rw [h]; exact List.take_of_length_le (by rw [← h, Array.length_toList, hs]; exact Nat.le_refl _)) (by omega)
/-- a term of the call's own, and a Bool -/
def StepOut (S : List (Int × Int)) (q : Bool) (w : World) (e : Ending) (w' : World) : Prop := ∃ A N cap, e = .returned (.tuple #[.slice A N cap, .bool q]) ∧ Wr w' w.heap.size w'.heap.size A (N * 2) (S.flatMap enc2) ∧ S.length = N ∧ N ≤ cap ∧ Below w.heap.size w w'
theorem Own.pairs {w : World} {B n cap : Nat} {e : TypeId} {A : Option Addr} {S : List (Int × Int)} (h : Own w B e 2 A n cap (S.flatMap enc2)) : Rd2 w A n S := h.wrK.rd
end Go.Proofs.YtkchgjegdmcnaaaDoor
