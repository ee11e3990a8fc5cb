/-
  Renaming the variables of while programs, in plain Lean. Nothing of the program.
-/
import Derived.Test.YtecpbgmcednpoaaPWb
namespace Go.Proofs.Ytecpbgmcednpoaa
open Go.RowKit

/-- all numbers below 6 occur among six -/
def orderB (os : List Int) : Bool := decide (os.length = 6) && (List.range 6).all fun k => os.contains (k : Int)
theorem perm_of : ∀ (l os : List Int), l.Nodup → (∀ x ∈ l, x ∈ os) → os.length = l.length → os.Perm l
  | [], os, _, _, h => by rw [List.length_eq_zero_iff.1 h]
  | x :: l, os, hd, hx, h => by
    obtain ⟨h1, h2⟩ := List.nodup_cons.1 hd
    have hm : x ∈ os := hx x (by simp)
    refine (List.perm_cons_erase hm).trans (List.Perm.cons x (perm_of l (os.erase x) h2 (fun y hy => ?_) ?_))
    · exact (List.mem_erase_of_ne (fun (e : y = x) => h1 (e ▸ hy))).2 (hx y (by simp [hy]))
    · rw [List.length_erase_of_mem hm, h]; rfl
def sixL : List Int := [0, 1, 2, 3, 4, 5]
theorem sixL_len : sixL.length = 6 := rfl
theorem sixL_at : ∀ {k : Nat}, k < 6 → sixL[k]? = some (k : Int)
  | 0, _ => rfl | 1, _ => rfl | 2, _ => rfl | 3, _ => rfl | 4, _ => rfl | 5, _ => rfl | _ + 6, h => by omega
theorem sixL_mem {x : Int} : x ∈ sixL ↔ ∃ k : Nat, k < 6 ∧ (k : Int) = x := by
  constructor
  · intro h
    simp only [sixL, List.mem_cons, List.not_mem_nil, or_false] at h
    exact ⟨x.toNat, by omega, by omega⟩
  · rintro ⟨k, hk, rfl⟩
    exact List.mem_of_getElem? (sixL_at hk)
theorem sixL_sort : sortL sixL = sixL := List.mergeSort_of_pairwise (by decide)
theorem sort_perm {a b : List Int} (h : a.Perm b) : sortL a = sortL b := by
  refine List.Perm.eq_of_pairwise (le := (· ≤ ·)) (fun x y _ _ h1 h2 => Int.le_antisymm h1 h2) (sortL_rise a) (sortL_rise b) ?_
  exact (List.mergeSort_perm a _).trans (h.trans (List.mergeSort_perm b _).symm)
theorem orderB_eq (os : List Int) : orderB os = (decide (os.length = 6) && decide (sortL os = sixL)) := by
  rw [orderB]
  by_cases h : os.length = 6
  · congr 1
    rw [Bool.eq_iff_iff, List.all_eq_true, decide_eq_true_eq]
    constructor
    · intro hx
      have hp : os.Perm sixL := perm_of sixL os (by decide) (fun x hm => by
        obtain ⟨k, hk, rfl⟩ := sixL_mem.1 hm
        simpa using hx k (by simpa using hk)) h
      rw [sort_perm hp, sixL_sort]
    · intro hs k hk
      have : (k : Int) ∈ sortL os := by rw [hs]; exact sixL_mem.2 ⟨k, by simpa using hk, rfl⟩
      simpa using sortL_mem.1 this
  · simp [h]
theorem orderB_t {os : List Int} (h : orderB os = true) : os.length = 6 ∧ ∀ k : Nat, k < 6 → (k : Int) ∈ os := by
  simp only [orderB, Bool.and_eq_true, decide_eq_true_eq, List.all_eq_true] at h
  exact ⟨h.1, fun k hk => by simpa using h.2 k (by simpa using hk)⟩
/-- the new number of a variable -/
def atO (os : List Int) (x : Int) : Int := os.getD x.toNat 0
def renX (os : List Int) (x : Int × Int) : Int × Int := (x.1, if x.1 = 1 then atO os x.2 else x.2)
def renC (os : List Int) (c : Cmd) : Cmd := (c.1, if c.1 = 0 then atO os c.2.1 else c.2.1, c.2.2.1, c.2.2.2.map (renX os))
def rwR (D : List Cmd) (os : List Int) : List Cmd × Int := if validW D = true then (if orderB os = true then (D.map (renC os), 0) else ([], 2)) else ([], 1)
theorem atO_at {os : List Int} {k : Nat} {v : Int} (h : os[k]? = some v) : atO os (k : Int) = v := by rw [atO, Int.toNat_natCast, List.getD_eq_getElem?_getD, h]; rfl
theorem okE_var {x : Int × Int} (h : okE x = true) : 0 ≤ x.2 ∧ x.2 ≤ 5 := by
  simp only [okE, Bool.and_eq_true] at h
  exact inB_t h.1.2
end Go.Proofs.Ytecpbgmcednpoaa
