/-
  Ranks of trees, in plain words: in how many ways n nodes are k trees (at most 10^12 + 1), and the tree with a rank. Nothing of the program.
-/
import Derived.Test.YtplcpldbenjjgaaBase
namespace Go.Proofs.Ytplcpldbenjjgaa
open Go.RowKit

abbrev capW : Nat := 1000000000001
def nextRow (r : List Nat) : List Nat := 0 :: List.zipWith (fun a b => min capW (a + b)) r (r.drop 2 ++ [0, 0])
def rowW : Nat → List Nat
  | 0 => [1]
  | n + 1 => nextRow (rowW n)
/-- in how many ways n nodes are k trees -/
def W (n k : Nat) : Nat := (rowW n).getD k 0
theorem rowW_len (n : Nat) : (rowW n).length = n + 1 := by
  induction n with
  | zero => rfl
  | succ n ih => simp [rowW, nextRow, ih]; omega
theorem W_zero_zero : W 0 0 = 1 := rfl
theorem W_zero_succ (k : Nat) : W 0 (k + 1) = 0 := by simp [W, rowW]
theorem W_succ_zero (n : Nat) : W (n + 1) 0 = 0 := by simp [W, rowW, nextRow]
theorem W_succ (n k : Nat) : W (n + 1) (k + 1) = min capW (W n k + W n (k + 2)) := by
  have hl := rowW_len n
  unfold W
  rw [rowW, nextRow, List.getD_cons_succ]
  generalize rowW n = r at *
  simp only [List.getD_eq_getElem?_getD, List.getElem?_zipWith]
  rcases Nat.lt_or_ge k r.length with h | h
  · rw [List.getElem?_eq_getElem h]
    rcases Nat.lt_or_ge (k + 2) r.length with h2 | h2
    · have : (r.drop 2 ++ [0, 0])[k]? = some r[k + 2] := by
        rw [List.getElem?_append_left (by simp; omega), List.getElem?_drop, Nat.add_comm 2 k, List.getElem?_eq_getElem h2]
      rw [this, List.getElem?_eq_getElem h2]
      rfl
    · have : (r.drop 2 ++ [0, 0])[k]? = some 0 := by
        rcases Nat.lt_or_ge k (r.length - 2) with h3 | h3
        · omega
        · rw [List.getElem?_append_right (by simp; omega)]
          simp only [List.length_drop]
          have : k - (r.length - 2) = 0 ∨ k - (r.length - 2) = 1 := by omega
          rcases this with e | e <;> rw [e] <;> rfl
      rw [this, List.getElem?_eq_none h2]
      rfl
  · have e2 : r[k + 2]? = none := List.getElem?_eq_none (by omega)
    rw [List.getElem?_eq_none h, e2]
    rfl
theorem W_rec {n k : Nat} (h1 : 1 ≤ n) (h2 : 1 ≤ k) : (W n k : Int) = min 1000000000001 ((W (n - 1) (k - 1) : Int) + W (n - 1) (k + 1)) := by
  obtain ⟨a, rfl⟩ : ∃ a, n = a + 1 := ⟨n - 1, by omega⟩
  obtain ⟨b, rfl⟩ : ∃ b, k = b + 1 := ⟨k - 1, by omega⟩
  rw [W_succ]
  simp only [Nat.add_sub_cancel, capW, show b + 1 + 1 = b + 2 from rfl]
  omega
theorem W_big {n k : Nat} (h : n < k) : W n k = 0 := by
  unfold W
  rw [List.getD_eq_getElem?_getD, List.getElem?_eq_none (by rw [rowW_len]; omega)]; rfl
theorem W_le (n k : Nat) : W n k ≤ capW := by
  cases n with
  | zero => cases k with
    | zero => decide
    | succ k => rw [W_zero_succ]; decide
  | succ n => cases k with
    | zero => rw [W_succ_zero]; decide
    | succ k => rw [W_succ]; omega
theorem W_bd (n k : Nat) : 0 ≤ (W n k : Int) ∧ (W n k : Int) ≤ 1000000000001 := by have := W_le n k; unfold capW at this; omega
theorem W_odd : ∀ (n k : Nat), (n + k) % 2 = 1 → W n k = 0
  | 0, 0, h => by simp at h
  | 0, k + 1, _ => W_zero_succ k
  | n + 1, 0, _ => W_succ_zero n
  | n + 1, k + 1, h => by rw [W_succ, W_odd n k (by omega), W_odd n (k + 2) (by omega)]; rfl
theorem W_end : W 49 1 = capW := by decide +kernel

/-- the number of nodes, from n on, and the rank among the trees of so many nodes -/
def szR : Nat → Int → Nat → Nat × Int
  | 0, r, n => (n, r)
  | f + 1, r, n => if (W n 1 : Int) ≤ r then szR f (r - W n 1) (n + 2) else (n, r)
theorem szR_go {f : Nat} {r : Int} {n : Nat} (h : (W n 1 : Int) ≤ r) : szR (f + 1) r n = szR f (r - W n 1) (n + 2) := by rw [szR, if_pos h]
theorem szR_stop {f : Nat} {r : Int} {n : Nat} (h : ¬ (W n 1 : Int) ≤ r) : szR (f + 1) r n = (n, r) := by rw [szR, if_neg h]

/-- l nodes that are k trees, of a rank -/
def bld : Nat → Int → Nat → List Bool
  | 0, _, _ => []
  | l + 1, r, k => if (W l (k - 1) : Int) ≤ r then true :: bld l (r - W l (k - 1)) (k + 1) else false :: bld l r (k - 1)
theorem bld_true {l : Nat} {r : Int} {k : Nat} (h : (W l (k - 1) : Int) ≤ r) : bld (l + 1) r k = true :: bld l (r - W l (k - 1)) (k + 1) := by rw [bld, if_pos h]
theorem bld_false {l : Nat} {r : Int} {k : Nat} (h : ¬ (W l (k - 1) : Int) ≤ r) : bld (l + 1) r k = false :: bld l r (k - 1) := by rw [bld, if_neg h]
theorem bld_len : ∀ (l : Nat) (r : Int) (k : Nat), (bld l r k).length = l
  | 0, _, _ => rfl
  | l + 1, r, k => by rw [bld]; split <;> simp [bld_len l]
/-- the tree with a rank -/
def treeL (r : Int) : List Bool := bld (szR 25 r 1).1 (szR 25 r 1).2 1
/-- a rank below the number of ways leaves at least one tree open -/
theorem open_pos {l k : Nat} {r : Int} (h0 : 0 ≤ r) (h : r < W (l + 1) k) : 1 ≤ k ∧ k ≤ l + 1 := by
  constructor
  · cases k with
    | zero => rw [W_succ_zero] at h; omega
    | succ k => omega
  · rcases Nat.lt_or_ge (l + 1) k with hk | hk
    · rw [W_big hk] at h; omega
    · exact hk
theorem rank_true {l k : Nat} {r : Int} (hk : 1 ≤ k) (h : r < W (l + 1) k) : r - W l (k - 1) < W l (k + 1) := by
  obtain ⟨j, rfl⟩ : ∃ j, k = j + 1 := ⟨k - 1, by omega⟩
  rw [W_succ] at h
  have : ((min capW (W l j + W l (j + 2)) : Nat) : Int) ≤ W l j + W l (j + 2) := by omega
  rw [Nat.add_sub_cancel, show j + 1 + 1 = j + 2 from rfl]
  omega

/-! ### a memory of the ways -/
def MemoOk (m : List ((Int × Int) × Int)) : Prop := ∀ p ∈ m, ∃ n k : Nat, p = (((n : Int), (k : Int)), (W n k : Int))
theorem MemoOk.nil : MemoOk [] := fun _ h => by cases h
theorem MemoOk.add {m : List ((Int × Int) × Int)} (h : MemoOk m) (n k : Nat) : MemoOk (m ++ [(((n : Int), (k : Int)), (W n k : Int))]) := by
  intro p hp
  rcases List.mem_append.1 hp with hp | hp
  · exact h p hp
  · rw [List.mem_singleton] at hp; exact ⟨n, k, hp⟩
theorem MemoOk.at_ {m : List ((Int × Int) × Int)} (h : MemoOk m) {n k : Nat} {v : Int} (hin : (((n : Int), (k : Int)), v) ∈ m) : v = (W n k : Int) := by
  obtain ⟨a, b, e⟩ := h _ hin
  simp only [Prod.mk.injEq, Int.natCast_inj] at e
  obtain ⟨⟨rfl, rfl⟩, e⟩ := e
  exact e

end Go.Proofs.Ytplcpldbenjjgaa
