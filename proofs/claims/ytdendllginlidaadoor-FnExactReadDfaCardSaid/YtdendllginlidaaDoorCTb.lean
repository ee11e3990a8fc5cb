/-
  Texts, second part: lists of numerals in the reference (l01List, l06Digits, l03Text, l05Digits).
-/
import Derived.Test.YtdendllginlidaaDoorCTa
import Derived.Lib.Join
namespace Go.Proofs.YtdendllginlidaaDoor
open Go.RowKit

def i64s (xs : List Int) : Prop := ∀ x ∈ xs, -9223372036854775808 ≤ x ∧ x ≤ 9223372036854775807
theorem itoa_len {x : Int} (h : -9223372036854775808 ≤ x ∧ x ≤ 9223372036854775807) : (Lib.itoa x).length ≤ 21 := Lib.itoa_length_le x h.1 h.2
theorem join_at (sep : List UInt8) (L : List (List UInt8)) (k : Nat) (y : List UInt8) (h : L[k]? = some y) : Lib.join (L.take (k + 1)) sep = (if 0 < k then Lib.join (L.take k) sep ++ sep else []) ++ y := by
  cases L with
  | nil => simp at h
  | cons x r =>
    cases k with
    | zero => simp at h; subst h; simp [Lib.join_one]
    | succ k =>
      simp at h
      rw [if_pos (by omega), List.take_succ_cons, List.take_succ_cons, Lib.join_cons, Lib.join_cons, Lib.joinTail_take_succ sep r k y h]
      simp
theorem lens_le {b : Nat} : ∀ {L : List (List UInt8)}, (∀ y ∈ L, y.length ≤ b) → Lib.lens L ≤ b * L.length
  | [], _ => by simp [Lib.lens]
  | y :: r, h => by
    have h1 := h y (by simp)
    have h2 := lens_le (L := r) (fun z hz => h z (by simp [hz]))
    simp only [Lib.lens, List.map_cons, List.sum_cons, List.length_cons, Nat.mul_succ] at h2 ⊢
    omega
theorem join_len {b : Nat} (sep : List UInt8) {L : List (List UInt8)} (h : ∀ y ∈ L, y.length ≤ b) : (Lib.join L sep).length ≤ (sep.length + b) * L.length := by
  cases L with
  | nil => simp [Lib.join_nil]
  | cons x r =>
    rw [Lib.join_length]
    have h1 := lens_le h
    rw [Nat.add_mul]
    have h2 : sep.length * r.length ≤ sep.length * (x :: r).length := Nat.mul_le_mul_left _ (by simp)
    omega
/-- a list's text -/
def listT (xs : List Int) : List UInt8 := if xs = [] then [45] else Lib.join (xs.map Lib.itoa) [44]
theorem csv_len {sep : UInt8} {xs : List Int} (h : i64s xs) (k : Nat) : (Lib.join ((xs.map Lib.itoa).take k) [sep]).length ≤ 22 * k := by
  have h1 := join_len [sep] (L := (xs.map Lib.itoa).take k) (b := 21) (fun y hy => by
    obtain ⟨x, hx, rfl⟩ := List.mem_map.1 (List.mem_of_mem_take hy)
    exact itoa_len (h x hx))
  have h2 : ((xs.map Lib.itoa).take k).length ≤ k := by rw [List.length_take]; omega
  have h3 := Nat.mul_le_mul_left ([sep].length + 21) h2
  simp only [List.length_cons, List.length_nil] at h1 h3
  omega
/-- a list of digits as a text -/
def digT (xs : List Int) : List UInt8 := xs.map fun x => UInt8.ofNat (48 + x.toNat)
def wordT (xs : List Int) : List UInt8 := if xs = [] then [45] else digT xs
def dgs (xs : List Int) : Prop := ∀ x ∈ xs, 0 ≤ x ∧ x ≤ 9
theorem itoa_dig {x : Int} (h : 0 ≤ x ∧ x ≤ 9) : Lib.itoa x = [UInt8.ofNat (48 + x.toNat)] := by
  rw [Lib.itoa, if_neg (by omega), Lib.decDigits, dif_pos (by omega)]
theorem digT_at {xs : List Int} {k : Nat} {x : Int} (h : xs[k]? = some x) : digT (xs.take (k + 1)) = digT (xs.take k) ++ [UInt8.ofNat (48 + x.toNat)] := by
  rw [List.take_add_one, h]; simp [digT]
theorem digT_len (xs : List Int) : (digT xs).length = xs.length := by simp [digT]
theorem digT_text {xs : List Int} (h : dgs xs) : strOfNums (xs.map (48 + ·)) = bs (digT xs) := by
  unfold strOfNums bs digT
  rw [List.map_map]
  congr 2
  apply List.map_congr_left
  intro x hx
  have h1 := h x hx
  simp only [Function.comp]
  congr 1
  omega
end Go.Proofs.YtdendllginlidaaDoor
