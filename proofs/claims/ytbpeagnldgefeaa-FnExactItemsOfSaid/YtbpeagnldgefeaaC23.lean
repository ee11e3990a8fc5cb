/-
  Contracts of chapter 23: ItemsOf of the reference; plain facts on terms.
-/
import Derived.Test.YtbpeagnldgefeaaC22c
namespace Go.Proofs.Ytbpeagnldgefeaa
open Go.RowKit

def wtK (k : Int) : Int := if k = 0 ∨ k = 1 then 1 else if k = 3 ∨ k = 4 then 3 else 2
theorem wtK_bd (k : Int) : 1 ≤ wtK k ∧ wtK k ≤ 3 := by unfold wtK; split <;> (try split) <;> omega
def sumW : List (Int × Int) → Int
  | [] => 0
  | x :: l => wtK x.1 + sumW l
theorem sumW_app : ∀ (a b : List (Int × Int)), sumW (a ++ b) = sumW a + sumW b
  | [], b => by simp [sumW]
  | x :: a, b => by simp only [List.cons_append, sumW, sumW_app a b]; omega
theorem sumW_bd : ∀ l : List (Int × Int), 0 ≤ sumW l ∧ sumW l ≤ 3 * l.length
  | [] => by simp [sumW]
  | x :: l => by have := sumW_bd l; have := wtK_bd x.1; simp only [sumW, List.length_cons]; omega
def itemR (xs : List (Int × Int)) : Int × Int := if exprB xs then (2 + sumW xs, 0) else (0, 1)

theorem scan_split : ∀ (l : List (Int × Int)) (a b : Nat), scanB (a + b) l = true → ∃ l1 l2, l = l1 ++ l2 ∧ scanB a l1 = true ∧ scanB b l2 = true
  | [], a, b, h => by
    have : a + b = 0 := by simpa [scanB] using h
    exact ⟨[], [], rfl, by simp [scanB]; omega, by simp [scanB]; omega⟩
  | x :: l, 0, b, h => ⟨[], x :: l, rfl, rfl, by simpa using h⟩
  | x :: l, a + 1, b, h => by
    simp only [scanB, Bool.and_eq_true] at h
    obtain ⟨l1, l2, rfl, h1, h2⟩ := scan_split l (a + manyK x.1) b (by rw [show a + manyK x.1 + b = a + 1 + b - 1 + manyK x.1 by omega]; exact h.2.2)
    refine ⟨x :: l1, l2, rfl, ?_, h2⟩
    simp only [scanB, h.2.1, Bool.and_eq_true, decide_eq_true_eq]
    exact ⟨by omega, trivial, by simpa using h1⟩
theorem scan_endX : ∀ (l1 l2 : List (Int × Int)) (m k : Nat), scanB m l1 = true → endX m k (l1 ++ l2) = ((k + l1.length : Nat) : Int)
  | [], l2, m, k, h => by
    have : m = 0 := by simpa [scanB] using h
    subst this; simp [endX]
  | x :: l1, l2, 0, k, h => by simp [scanB] at h
  | x :: l1, l2, m + 1, k, h => by
    simp only [scanB, Bool.and_eq_true] at h
    rw [List.cons_append, endX, scan_endX l1 l2 (m + manyK x.1) (k + 1) (by simpa using h.2.2), List.length_cons]
    congr 1; omega

set_option maxHeartbeats 2000000 in
set_option maxRecDepth 100000 in
theorem sItemsOf_c (A : Option Addr) (n c : Nat) (xs : List (Int × Int)) (w : World) (h : RdE w A n xs) (hn : n ≤ 1000000000000) :
    Calls Try.prog 48 #[.slice A n c] w fun e w' => e = .returned (.tuple #[.int .i64 (itemR xs).1, .int .i64 (itemR xs).2]) ∧ Below w.heap.size w w' := by
  have HL := Lib.hid h.len
  have H := Lib.hid h; clear h
  cases hx : exprB xs
  · have HR := Lib.hid (show itemR xs = (0, 1) by simp [itemR, hx])
    go_enter Try.func48, Try.ntmps48
    go_wp2_with fail
    refine (l22Expr_c _ _ _ xs _ H.out hn).mono ?_
    rintro e w' ⟨rfl, rfl⟩
    rw [hx]
    go_wp2
    go_ret2
    exact ⟨by rw [HR.out]; rfl, below_size⟩
  have HR := Lib.hid (show itemR xs = (2 + sumW xs, 0) by simp [itemR, hx])
  have HB := Lib.hid (sumW_bd xs)
  go_enter Try.func48, Try.ntmps48
  go_wp2_with fail
  refine (l22Expr_c _ _ _ xs _ H.out hn).mono ?_
  rintro e w' ⟨rfl, rfl⟩
  rw [hx]
  go_wp2
  go_loop [4, 5] (fun mv iv => ∃ (k : Nat) (m : Int), k ≤ n ∧ 2 ≤ m ∧ m ≤ 2 + 3 * k ∧ mv = .int .i64 m ∧ iv = .int .i64 k ∧ Hid (2 + sumW xs = m + sumW (xs.drop k))) (fun _ iv => n - (intOf iv).toNat)
  case atStart => exact ⟨0, 2, by omega, by omega, by omega, rfl, rfl, rfl⟩
  case round =>
    obtain ⟨k, m, hk, hm1, hm2, rfl, rfl, hr⟩ := hrel
    by_cases hlt : k < n
    · obtain ⟨ad, x, rfl, hab, hx, hc0, hc1⟩ := H.out.at_ hlt
      have HS := Lib.hid (show 2 + sumW xs = m + wtK x.1 + sumW (xs.drop (k + 1)) by rw [hr.out, drop_at hx, sumW]; omega)
      obtain ⟨p, q⟩ := x
      clear hx
      by_cases h0 : p = 0
      · subst h0
        go_wp2
        go_round
        case rel => exact ⟨k + 1, m + 1, by omega, by omega, by omega, by go_num, by go_num, HS.out⟩
        case measure => simp [intOf]; omega
      by_cases h1 : p = 1
      · subst h1
        go_wp2
        go_round
        case rel => exact ⟨k + 1, m + 1, by omega, by omega, by omega, by go_num, by go_num, HS.out⟩
        case measure => simp [intOf]; omega
      by_cases h3 : p = 3
      · subst h3
        go_wp2
        go_round
        case rel => exact ⟨k + 1, m + 3, by omega, by omega, by omega, by go_num, by go_num, HS.out⟩
        case measure => simp [intOf]; omega
      by_cases h4 : p = 4
      · subst h4
        go_wp2
        go_round
        case rel => exact ⟨k + 1, m + 3, by omega, by omega, by omega, by go_num, by go_num, HS.out⟩
        case measure => simp [intOf]; omega
      have HW := Lib.hid (show 2 + sumW xs = m + 2 + sumW (xs.drop (k + 1)) by rw [HS.out]; simp [wtK, h0, h1, h3, h4])
      have g0 : (p == 0) = false := by simpa using h0
      have g1 : (p == 1) = false := by simpa using h1
      have g3 : (p == 3) = false := by simpa using h3
      have g4 : (p == 4) = false := by simpa using h4
      go_wp2
      go_round
      case rel => exact ⟨k + 1, m + 2, by omega, by omega, by omega, by go_num, by go_num, HW.out⟩
      case measure => simp [intOf]; omega
    · have HF := Lib.hid (show 2 + sumW xs = m by rw [hr.out, List.drop_eq_nil_of_le (by rw [HL.out]; omega), sumW]; omega)
      go_wp2
      go_ret2
      exact ⟨by rw [HR.out, HF.out]; rfl, below_size⟩
end Go.Proofs.Ytbpeagnldgefeaa
