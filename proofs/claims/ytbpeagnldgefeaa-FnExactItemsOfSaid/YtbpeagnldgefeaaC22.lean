/-
  Contracts of chapter 22 (while programs): expressions.
-/
import Derived.Test.YtbpeagnldgefeaaE
namespace Go.Proofs.Ytbpeagnldgefeaa
open Go.RowKit

def manyK (k : Int) : Nat := if k = 3 ∨ k = 4 then 1 else if k = 2 ∨ k = 5 then 2 else 0
theorem manyK_le (k : Int) : manyK k ≤ 2 := by unfold manyK; split <;> (try split) <;> omega
def endX : Nat → Nat → List (Int × Int) → Int
  | 0, k, _ => k
  | _ + 1, _, [] => -1
  | m + 1, k, x :: l => endX (m + manyK x.1) (k + 1) l

theorem l22Many_c (k : Int) (w : World) : Calls Try.prog 91 #[.int .i64 k] w fun e w' => e = .returned (.int .i64 (manyK k)) ∧ w = w' := by
  by_cases h3 : k = 3
  · subst h3
    go_enter Try.func91, Try.ntmps91
    go_wp2
    go_ret
    exact ⟨rfl, rfl⟩
  by_cases h4 : k = 4
  · subst h4
    go_enter Try.func91, Try.ntmps91
    go_wp2
    go_ret
    exact ⟨rfl, rfl⟩
  by_cases h2 : k = 2
  · subst h2
    go_enter Try.func91, Try.ntmps91
    go_wp2
    go_ret
    exact ⟨rfl, rfl⟩
  by_cases h5 : k = 5
  · subst h5
    go_enter Try.func91, Try.ntmps91
    go_wp2
    go_ret
    exact ⟨rfl, rfl⟩
  have HR := Lib.hid (show manyK k = 0 by simp [manyK, h2, h3, h4, h5])
  have g2 : (k == 2) = false := by simpa using h2
  have g3 : (k == 3) = false := by simpa using h3
  have g4 : (k == 4) = false := by simpa using h4
  have g5 : (k == 5) = false := by simpa using h5
  go_enter Try.func91, Try.ntmps91
  go_wp2
  go_ret
  exact ⟨by rw [HR.out]; rfl, rfl⟩
theorem exprFollow_c (k v : Int) (w : World) : Calls Try.prog 95 #[.agg #[.int .i64 k, .int .i64 v]] w fun e w' => e = .returned (.int .i64 (manyK k)) ∧ Below w.heap.size w w' := by
  by_cases h3 : k = 3
  · subst h3
    go_enter Try.func95, Try.ntmps95
    go_wp2
    go_ret
    exact ⟨rfl, below_size.alloc (Nat.le_refl _) _⟩
  by_cases h4 : k = 4
  · subst h4
    go_enter Try.func95, Try.ntmps95
    go_wp2
    go_ret
    exact ⟨rfl, below_size.alloc (Nat.le_refl _) _⟩
  by_cases h2 : k = 2
  · subst h2
    go_enter Try.func95, Try.ntmps95
    go_wp2
    go_ret
    exact ⟨rfl, below_size.alloc (Nat.le_refl _) _⟩
  by_cases h5 : k = 5
  · subst h5
    go_enter Try.func95, Try.ntmps95
    go_wp2
    go_ret
    exact ⟨rfl, below_size.alloc (Nat.le_refl _) _⟩
  have HR := Lib.hid (show manyK k = 0 by simp [manyK, h2, h3, h4, h5])
  have g2 : (k == 2) = false := by simpa using h2
  have g3 : (k == 3) = false := by simpa using h3
  have g4 : (k == 4) = false := by simpa using h4
  have g5 : (k == 5) = false := by simpa using h5
  go_enter Try.func95, Try.ntmps95
  go_wp2
  go_ret
  exact ⟨by rw [HR.out]; rfl, below_size.alloc (Nat.le_refl _) _⟩

set_option maxHeartbeats 1000000 in
theorem termEndE_c (A : Option Addr) (n c k0 : Nat) (xs : List (Int × Int)) (w : World) (h : RdE w A n xs) (hn : n ≤ 1000000000) (hk : k0 ≤ n) :
    Calls Try.prog 94 #[.slice A n c, .int .i64 k0, .func (.func 95) #[] #[]] w fun e w' => e = .returned (.int .i64 (endX 1 k0 (xs.drop k0))) ∧ Below w.heap.size w w' := by
  have HL := Lib.hid h.len
  have H := Lib.hid h; clear h
  go_enter Try.func94, Try.ntmps94
  go_wp2
  go_loopw [1, 7] (fun kv mv wr => ∃ k m : Nat, k ≤ n ∧ m ≤ k + 1 ∧ kv = .int .i64 k ∧ mv = .int .i64 m ∧ Hid (endX 1 k0 (xs.drop k0) = endX m k (xs.drop k)) ∧ Below w.heap.size w wr) (fun kv _ _ => n - (intOf kv).toNat)
  case atStart => exact ⟨k0, 1, by omega, by omega, rfl, rfl, rfl, below_size⟩
  case round =>
    obtain ⟨k, m, hk, hm, rfl, rfl, hr, hb⟩ := hrel
    have HB := Lib.hid hb
    by_cases hm0 : 0 < m
    · by_cases hlt : k < n
      · obtain ⟨ad, x, rfl, hab, hx, hc0, hc1⟩ := (H.out.below hb).at_ hlt
        have HR := Lib.hid (show endX 1 k0 (xs.drop k0) = endX (m - 1 + manyK x.1) (k + 1) (xs.drop (k + 1)) by
          obtain ⟨m', rfl⟩ : ∃ m', m = m' + 1 := ⟨m - 1, by omega⟩
          rw [hr.out, drop_at hx, endX]; rfl)
        have hmk := manyK_le x.1
        obtain ⟨p, q⟩ := x
        clear hx hb
        go_wp2_with fail
        refine (exprFollow_c _ _ _).mono ?_
        rintro e w1 ⟨rfl, hb1⟩
        have BB := Lib.hid (below_chain HB.out HB.out.size hb1)
        clear hb1
        go_wp2
        go_roundw
        case rel => exact ⟨k + 1, m - 1 + manyK p, by omega, by omega, by go_num, by go_num, HR.out, BB.out⟩
        case measure => simp [intOf]; omega
      · have HR := Lib.hid (show endX 1 k0 (xs.drop k0) = -1 by
          obtain ⟨m', rfl⟩ : ∃ m', m = m' + 1 := ⟨m - 1, by omega⟩
          rw [hr.out, List.drop_eq_nil_of_le (by rw [HL.out]; omega), endX])
        clear hb
        go_wp2
        go_ret
        exact ⟨by rw [HR.out]; rfl, HB.out⟩
    · have HR := Lib.hid (show endX 1 k0 (xs.drop k0) = k by
        obtain rfl : m = 0 := by omega
        rw [hr.out, endX])
      clear hb
      go_wp2
      go_ret
      exact ⟨by rw [HR.out]; rfl, HB.out⟩
end Go.Proofs.Ytbpeagnldgefeaa
