/-
  Contracts of chapter 22 (while programs): which expressions are valid.
-/
import Derived.Test.YtbpeagnldgefeaaC22
namespace Go.Proofs.Ytbpeagnldgefeaa
open Go.RowKit

def okE (x : Int × Int) : Bool := inB x.1 0 5 && (if x.1 = 1 then inB x.2 0 5 else x.2 == 0)
def scanB : Nat → List (Int × Int) → Bool
  | m, [] => m == 0
  | m, x :: l => decide (0 < m) && (okE x && scanB (m - 1 + manyK x.1) l)
def exprB (xs : List (Int × Int)) : Bool := decide (1 ≤ xs.length) && (decide (xs.length ≤ 40) && scanB 1 xs)

set_option maxHeartbeats 2000000 in
set_option maxRecDepth 100000 in
theorem l22Expr_c (A : Option Addr) (n c : Nat) (xs : List (Int × Int)) (w : World) (h : RdE w A n xs) (hn : n ≤ 1000000000000) :
    Calls Try.prog 77 #[.slice A n c] w fun e w' => e = .returned (.bool (exprB xs)) ∧ w = w' := by
  have HL := Lib.hid h.len
  have H := Lib.hid h; clear h
  by_cases h1 : n < 1
  · have HR := Lib.hid (show exprB xs = false by simp [exprB, HL.out]; omega)
    have g1 : decide ((n : Int) < 1) = true := by simp; omega
    go_enter Try.func77, Try.ntmps77
    go_wp2
    go_ret
    exact ⟨by rw [HR.out]; rfl, rfl⟩
  have g1 : decide ((n : Int) < 1) = false := by simp; omega
  by_cases h2 : 40 < n
  · have HR := Lib.hid (show exprB xs = false by simp [exprB, HL.out]; omega)
    have g2 : decide (40 < (n : Int)) = true := by simp; omega
    go_enter Try.func77, Try.ntmps77
    go_wp2
    go_ret
    exact ⟨by rw [HR.out]; rfl, rfl⟩
  have g2 : decide (40 < (n : Int)) = false := by simp; omega
  have HR := Lib.hid (show exprB xs = scanB 1 xs by unfold exprB; rw [HL.out, decide_eq_true (show 1 ≤ n by omega), decide_eq_true (show n ≤ 40 by omega)]; rfl)
  go_enter Try.func77, Try.ntmps77
  go_wp2
  go_loop [3, 4] (fun mv iv => ∃ k m : Nat, k ≤ n ∧ m ≤ k + 1 ∧ mv = .int .i64 m ∧ iv = .int .i64 k ∧ Hid (scanB 1 xs = scanB m (xs.drop k))) (fun _ iv => n - (intOf iv).toNat)
  case atStart => exact ⟨0, 1, by omega, by omega, rfl, rfl, rfl⟩
  case round =>
    obtain ⟨k, m, hk, hm, rfl, rfl, hr⟩ := hrel
    by_cases hlt : k < n
    · obtain ⟨ad, x, rfl, hab, hx, hc0, hc1⟩ := H.out.at_ hlt
      have HS := Lib.hid (show scanB 1 xs = (decide (0 < m) && (okE x && scanB (m - 1 + manyK x.1) (xs.drop (k + 1)))) by rw [hr.out, drop_at hx, scanB])
      have hmk := manyK_le x.1
      obtain ⟨p, q⟩ := x
      clear hx
      by_cases hm0 : 0 < m
      · have e1 : ((m : Int) == 0) = false := by simp; omega
        cases hp : inB p 0 5
        · have HF := Lib.hid (show scanB 1 xs = false by rw [HS.out]; simp [okE, hp])
          go_wp2_with (go_at_call 54; refine (l00In_b _ _ _ _ hp _).mono ?_; rintro e w' ⟨rfl, rfl⟩)
          go_ret
          exact ⟨by rw [HR.out, HF.out]; rfl, rfl⟩
        by_cases hp1 : p = 1
        · have e2 : (p == 1) = true := by simpa using hp1
          have e3 : (p != 1) = false := by simpa using hp1
          cases hq : inB q 0 5
          · have HF := Lib.hid (show scanB 1 xs = false by rw [HS.out]; simp [okE, hp1, hq])
            clear hp1
            go_wp2_with fail
            refine (l00In_b _ _ _ _ hp _).mono ?_
            rintro e w' ⟨rfl, rfl⟩
            go_wp2_with fail
            refine (l00In_b _ _ _ _ hq _).mono ?_
            rintro e w' ⟨rfl, rfl⟩
            go_wp2
            go_ret
            exact ⟨by rw [HR.out, HF.out]; rfl, rfl⟩
          · have HF := Lib.hid (show scanB 1 xs = scanB (m - 1 + manyK p) (xs.drop (k + 1)) by rw [HS.out]; rw [hp1] at hp ⊢; simp [okE, hp, hq, hm0])
            clear hp1
            go_wp2_with fail
            refine (l00In_b _ _ _ _ hp _).mono ?_
            rintro e w' ⟨rfl, rfl⟩
            go_wp2_with fail
            refine (l00In_b _ _ _ _ hq _).mono ?_
            rintro e w' ⟨rfl, rfl⟩
            go_wp2_with fail
            refine (l22Many_c _ _).mono ?_
            rintro e w' ⟨rfl, rfl⟩
            go_wp2
            go_round
            case rel => exact ⟨k + 1, m - 1 + manyK p, by omega, by omega, by go_num, by go_num, HF.out⟩
            case measure => simp [intOf]; omega
        · have e2 : (p == 1) = false := by simpa using hp1
          have e3 : (p != 1) = true := by simpa using hp1
          by_cases hq : q = 0
          · have e4 : (q != 0) = false := by simpa using hq
            have HF := Lib.hid (show scanB 1 xs = scanB (m - 1 + manyK p) (xs.drop (k + 1)) by rw [HS.out]; simp [okE, hp, hp1, hq, hm0])
            clear hp1 hq
            go_wp2_with fail
            refine (l00In_b _ _ _ _ hp _).mono ?_
            rintro e w' ⟨rfl, rfl⟩
            go_wp2_with fail
            refine (l22Many_c _ _).mono ?_
            rintro e w' ⟨rfl, rfl⟩
            go_wp2
            go_round
            case rel => exact ⟨k + 1, m - 1 + manyK p, by omega, by omega, by go_num, by go_num, HF.out⟩
            case measure => simp [intOf]; omega
          · have e4 : (q != 0) = true := by simpa using hq
            have HF := Lib.hid (show scanB 1 xs = false by rw [HS.out]; simp [okE, hp1, hq])
            clear hp1 hq
            go_wp2_with (go_at_call 54; refine (l00In_b _ _ _ _ hp _).mono ?_; rintro e w' ⟨rfl, rfl⟩)
            go_ret
            exact ⟨by rw [HR.out, HF.out]; rfl, rfl⟩
      · have e1 : ((m : Int) == 0) = true := by simp; omega
        have HF := Lib.hid (show scanB 1 xs = false by rw [HS.out]; simp [hm0])
        go_wp2
        go_ret
        exact ⟨by rw [HR.out, HF.out]; rfl, rfl⟩
    · have HF := Lib.hid (show scanB 1 xs = ((m : Int) == 0) by
        rw [hr.out, List.drop_eq_nil_of_le (by rw [HL.out]; omega), scanB, Bool.eq_iff_iff]; simp)
      go_wp2
      go_ret
      exact ⟨by rw [HR.out, HF.out]; rfl, rfl⟩
end Go.Proofs.Ytbpeagnldgefeaa
