/-
  Contracts of chapter 2 (naturals): trimming, carrying, adding.
-/
import Derived.Test.YtcbcjhfeidkeaaaPlain02
namespace Go.Proofs.Ytcbcjhfeidkeaaa
open Go.RowKit


set_option maxHeartbeats 1000000 in
theorem trimmed_c (A : Option Addr) (n c : Nat) (xs : List Int) (w : World) (h : RdI w A n xs) (hn : n ≤ 10000000000000) (hnc : n ≤ c) :
    Calls Try.prog 90 #[.slice A n c] w fun e w' => e = .returned (.slice A (trimL xs).length c) ∧ w = w' := by
  have HL := Lib.hid h.len
  have H := Lib.hid h; clear h
  have H0 := Lib.hid (show trimL xs = trimL (xs.take n) by rw [← HL.out, List.take_length])
  go_enter Try.func90, Try.ntmps90
  go_wp2
  go_loop [0] (fun v => ∃ k : Nat, k ≤ n ∧ v = .slice A k c ∧ Hid (trimL xs = trimL (xs.take k))) (fun v => match v with | .slice _ k _ => k | _ => 0)
  case atStart => exact ⟨n, by omega, rfl, H0.out⟩
  case round =>
    obtain ⟨k, hk, rfl, hr⟩ := hrel
    by_cases hk0 : 0 < k
    · obtain ⟨ad, x, rfl, hab, hx, hcx⟩ := H.out.at_ (show k - 1 < n by omega)
      have g1 : decide ((0 : Int) < (k : Int)) = true := by simp; omega
      by_cases hx0 : x = 0
      · have g2 : (x == 0) = true := by simpa using hx0
        have HF := Lib.hid (show trimL xs = trimL (xs.take (k - 1)) by rw [hr.out, show xs.take k = xs.take ((k - 1) + 1) by rw [show (k - 1) + 1 = k by omega]]; rw [hx0] at hx; exact trimL_zero hx)
        clear hx hx0
        go_wp2
        go_round
        case rel => exact ⟨k - 1, by omega, by go_num, HF.out⟩
        case measure => simp; omega
      · have g2 : (x == 0) = false := by simpa using hx0
        have HF := Lib.hid (show (trimL xs).length = k by rw [hr.out, show xs.take k = xs.take ((k - 1) + 1) by rw [show (k - 1) + 1 = k by omega], trimL_stop hx hx0, List.length_take, HL.out]; omega)
        clear hx hx0
        go_wp2
        go_ret
        exact ⟨by rw [HF.out]; rfl, rfl⟩
    · have g1 : decide ((0 : Int) < (k : Int)) = false := by simp; omega
      have HF := Lib.hid (show (trimL xs).length = k by rw [hr.out, show k = 0 by omega]; rfl)
      go_wp2
      go_ret
      exact ⟨by rw [HF.out]; rfl, rfl⟩
end Go.Proofs.Ytcbcjhfeidkeaaa
