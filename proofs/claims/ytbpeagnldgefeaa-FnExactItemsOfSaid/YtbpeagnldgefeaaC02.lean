/-
  Contracts of chapter 2 (naturals), first part: which lists are naturals.
-/
import Derived.Test.YtbpeagnldgefeaaC01
import Derived.Test.YtbpeagnldgefeaaApp
namespace Go.Proofs.Ytbpeagnldgefeaa
open Go.RowKit

def lastB (xs : List Int) : Bool := match xs.getLast? with | none => true | some x => x != 0
def natB (xs : List Int) : Bool := decide (xs.length ≤ 40) && (allB 0 999999 xs && lastB xs)
theorem lastB_at {xs : List Int} {x : Int} {n : Nat} (hn : xs.length = n) (_hn0 : 0 < n) (h : xs[n - 1]? = some x) : lastB xs = (x != 0) := by
  have : xs.getLast? = some x := by rw [List.getLast?_eq_getElem?, hn, h]
  simp [lastB, this]
theorem lastB_nil : lastB [] = true := rfl

set_option maxHeartbeats 1000000 in
theorem iIsNatural_c (A : Option Addr) (n c : Nat) (xs : List Int) (w : World) (h : RdI w A n xs) (hn : n ≤ 1000000000000) :
    Calls Try.prog 83 #[.slice A n c] w fun e w' => e = .returned (.bool (natB xs)) ∧ w = w' := by
  have HL := Lib.hid h.len
  have H := Lib.hid h; clear h
  by_cases h40 : n ≤ 40
  · have g1 : decide ((n : Int) ≤ 40) = true := by simp; omega
    cases hall : allB 0 999999 xs
    · have HR := Lib.hid (show natB xs = false by simp [natB, hall])
      go_enter Try.func83, Try.ntmps83
      go_wp2_with (go_at_call 62; refine (allWithin_b _ _ _ xs _ _ _ hall _ H.out hn).mono ?_; rintro e w' ⟨rfl, rfl⟩)
      go_ret
      exact ⟨by rw [HR.out]; rfl, rfl⟩
    · by_cases hn0 : 0 < n
      · obtain ⟨ad, x, rfl, hab, hx, hcx⟩ := H.out.at_ (show n - 1 < n by omega)
        have HR := Lib.hid (show natB xs = (x != 0) by simp only [natB, hall, HL.out, h40, lastB_at HL.out hn0 hx]; simp)
        have g2 : ((n : Int) == 0) = false := by simp; omega
        clear hx
        go_enter Try.func83, Try.ntmps83
        go_wp2_with (go_at_call 62; refine (allWithin_b _ _ _ xs _ _ _ hall _ H.out hn).mono ?_; rintro e w' ⟨rfl, rfl⟩)
        go_ret
        exact ⟨by rw [HR.out]; rfl, rfl⟩
      · have hz : n = 0 := by omega
        have HR := Lib.hid (show natB xs = true by
          have : xs = [] := List.eq_nil_of_length_eq_zero (by rw [HL.out]; exact hz)
          subst this; rfl)
        have g2 : ((n : Int) == 0) = true := by simp; omega
        clear hz
        go_enter Try.func83, Try.ntmps83
        go_wp2_with (go_at_call 62; refine (allWithin_b _ _ _ xs _ _ _ hall _ H.out hn).mono ?_; rintro e w' ⟨rfl, rfl⟩)
        go_ret
        exact ⟨by rw [HR.out]; rfl, rfl⟩
  · have g1 : decide ((n : Int) ≤ 40) = false := by simp; omega
    have HR := Lib.hid (show natB xs = false by simp [natB, HL.out, h40])
    go_enter Try.func83, Try.ntmps83
    go_wp2
    go_ret
    exact ⟨by rw [HR.out]; rfl, rfl⟩
set_option maxHeartbeats 1000000 in
theorem l02Is_c (A : Option Addr) (n c : Nat) (xs : List Int) (w : World) (h : RdI w A n xs) (hn : n ≤ 1000000000000) :
    Calls Try.prog 71 #[.slice A n c] w fun e w' => e = .returned (.bool (natB xs)) ∧ w = w' := by
  have HL := Lib.hid h.len
  have H := Lib.hid h; clear h
  by_cases h40 : 40 < n
  · have HR := Lib.hid (show natB xs = false by simp [natB, HL.out]; omega)
    go_enter Try.func71, Try.ntmps71
    go_wp2
    go_ret
    exact ⟨by rw [HR.out]; rfl, rfl⟩
  · have HR := Lib.hid (show natB xs = (allB 0 999999 xs && lastB xs) by simp [natB, HL.out]; omega)
    go_enter Try.func71, Try.ntmps71
    go_wp2
    go_loop [3] (fun i => ∃ k : Nat, k ≤ n ∧ i = .int .i64 k ∧ Hid (allB 0 999999 xs = allB 0 999999 (xs.drop k))) (fun i => n - (intOf i).toNat)
    case atStart => exact ⟨0, by omega, rfl, rfl⟩
    case round =>
      obtain ⟨k, hk, rfl, hr⟩ := hrel
      by_cases hlt : k < n
      · obtain ⟨ad, x, rfl, hb, hx, hc⟩ := H.out.at_ hlt
        have Hx := Lib.hid hx; clear hx
        cases hin : inB x 0 999999
        · have HF := Lib.hid (show allB 0 999999 xs = false by rw [hr.out, drop_at Hx.out, allB, hin]; rfl)
          go_wp2_with (go_at_call 54; refine (l00In_b _ _ _ _ hin _).mono ?_; rintro e w' ⟨rfl, rfl⟩)
          go_ret
          exact ⟨by rw [HR.out, HF.out]; rfl, rfl⟩
        · have HF := Lib.hid (show allB 0 999999 xs = allB 0 999999 (xs.drop (k + 1)) by rw [hr.out, drop_at Hx.out, allB, hin]; rfl)
          go_wp2_with (go_at_call 54; refine (l00In_b _ _ _ _ hin _).mono ?_; rintro e w' ⟨rfl, rfl⟩)
          go_round
          case rel => exact ⟨k + 1, by omega, by go_num, HF.out⟩
          case measure => simp [intOf]; omega
      · have HF := Lib.hid (show allB 0 999999 xs = true by rw [hr.out, List.drop_eq_nil_of_le (by rw [HL.out]; omega)]; rfl)
        by_cases hn0 : 0 < n
        · obtain ⟨ad, x, rfl, hab, hx, hcx⟩ := H.out.at_ (show n - 1 < n by omega)
          have HV := Lib.hid (show natB xs = (x != 0) by rw [HR.out, HF.out, lastB_at HL.out hn0 hx]; rfl)
          have g2 : ((n : Int) == 0) = false := by simp; omega
          clear hx
          go_wp2
          go_ret
          exact ⟨by rw [HV.out]; rfl, rfl⟩
        · have HV := Lib.hid (show natB xs = true by
            have : xs = [] := List.eq_nil_of_length_eq_zero (by rw [HL.out]; omega)
            subst this; rfl)
          have g2 : ((n : Int) == 0) = true := by simp; omega
          go_wp2
          go_ret
          exact ⟨by rw [HV.out]; rfl, rfl⟩
end Go.Proofs.Ytbpeagnldgefeaa
