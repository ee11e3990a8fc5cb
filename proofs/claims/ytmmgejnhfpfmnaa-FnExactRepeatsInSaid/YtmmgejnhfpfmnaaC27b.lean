/-
  Contracts of chapter 27 (bouncers): ShiftOver's own parts.
-/
import Derived.Test.YtmmgejnhfpfmnaaC27
namespace Go.Proofs.Ytmmgejnhfpfmnaa
open Go.RowKit

set_option maxHeartbeats 1000000 in
theorem l03Over_c (A : Option Addr) (n cp : Nat) (xs : List Int) (sy : Int) (q : Bool) (w : World) (h : RdI w A n xs) (hn : n ≤ 1000000000) (hlo : ∀ x ∈ xs, 0 ≤ x) (hq : allB 0 (sy - 1) xs = q) :
    Calls Try.prog 45 #[.slice A n cp, .int .i64 sy] w fun e w' => e = .returned (.bool q) ∧ w = w' := by
  have HL := Lib.hid h.len
  have HQ := Lib.hid hq
  have HO := Lib.hid hlo
  have H := Lib.hid h; clear hq h hlo
  go_enter Try.func45, Try.ntmps45
  go_wp2_with fail
  go_loop [5] (fun iv => ∃ k : Nat, k ≤ n ∧ iv = .int .i64 k ∧ Hid (allB 0 (sy - 1) xs = allB 0 (sy - 1) (xs.drop k))) (fun iv => n - (intOf iv).toNat)
  case atStart => exact ⟨0, by omega, rfl, rfl⟩
  case round =>
    obtain ⟨k, hk, rfl, hr⟩ := hrel
    by_cases hlt : k < n
    · obtain ⟨ad, y, rfl, hab, hy, hcy⟩ := H.out.at_ hlt
      have hy0 := HO.out y (List.mem_of_getElem? hy)
      have Hy := Lib.hid hy; clear hy
      by_cases hin : sy ≤ y
      · have HE := Lib.hid (show false = q by rw [← HQ.out, hr.out, drop_at Hy.out, allB, inB_not (by omega)]; rfl)
        clear hr
        go_wp2_with fail
        go_ret
        exact ⟨by rw [← HE.out]; rfl, rfl⟩
      · have HE := Lib.hid (show allB 0 (sy - 1) xs = allB 0 (sy - 1) (xs.drop (k + 1)) by rw [hr.out, drop_at Hy.out, allB, inB_of hy0 (by omega)]; rfl)
        clear hr
        go_wp2_with fail
        go_round
        case rel => exact ⟨k + 1, by omega, by go_num, HE.out⟩
        case measure => simp [intOf]; omega
    · have HE := Lib.hid (show true = q by rw [← HQ.out, hr.out, List.drop_eq_nil_of_le (by rw [HL.out]; omega)]; rfl)
      clear hr
      go_wp2_with fail
      go_ret
      exact ⟨by rw [← HE.out]; rfl, rfl⟩
end Go.Proofs.Ytmmgejnhfpfmnaa
