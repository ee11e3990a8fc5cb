/-
  A string's byte; the reference's digits (l01Digit).
-/
import Derived.Test.YtdendllginlidaaDoorCTa
namespace Go.Proofs.YtdendllginlidaaDoor
open Go.RowKit

theorem bs_at {s : List UInt8} {k : Nat} {c : UInt8} (h : s[k]? = some c) (hk : k < (bs s).size) : (bs s)[k] = c := by
  obtain ⟨hl, rfl⟩ := List.getElem?_eq_some_iff.1 h
  show s.toArray[k]'(by simpa using hl) = s[k]
  exact List.getElem_toArray _
theorem run_ixS {k : Nat} {s : List UInt8} {c : UInt8} {x : Int} (h : s[k]? = some c) (hx : (c.toNat : Int) = x) (w : World) : (Instr.index 9 (.string (bs s)) (.int .i64 (k : Int))).run Tryd.prog w = .ok (.int .u8 x) w := by
  have hk : k < (bs s).size := by rw [bs_size]; exact (List.getElem?_eq_some_iff.1 h).1
  rw [run_index_string w 9 (bs s) .i64 (k : Int) Tryd.underlying9, dif_pos ⟨by omega, by omega⟩]
  have e : (bs s)[(k : Int).toNat] = c := bs_at h hk
  rw [e, hx]
theorem u8_eq {c : UInt8} {d : Nat} (hd : d < 256) : c = UInt8.ofNat d ↔ (c.toNat : Int) = d := by
  constructor
  · rintro rfl; rw [UInt8.toNat_ofNat']; omega
  · intro h; apply UInt8.toNat_inj.1; rw [UInt8.toNat_ofNat']; omega
theorem l01Digit_c (x : Int) (q : Bool) (w : World) (hq : (decide (48 ≤ x) && decide (x ≤ 57)) = q) : Calls Tryd.prog 22 #[.int .u8 x] w fun e w' => e = .returned (.bool q) ∧ w = w' := by
  have HQ := Lib.hid hq
  clear hq
  by_cases h0 : x < 48
  · have g0 : decide ((48 : Int) ≤ x) = false := by simpa using h0
    have HF := Lib.hid (show false = q by rw [← HQ.out, g0]; rfl)
    go_enter Tryd.func22, Tryd.ntmps22
    go_wp2_with fail
    go_ret
    exact ⟨by rw [← HF.out]; rfl, rfl⟩
  · have g0 : decide ((48 : Int) ≤ x) = true := by simpa using h0
    by_cases h1 : x ≤ 57
    · have g1 : decide (x ≤ (57 : Int)) = true := by simpa using h1
      have HF := Lib.hid (show true = q by rw [← HQ.out, g0, g1]; rfl)
      clear h0 h1
      go_enter Tryd.func22, Tryd.ntmps22
      go_wp2_with fail
      go_ret
      exact ⟨by rw [← HF.out]; rfl, rfl⟩
    · have g1 : decide (x ≤ (57 : Int)) = false := by simpa using h1
      have HF := Lib.hid (show false = q by rw [← HQ.out, g1, Bool.and_false])
      clear h0 h1
      go_enter Tryd.func22, Tryd.ntmps22
      go_wp2_with fail
      go_ret
      exact ⟨by rw [← HF.out]; rfl, rfl⟩
end Go.Proofs.YtdendllginlidaaDoor
