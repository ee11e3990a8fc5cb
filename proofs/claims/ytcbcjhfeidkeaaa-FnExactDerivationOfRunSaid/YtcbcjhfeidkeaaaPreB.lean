/-
  A word at the front of another.
-/
import Derived.Test.YtcbcjhfeidkeaaaEqI
import Derived.Test.YtcbcjhfeidkeaaaMixB
namespace Go.Proofs.Ytcbcjhfeidkeaaa
open Go.RowKit

theorem pre_eq {p b : List Int} : decide (p <+: b) = (decide (p.length ≤ b.length) && eqL (b.take p.length) p) := by
  by_cases h : p <+: b
  · have h1 := h.length_le
    have h2 := List.prefix_iff_eq_take.1 h
    simp [h, h1, eqL, ← h2]
  · by_cases h1 : p.length ≤ b.length
    · have h2 : b.take p.length ≠ p := fun e => h (by rw [List.prefix_iff_eq_take]; exact e.symm)
      simp [h, h1, eqL, h2]
    · simp [h, h1]
theorem l03At_c (B : Option Addr) (nb cb : Nat) (b : List Int) (P : Option Addr) (np cp : Nat) (p : List Int) (q : Bool) (w : World) (hb : RdI w B nb b) (hp : RdI w P np p) (hcb : nb ≤ cb) (_hnb : nb ≤ 1000000) (hnp : np ≤ 1000000) (hq : decide (p <+: b) = q) :
    Calls Try.prog 91 #[.slice B nb cb, .int .i64 0, .slice P np cp] w fun e w' => e = .returned (.bool q) ∧ Qt w w' := by
  have hlb := hb.len; have hlp := hp.len
  have HP := Lib.hid hp
  rw [pre_eq, hlb, hlp] at hq
  by_cases h1 : np ≤ nb
  · have e1 : decide ((np : Int) ≤ (nb : Int)) = true := decide_eq_true (by omega)
    have v1 : IntKind.i64.wrap ((0 : Int) + (np : Int)) = (np : Int) := (IntWalk.i64_in _ (by omega)).trans (by omega)
    have HB := Lib.hid (hb.take h1)
    have HQ := Lib.hid (show eqL (b.take np) p = q by rw [← hq, decide_eq_true h1]; rfl)
    clear hq hb hp hlb hlp
    go_enter Try.func91, Try.ntmps91
    go_wp2_with fail
    refine (l00Same_c B P np np cb cp (b.take np) p _ (by exact HB.out) (by exact HP.out) (by omega)).mono ?_
    rintro e w1 ⟨rfl, hq1⟩
    rw [HQ.out]
    go_wp2_with fail
    go_ret
    exact ⟨rfl, hq1⟩
  · have e1 : decide ((np : Int) ≤ (nb : Int)) = false := decide_eq_false (by omega)
    have v1 : IntKind.i64.wrap ((0 : Int) + (np : Int)) = (np : Int) := (IntWalk.i64_in _ (by omega)).trans (by omega)
    have HQ := Lib.hid (show false = q by rw [← hq, decide_eq_false h1]; rfl)
    clear hq hb hp hlb hlp
    go_enter Try.func91, Try.ntmps91
    go_wp2_with fail
    go_ret
    exact ⟨by first | (rw [← HQ.out]; done) | (rw [← HQ.out]; rfl), (by first | exact Qt.refl _ | exact ⟨_, rfl⟩ | exact Qt.drewN ⟨_, rfl⟩ _)⟩
theorem begins_c (B : Option Addr) (nb cb : Nat) (b : List Int) (P : Option Addr) (np cp : Nat) (p : List Int) (q : Bool) (w : World) (hb : RdI w B nb b) (hp : RdI w P np p) (hcb : nb ≤ cb) (_hnb : nb ≤ 1000000) (hnp : np ≤ 1000000) (hq : decide (p <+: b) = q) :
    Calls Try.prog 99 #[.slice B nb cb, .slice P np cp] w fun e w' => e = .returned (.bool q) ∧ Qt w w' := by
  have hlb := hb.len; have hlp := hp.len
  have HP := Lib.hid hp
  rw [pre_eq, hlb, hlp] at hq
  by_cases h1 : np ≤ nb
  · have e1 : decide ((np : Int) ≤ (nb : Int)) = true := decide_eq_true (by omega)
    have HB := Lib.hid (hb.take h1)
    have HQ := Lib.hid (show eqL (b.take np) p = q by rw [← hq, decide_eq_true h1]; rfl)
    clear hq hb hp hlb hlp
    go_enter Try.func99, Try.ntmps99
    go_wp2_with fail
    refine (equalI_c B P np np cb cp (b.take np) p _ (by exact HB.out) (by exact HP.out) (by omega)).mono ?_
    rintro e w1 ⟨rfl, hq1⟩
    rw [HQ.out]
    go_wp2_with fail
    go_ret
    exact ⟨rfl, hq1⟩
  · have e1 : decide ((np : Int) ≤ (nb : Int)) = false := decide_eq_false (by omega)
    have HQ := Lib.hid (show false = q by rw [← hq, decide_eq_false h1]; rfl)
    clear hq hb hp hlb hlp
    go_enter Try.func99, Try.ntmps99
    go_wp2_with fail
    go_ret
    exact ⟨by first | (rw [← HQ.out]; done) | (rw [← HQ.out]; rfl), (by first | exact Qt.refl _ | exact ⟨_, rfl⟩ | exact Qt.drewN ⟨_, rfl⟩ _)⟩
end Go.Proofs.Ytcbcjhfeidkeaaa
