/-
  Contracts of chapter 12: combinator terms of the reference: valid ones, ends, forms.
-/
import Derived.Test.YtfgnhdmiglobhaaP12c
import Derived.Test.YtfgnhdmiglobhaaLawComb
namespace Go.Proofs.Ytfgnhdmiglobhaa
open Go.RowKit

set_option maxHeartbeats 2000000 in
set_option maxRecDepth 100000 in
theorem l12Comb_c (A : Option Addr) (n cp : Nat) (c : List (Int × Int)) (q : Bool) (w : World) (h : Rd2 w A n c) (hn : n ≤ 1000000000) (hq : validC c = q) :
    Calls Try.prog 25 #[.slice A n cp] w fun e w' => e = .returned (.bool q) ∧ Below w.heap.size w w' := by
  have HL := Lib.hid h.len
  have HQ := Lib.hid (show (inB n 1 400 && needC c 1) = q by rw [← hq, validC_need, h.len])
  have H := Lib.hid h; clear h hq
  cases hb1 : inB n 1 400
  · have HF := Lib.hid (show false = q by rw [← HQ.out, hb1]; rfl)
    have hn1 := inB_f hb1
    by_cases h1 : (n : Int) < 1
    · have k1 : decide ((n : Int) < 1) = true := by simpa using h1
      go_enter Try.func25, Try.ntmps25
      go_wp2_with fail
      go_ret
      exact ⟨by rw [← HF.out]; rfl, below_size⟩
    · have k1 : decide ((n : Int) < 1) = false := by simpa using h1
      have k2 : decide ((400 : Int) < (n : Int)) = true := by rw [decide_eq_true_eq]; omega
      go_enter Try.func25, Try.ntmps25
      go_wp2_with fail
      go_ret
      exact ⟨by rw [← HF.out]; rfl, below_size⟩
  have hn1 := inB_t hb1
  have HF := Lib.hid (show needC c 1 = q by rw [← HQ.out, hb1]; rfl)
  have k1 : decide ((n : Int) < 1) = false := by rw [decide_eq_false_iff_not]; omega
  have k2 : decide ((400 : Int) < (n : Int)) = false := by rw [decide_eq_false_iff_not]; omega
  clear HQ
  go_enter Try.func25, Try.ntmps25
  go_wp2_with fail
  clear k1 k2
  go_loopw [3, 4] (fun ov iv wr => ∃ k o : Nat, k ≤ n ∧ o ≤ k + 1 ∧ iv = .int .i64 k ∧ ov = .int .i64 o ∧ Hid (needC (c.drop k) o = q) ∧ Below w.heap.size w wr) (fun _ iv _ => n - (intOf iv).toNat)
  case atStart => exact ⟨0, 1, by omega, by omega, rfl, rfl, HF.out, below_size⟩
  case round =>
    obtain ⟨k, o, hk, ho, rfl, rfl, hr, hb⟩ := hrel
    have HB := Lib.hid hb
    by_cases hlt : k < n
    · obtain ⟨ad, x, rfl, hab, hx, hc0, hc1⟩ := (H.out.below hb).at_ hlt
      obtain ⟨p, v⟩ := x
      have HS := Lib.hid (show (o != 0 && okC (p, v) && needC (c.drop (k + 1)) (o - 1 + manyC p)) = q by rw [← hr.out, drop_at hx]; rfl)
      clear hx hb hr
      by_cases ho0 : o = 0
      · subst ho0
        have HG := Lib.hid (show false = q by rw [← HS.out]; rfl)
        go_wp2_with fail
        go_ret
        exact ⟨by rw [← HG.out]; rfl, HB.out⟩
      have g0 : ((o : Int) == 0) = false := by simp; omega
      have HS' := Lib.hid (show (okC (p, v) && needC (c.drop (k + 1)) (o - 1 + manyC p)) = q by have h := HS.out; rw [show (o != 0) = true by simpa using ho0, Bool.true_and] at h; exact h)
      clear HS
      cases hp : inB p 0 4
      · have HG := Lib.hid (show false = q by rw [← HS'.out]; simp [okC, hp])
        go_wp2_with (go_at_call 38; refine (l00In_b _ _ _ _ (by assumption) _).mono ?_; rintro e w' ⟨rfl, rfl⟩)
        go_ret
        exact ⟨by rw [← HG.out]; rfl, HB.out⟩
      by_cases h4 : p = 4
      · subst h4
        cases hv : inB v 0 399
        · have HG := Lib.hid (show false = q by rw [← HS'.out]; simp [okC, hv])
          go_wp2_with (go_at_call 38; refine (l00In_b _ _ _ _ (by assumption) _).mono ?_; rintro e w' ⟨rfl, rfl⟩)
          go_ret
          exact ⟨by rw [← HG.out]; rfl, HB.out⟩
        · have HG := Lib.hid (show needC (c.drop (k + 1)) (o - 1) = q by rw [← HS'.out]; simp [okC, hp, hv, manyC])
          go_wp2_with (go_at_call 38; refine (l00In_b _ _ _ _ (by assumption) _).mono ?_; rintro e w' ⟨rfl, rfl⟩)
          go_roundw
          case rel => exact ⟨k + 1, o - 1, by omega, by omega, by go_num, by go_num, HG.out, HB.out⟩
          case measure => simp [intOf]; omega
      have g4 : (p == 4) = false := by simpa using h4
      have g4' : (p != 4) = true := by simpa using h4
      by_cases hv : v = 0
      · subst hv
        have HG := Lib.hid (show needC (c.drop (k + 1)) (o - 1 + manyC p) = q by rw [← HS'.out]; simp [okC, hp, show inB 0 0 399 = true from rfl])
        by_cases h0 : p = 0
        · subst h0
          have HG' := Lib.hid (show needC (c.drop (k + 1)) (o + 1) = q by rw [← HG.out, show o - 1 + manyC 0 = o + 1 by simp [manyC]; omega])
          go_wp2_with (go_at_call 38; refine (l00In_b _ _ _ _ (by assumption) _).mono ?_; rintro e w' ⟨rfl, rfl⟩)
          go_roundw
          case rel => exact ⟨k + 1, o + 1, by omega, by omega, by go_num, by go_num, HG'.out, HB.out⟩
          case measure => simp [intOf]; omega
        · have g00 : (p == 0) = false := by simpa using h0
          have HG' := Lib.hid (show needC (c.drop (k + 1)) (o - 1) = q by rw [← HG.out]; simp [manyC, h0])
          go_wp2_with (go_at_call 38; refine (l00In_b _ _ _ _ (by assumption) _).mono ?_; rintro e w' ⟨rfl, rfl⟩)
          go_roundw
          case rel => exact ⟨k + 1, o - 1, by omega, by omega, by go_num, by go_num, HG'.out, HB.out⟩
          case measure => simp [intOf]; omega
      · have gv : (v == 0) = false := by simpa using hv
        have gv' : (v != 0) = true := by simpa using hv
        have HG := Lib.hid (show false = q by rw [← HS'.out]; simp [okC, h4, hv])
        go_wp2_with (go_at_call 38; refine (l00In_b _ _ _ _ (by assumption) _).mono ?_; rintro e w' ⟨rfl, rfl⟩)
        go_ret
        exact ⟨by rw [← HG.out]; rfl, HB.out⟩
    · have HG := Lib.hid (show (o == 0) = q by rw [← hr.out, List.drop_eq_nil_of_le (by rw [HL.out]; omega)]; rfl)
      clear hb hr
      by_cases h0 : o = 0
      · subst h0
        go_wp2_with fail
        go_ret
        exact ⟨by rw [← HG.out]; rfl, HB.out⟩
      · have e1 : ((o : Int) == 0) = false := by simp; omega
        have HG' := Lib.hid (show false = q by rw [← HG.out]; simpa using h0)
        go_wp2_with fail
        go_ret
        exact ⟨by rw [← HG'.out]; rfl, HB.out⟩
set_option maxHeartbeats 1000000 in
theorem l12CombEnd_c (A : Option Addr) (n cp : Nat) (c : List (Int × Int)) (k p z : Nat) (w : World) (h : Rd2 w A n c) (hn : n ≤ 1000000000) (hp : endP manyC (c.drop k) 1 = some p) (hz : k + p = z) :
    Calls Try.prog 85 #[.slice A n cp, .int .i64 k] w fun e w' => e = .returned (.int .i64 z) ∧ w = w' := by
  have HZ := Lib.hid hz
  clear hz
  have HL := Lib.hid h.len
  have HP := Lib.hid hp
  have H := Lib.hid h; clear h hp
  have hkn : k ≤ n := by
    rcases Nat.lt_or_ge n k with h | h
    · have := HP.out; rw [List.drop_eq_nil_of_le (by rw [HL.out]; omega)] at this; cases this
    · exact h
  go_enter Try.func85, Try.ntmps85
  go_wp2_with fail
  go_loop [1, 5] (fun kv ov => ∃ j o r : Nat, j ≤ n ∧ o ≤ j + 1 ∧ kv = .int .i64 j ∧ ov = .int .i64 o ∧ Hid (endP manyC (c.drop j) o = some r) ∧ Hid (j + r = z)) (fun kv _ => n - (intOf kv).toNat)
  case atStart => exact ⟨k, 1, p, hkn, by omega, rfl, rfl, HP.out, HZ.out⟩
  case round =>
    obtain ⟨j, o, r, hj, ho, rfl, rfl, hr, hs⟩ := hrel
    by_cases ho0 : o = 0
    · subst ho0
      have HR := Lib.hid (show j = z by have := hr.out; rw [endP_zero] at this; injection this with this; have := hs.out; omega)
      clear hr hs
      go_wp2_with fail
      go_ret
      exact ⟨by rw [HR.out]; rfl, rfl⟩
    have g0 : decide ((0 : Int) < (o : Int)) = true := by rw [decide_eq_true_eq]; omega
    have hlt : j < n := by
      rcases Nat.lt_or_ge j n with h | h
      · exact h
      · have := hr.out
        rw [List.drop_eq_nil_of_le (by rw [HL.out]; omega), show o = o - 1 + 1 by omega] at this; cases this
    obtain ⟨ad, x, rfl, hab, hx, hc0, hc1⟩ := H.out.at_ hlt
    obtain ⟨t, v⟩ := x
    obtain ⟨r', hr', HS⟩ : ∃ r', endP manyC (c.drop (j + 1)) (o - 1 + manyC t) = some r' ∧ Hid (j + 1 + r' = z) := by
      have h1 := hr.out
      rw [drop_at hx, show o = o - 1 + 1 by omega, endP_cons] at h1
      obtain ⟨r', h2, h3⟩ := Option.map_eq_some_iff.1 h1
      refine ⟨r', by simpa using h2, ?_⟩
      have := hs.out; unfold Hid; omega
    have HR := Lib.hid hr'
    clear hr hs hx hr'
    by_cases h0 : t = 0
    · subst h0
      have HG := Lib.hid (show endP manyC (c.drop (j + 1)) (o + 1) = some r' by rw [← HR.out, show o - 1 + manyC 0 = o + 1 by simp [manyC]; omega])
      go_wp2_with fail
      go_round
      case rel => exact ⟨j + 1, o + 1, r', by omega, by omega, by go_num, by go_num, HG.out, HS.out⟩
      case measure => simp [intOf]; omega
    · have g00 : (t == 0) = false := by simpa using h0
      have HG := Lib.hid (show endP manyC (c.drop (j + 1)) (o - 1) = some r' by rw [← HR.out]; simp [manyC, h0])
      go_wp2_with fail
      go_round
      case rel => exact ⟨j + 1, o - 1, r', by omega, by omega, by go_num, by go_num, HG.out, HS.out⟩
      case measure => simp [intOf]; omega
end Go.Proofs.Ytfgnhdmiglobhaa
